/- The evaluator is sound: cuts; all operations. -/
import Derived.Test.YtipeimcdjijkgaaEm14
namespace Go.Dm
open Go Go.RowKit
set_option linter.unnecessarySimpa false
set_option linter.constructorNameAsVariable false
set_option linter.unusedSectionVars false
set_option linter.unusedSimpArgs false
set_option linter.unusedVariables false

variable {C : Cx} {k : List It} {s : S} {τ : TyTab}

theorem RelP.sl_sub {M : Mem} {a : Option Addr} {n c sz l h : Nat} {xs : List AV} (hr : RelP M (.slice a n c) (.sl sz xs)) (hl : l ≤ h) (hh : h ≤ xs.length) :
    RelP M (.slice (if c = l then a else a.map (·.add (l * sz))) (h - l) (c - l)) (.sl sz ((xs.take h).drop l)) := by
  cases hr with
  | sl a n c sz xs f hn hc hb hz ha hf =>
    have hz' : ∀ x ∈ (xs.take h).drop l, x.cells.length = sz := fun x hx => hz x (List.mem_of_mem_take (List.mem_of_mem_drop hx))
    have hfl : flat ((xs.take h).drop l) = ((flat xs).take (h * sz)).drop (l * sz) := by
      rw [flat_drop l (fun x hx => hz x (List.mem_of_mem_take hx)), flat_take h hz]
    refine .sl _ _ _ sz _ (fun j => f (l * sz + j)) (by simp; omega) (by omega) (by omega) hz' (fun hne => ?_) (fun j u hu => ?_)
    · have hlt : l < h := by
        rcases Nat.lt_or_ge l h with h1 | h1
        · exact h1
        · exfalso; apply hne; apply List.eq_nil_of_length_eq_zero; simp; omega
      have hxs : xs ≠ [] := by rintro rfl; simp at hh; omega
      obtain ⟨blk, off, rfl, hM⟩ := ha hxs
      rw [if_neg (by omega)]
      refine ⟨blk, off + l * sz, by simp [addr_add], fun j hj => ?_⟩
      have h2 : l * sz + j < (flat xs).length := by
        rw [hfl] at hj; simp only [List.length_drop, List.length_take] at hj; omega
      have := hM (l * sz + j) h2
      rw [← this]; congr 1; omega
    · rw [hfl, List.getElem?_drop, List.getElem?_take] at hu
      split at hu
      · exact hf _ u hu
      · cases hu

theorem bound_rel {lo : Option Operand} {r : Option Int} (h : bound s lo = some r) (hw : ∀ x, lo = some x → Done s x) {M : Mem} {E : Env} {a : Act} {w : World} (hs : St C.g C.N M E s a.tmps w) :
    lo.map a.eval = r.map fun n => Value.int .i64 n := by
  cases lo with
  | none => simp only [bound] at h; cases h; rfl
  | some x =>
    simp only [bound] at h
    split at h
    · rename_i n hn
      cases h
      have := (valW_rel hs hn (hw x rfl)).int_inv
      simp [this]
    · cases h

theorem sliceBounds_run {P : Program} (w : World) (isS : Bool) (len cap : Nat) (lo hi : Option Int) (l h : Nat) (hl : lo.map Int.toNat = some l ∨ (lo = none ∧ l = 0)) (hh : hi.map Int.toNat = some h ∨ (hi = none ∧ h = len))
    (h0 : ∀ n, lo = some n → 0 ≤ n) (h1 : ∀ n, hi = some n → 0 ≤ n) (hlh : l ≤ h) (hhc : hi ≠ none → h ≤ cap) :
    (Instr.sliceBounds isS len cap (lo.map fun n => Value.int .i64 n) (hi.map fun n => Value.int .i64 n) none).run P w = .ok (l, h, cap) w := by
  cases lo with
  | none =>
    obtain ⟨_, rfl⟩ : (none : Option Int) = none ∧ l = 0 := by rcases hl with hl | hl; · cases hl
                                                               · exact hl
    cases hi with
    | none =>
      obtain ⟨_, rfl⟩ : (none : Option Int) = none ∧ h = len := by rcases hh with hh | hh; · cases hh
                                                                   · exact hh
      simp [Instr.sliceBounds]
    | some b =>
      have hb : b.toNat = h := by rcases hh with hh | ⟨hh, _⟩; · simpa using hh
                                  · cases hh
      have hb0 := h1 b rfl
      have hbc := hhc (by simp)
      simp [Instr.sliceBounds, Instr.sliceBound, asIntOf, hb0, show b ≤ (cap : Int) by omega, hb]
  | some a =>
    have ha : a.toNat = l := by rcases hl with hl | ⟨hl, _⟩; · simpa using hl
                                · cases hl
    have ha0 := h0 a rfl
    cases hi with
    | none =>
      obtain ⟨_, rfl⟩ : (none : Option Int) = none ∧ h = len := by rcases hh with hh | hh; · cases hh
                                                                   · exact hh
      simp [Instr.sliceBounds, Instr.sliceBound, asIntOf, ha0, show a ≤ (h : Int) by omega, ha]
    | some b =>
      have hb : b.toNat = h := by rcases hh with hh | ⟨hh, _⟩; · simpa using hh
                                  · cases hh
      have hb0 := h1 b rfl
      have hbc := hhc (by simp)
      simp [Instr.sliceBounds, Instr.sliceBound, asIntOf, hb0, show b ≤ (cap : Int) by omega, hb, ha0, show a ≤ (h : Int) by omega, ha]

theorem Sound.slice (hτ : TyOk C.P τ) {o : Oper} {an : List An} {t : TypeId} {x : Operand} {lo hi : Option Operand} (ho : o.op = .slice t x lo hi none) (hd : ∀ d, o.dst = some d → d < C.N) {u : AV} {l h : Option Int}
    (hx : Has C s x u) (hlo : bound s lo = some l) (hhi : bound s hi = some h) (hwl : ∀ x, lo = some x → Done s x) (hwh : ∀ x, hi = some x → Done s x) :
    Sound C o s (evalSlice τ an t l h u) := by
  have run : ∀ (a : Act) (w : World) (v : Value) (M : Mem) (E : Env), St C.g C.N M E s a.tmps w → (∃ e, C.P.underlying t = some (.slice e)) ∨ C.P.underlying t = some .string →
      (Instr.slice t (a.eval x) (l.map fun n => Value.int .i64 n) (h.map fun n => Value.int .i64 n) none).run C.P w = .ok v w → (execOp a.eval o).run C.P w = .ok (.value v) w := by
    intro a w v M E hs ht hr
    have e1 := bound_rel hlo hwl hs
    have e2 := bound_rel hhi hwh hs
    have e1' : (Option.map a.eval lo) = (l.map fun n => Value.int .i64 n) := e1
    have e2' : (Option.map a.eval hi) = (h.map fun n => Value.int .i64 n) := e2
    rcases ht with ⟨e, ht⟩ | ht
    · simp only [execOp, ho, Instr.sliceAt, Sem.run_bind, run_underlying ht, Result.andThen_ok, e1', e2', Option.map_none]
      simp only [hr, Result.andThen_ok, Sem.run_pure]
    · simp only [execOp, ho, Instr.sliceAt, Sem.run_bind, run_underlying ht, Result.andThen_ok, e1', e2', Option.map_none]
      simp only [hr, Result.andThen_ok, Sem.run_pure]
  unfold evalSlice
  split
  · rename_i sz xs
    split
    · rename_i z hz
      split
      · rename_i hsz
        have hsz := beq_true hsz
        subst hsz
        split
        · rename_i ys an'
          obtain ⟨e, hun, hse⟩ := elemSz_sound hτ hz
          have main : ∀ (i j : Nat), (l.map Int.toNat = some i ∨ (l = none ∧ i = 0)) → (h.map Int.toNat = some j ∨ (h = none ∧ j = xs.length)) → (∀ n, l = some n → 0 ≤ n) → (∀ n, h = some n → 0 ≤ n) → i ≤ j → j ≤ xs.length →
              ys = (xs.take j).drop i → ∀ (a : Act) (w : World) (M : Mem) (E : Env), St C.g C.N M E s a.tmps w → ∃ u, (execOp a.eval o).run C.P w = .ok (.value u) w ∧ Rel M E u (.sl sz ys) := by
            intro i j hi1 hj1 h0 h1 hij hjl hys a w M E hs
            obtain ⟨hP, ad, cp, hval, hle, _⟩ := (hx a w M E hs).sl_inv
            rw [hval] at hP
            have hsub := hP.sl_sub hij hjl
            rw [← hys] at hsub
            refine ⟨_, run a w _ M E hs (.inl ⟨e, hun⟩) ?_, .cell (.pure hsub)⟩
            have hb := sliceBounds_run (P := C.P) w true xs.length cp l h i j hi1 hj1 h0 h1 hij (fun _ => by omega)
            simp only [Instr.slice, Sem.run_bind, run_underlying hun, Result.andThen_ok, hval, hb, hse, Sem.run_pure]
          split
          · refine .retG hd fun hg => main 0 xs.length (.inr ⟨rfl, rfl⟩) (.inr ⟨rfl, rfl⟩) (fun n h => by cases h) (fun n h => by cases h) (Nat.zero_le _) (Nat.le_refl _) ?_
            have := hg.1; simpa using this
          · rename_i av
            refine .retG hd fun hg => ?_
            obtain ⟨g1, g2, g3⟩ := hg.1
            exact main av.toNat xs.length (.inl rfl) (.inr ⟨rfl, rfl⟩) (fun n h => by cases h; exact g1) (fun n h => by cases h) g2 (Nat.le_refl _) (by simpa using g3)
          · rename_i bv
            refine .retG hd fun hg => ?_
            obtain ⟨g1, g2, g3⟩ := hg.1
            exact main 0 bv.toNat (.inr ⟨rfl, rfl⟩) (.inl rfl) (fun n h => by cases h) (fun n h => by cases h; exact g1) (Nat.zero_le _) g2 (by simpa using g3)
          · rename_i av bv
            refine .retG hd fun hg => ?_
            obtain ⟨g1, g2, g3, g4⟩ := hg.1
            exact main av.toNat bv.toNat (.inl rfl) (.inl rfl) (fun n h => by cases h; exact g1) (fun n h => by cases h; omega) (by omega) g3 g4
        · exact .nil
      · exact .nil
    · exact .nil
  · rename_i bs
    split
    · rename_i ti sz by' z cz hti
      have ht : C.P.underlying t = some .string := (hτ _ _ hti).kind
      have main : ∀ (i j : Nat), (l.map Int.toNat = some i ∨ (l = none ∧ i = 0)) → (h.map Int.toNat = some j ∨ (h = none ∧ j = bs.length)) → (∀ n, l = some n → 0 ≤ n) → (∀ n, h = some n → 0 ≤ n) → i ≤ j → j ≤ bs.length →
          ∀ (a : Act) (w : World) (M : Mem) (E : Env), St C.g C.N M E s a.tmps w → ∃ u, (execOp a.eval o).run C.P w = .ok (.value u) w ∧ Rel M E u (.str ((bs.take j).drop i)) := by
        intro i j hi1 hj1 h0 h1 hij hjl a w M E hs
        have hval := (hx a w M E hs).str_inv
        refine ⟨.string ⟨((bs.take j).drop i).toArray⟩, run a w _ M E hs (.inr ht) ?_, .cell (.pure (.str _))⟩
        have hsz : (ByteArray.mk bs.toArray).size = bs.length := by simp [ByteArray.size]
        have hb := sliceBounds_run (P := C.P) w false bs.length bs.length l h i j hi1 hj1 h0 h1 hij (fun _ => by omega)
        simp only [Instr.slice, Sem.run_bind, run_underlying ht, Result.andThen_ok, hval, hsz, hb, Sem.run_pure, Option.isSome_none, Bool.false_eq_true, if_false]
        congr 2
        apply ByteArray.ext
        simp [List.drop_take]
      split
      · refine .retV hd fun a w M E hs => ?_
        have := main 0 bs.length (.inr ⟨rfl, rfl⟩) (.inr ⟨rfl, rfl⟩) (fun n h => by cases h) (fun n h => by cases h) (Nat.zero_le _) (Nat.le_refl _) a w M E hs
        simpa using this
      · rename_i av
        refine .retG hd fun hg a w M E hs => ?_
        obtain ⟨g1, g2⟩ := hg.1
        have := main av.toNat bs.length (.inl rfl) (.inr ⟨rfl, rfl⟩) (fun n h => by cases h; exact g1) (fun n h => by cases h) g2 (Nat.le_refl _) a w M E hs
        simpa using this
      · rename_i bv
        refine .retG hd fun hg a w M E hs => ?_
        obtain ⟨g1, g2⟩ := hg.1
        have := main 0 bv.toNat (.inr ⟨rfl, rfl⟩) (.inl rfl) (fun n h => by cases h) (fun n h => by cases h; exact g1) (Nat.zero_le _) g2 a w M E hs
        simpa using this
      · rename_i av bv
        refine .retG hd fun hg a w M E hs => ?_
        obtain ⟨g1, g2, g3⟩ := hg.1
        exact main av.toNat bv.toNat (.inl rfl) (.inl rfl) (fun n h => by cases h; exact g1) (fun n h => by cases h; omega) (by omega) g3 a w M E hs
    · exact .nil
  · split
    · rename_i z hz
      obtain ⟨e, hun, hse⟩ := elemSz_sound hτ hz
      have main : (l.map Int.toNat = some 0 ∨ (l = none ∧ (0 : Nat) = 0)) → (h.map Int.toNat = some 0 ∨ (h = none ∧ (0 : Nat) = 0)) → (∀ n, l = some n → 0 ≤ n) → (∀ n, h = some n → 0 ≤ n) →
          ∀ (a : Act) (w : World) (M : Mem) (E : Env), St C.g C.N M E s a.tmps w → ∃ u, (execOp a.eval o).run C.P w = .ok (.value u) w ∧ Rel M E u .nils := by
        intro hi1 hj1 h0 h1 a w M E hs
        have hval := (hx a w M E hs).nils_inv
        refine ⟨.slice none 0 0, run a w _ M E hs (.inl ⟨e, hun⟩) ?_, .cell (.pure .nils)⟩
        have hb := sliceBounds_run (P := C.P) w true 0 0 l h 0 0 hi1 hj1 h0 h1 (Nat.le_refl _) (fun _ => Nat.le_refl _)
        simp only [Instr.slice, Sem.run_bind, run_underlying hun, Result.andThen_ok, hval, hb, hse, Sem.run_pure]
        simp
      split
      · exact .retV hd (main (.inr ⟨rfl, rfl⟩) (.inr ⟨rfl, rfl⟩) (fun n h => by cases h) (fun n h => by cases h))
      · rename_i av
        refine .retG hd fun hg => ?_
        have g := hg.1
        subst g
        exact main (.inl rfl) (.inr ⟨rfl, rfl⟩) (fun n h => by cases h; exact Int.le_refl _) (fun n h => by cases h)
      · rename_i bv
        refine .retG hd fun hg => ?_
        have g := hg.1
        subst g
        exact main (.inr ⟨rfl, rfl⟩) (.inl rfl) (fun n h => by cases h) (fun n h => by cases h; exact Int.le_refl _)
      · rename_i av bv
        refine .retG hd fun hg => ?_
        obtain ⟨g1, g2⟩ := hg.1
        subst g1
        subst g2
        exact main (.inl rfl) (.inl rfl) (fun n h => by cases h; exact Int.le_refl _) (fun n h => by cases h; exact Int.le_refl _)
    · exact .nil
  · exact .nil

end Go.Dm
