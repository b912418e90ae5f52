/- Cells: their order, what Check says, what is seen. -/
import Derived.Test.YtkbgkkbinnclmaaEmD
import Derived.Test.YtkbgkkbinnclmaaGf1
namespace Go.Proofs.Ytkbgkkbinnclmaa
open Go Go.Dm
set_option linter.unusedVariables false
set_option linter.unusedSimpArgs false
namespace G
/-- one cell stands ahead of another one -/
def ah (a b : Cell) : Prop := Op.bytesLess a.Row b.Row = true ∨ (a.Row = b.Row ∧ (Op.bytesLess a.Col b.Col = true ∨ (a.Col = b.Col ∧ b.Time < a.Time)))
theorem ahead_iff (a b : Cell) : R_Ahead a b = true ↔ ah a b := by
  unfold R_Ahead ah
  by_cases h1 : a.Row = b.Row
  · rw [if_neg (n_f h1)]
    have e1 : Op.bytesLess a.Row b.Row = false := by rw [h1, bl_irr]
    by_cases h2 : a.Col = b.Col
    · rw [if_neg (n_f h2)]
      have e2 : Op.bytesLess a.Col b.Col = false := by rw [h2, bl_irr]
      simp [h1, h2, bl_irr]
    · rw [if_pos (n_t h2)]
      simp [h1, h2, bl_irr]
  · rw [if_pos (n_t h1)]
    simp [h1]
theorem ahead_f {a b : Cell} : R_Ahead a b = false ↔ ¬ ah a b := by
  rw [← ahead_iff]; simp
theorem ah_irr (a : Cell) : ¬ ah a a := by
  unfold ah; simp [bl_irr]
theorem ah_trans {a b c : Cell} (h1 : ah a b) (h2 : ah b c) : ah a c := by
  unfold ah at *
  rcases h1 with h1 | ⟨e1, h1⟩
  · rcases h2 with h2 | ⟨e2, h2⟩
    · exact .inl (bl_trans h1 h2)
    · rw [← e2]; exact .inl h1
  · rcases h2 with h2 | ⟨e2, h2⟩
    · rw [e1]; exact .inl h2
    · refine .inr ⟨e1.trans e2, ?_⟩
      rcases h1 with h1 | ⟨f1, h1⟩
      · rcases h2 with h2 | ⟨f2, h2⟩
        · exact .inl (bl_trans h1 h2)
        · rw [← f2]; exact .inl h1
      · rcases h2 with h2 | ⟨f2, h2⟩
        · rw [f1]; exact .inl h2
        · exact .inr ⟨f1.trans f2, by omega⟩
theorem ah_asymm {a b : Cell} (h1 : ah a b) : ¬ ah b a := fun h2 => ah_irr a (ah_trans h1 h2)
def key (a b : Cell) : Prop := a.Row = b.Row ∧ a.Col = b.Col ∧ a.Time = b.Time
theorem ah_tri (a b : Cell) : ah a b ∨ key a b ∨ ah b a := by
  unfold ah key
  rcases bl_tri a.Row b.Row with h | h | h
  · exact .inl (.inl h)
  · rcases bl_tri a.Col b.Col with g | g | g
    · exact .inl (.inr ⟨h, .inl g⟩)
    · by_cases c1 : b.Time < a.Time
      · exact .inl (.inr ⟨h, .inr ⟨g, c1⟩⟩)
      · by_cases c2 : a.Time < b.Time
        · exact .inr (.inr (.inr ⟨h.symm, .inr ⟨g.symm, c2⟩⟩))
        · exact .inr (.inl ⟨h, g, by omega⟩)
    · exact .inr (.inr (.inr ⟨h.symm, .inl g⟩))
  · exact .inr (.inr (.inl h))
/- comparing -/
def cmpS (x y : List UInt8) : Int := if Op.bytesLess x y = true then -1 else if Op.bytesLess y x = true then 1 else 0
theorem cmpS_eq (x y : List UInt8) : cmp_Compare_string x y = cmpS x y := by
  simp [cmp_Compare_string, cmp_isNaN_string, lt, cmpS]
def cmpI (x y : Int) : Int := if x < y then -1 else if y < x then 1 else 0
theorem cmpI_eq (x y : Int) : cmp_Compare_int x y = cmpI x y := by
  simp [cmp_Compare_int, cmp_isNaN_int, lt, cmpI]
theorem or_eq (x y z : Int) : cmp_Or_int [x, y, z] = some (if x ≠ 0 then x else if y ≠ 0 then y else z) := by
  have w1 : w64 (0 + 1) = 1 := by decide
  have w2 : w64 (1 + 1) = 2 := by decide
  have w3 : w64 (2 + 1) = 3 := by decide
  have g0 : lget [x, y, z] 0 = x := rfl
  have g1 : lget [x, y, z] 1 = y := rfl
  have g2 : lget [x, y, z] 2 = z := rfl
  have b0 : cmp_Or_int_B1 [x, y, z] 0 = if x ≠ 0 then some (.inr x) else some (.inl 1) := by
    simp only [cmp_Or_int_B1]
    rw [if_pos (d_t (by simp)), asrt_pos (by simp), g0, w1]
    by_cases h : x = 0 <;> simp [h]
  have b1 : cmp_Or_int_B1 [x, y, z] 1 = if y ≠ 0 then some (.inr y) else some (.inl 2) := by
    simp only [cmp_Or_int_B1]
    rw [if_pos (d_t (by simp)), asrt_pos (by simp), g1, w2]
    by_cases h : y = 0 <;> simp [h]
  have b2 : cmp_Or_int_B1 [x, y, z] 2 = if z ≠ 0 then some (.inr z) else some (.inl 3) := by
    simp only [cmp_Or_int_B1]
    rw [if_pos (d_t (by simp)), asrt_pos (by simp), g2, w3]
    by_cases h : z = 0 <;> simp [h]
  have b3 : cmp_Or_int_B1 [x, y, z] 3 = some (.inr 0) := by
    simp only [cmp_Or_int_B1]
    rw [if_neg (d_f (by simp))]; rfl
  unfold cmp_Or_int
  by_cases h0 : x = 0
  · rw [if_neg (by simp [h0])]
    refine (loopO_inl (b0.trans (if_neg (by simp [h0])))).trans ?_
    by_cases h1 : y = 0
    · rw [if_neg (by simp [h1])]
      refine (loopO_inl (b1.trans (if_neg (by simp [h1])))).trans ?_
      by_cases h2 : z = 0
      · refine (loopO_inl (b2.trans (if_neg (by simp [h2])))).trans ?_
        rw [h2]; exact loopO_inr b3
      · exact loopO_inr (b2.trans (if_pos h2))
    · rw [if_pos h1]
      exact loopO_inr (b1.trans (if_pos h1))
  · rw [if_pos h0]
    exact loopO_inr (b0.trans (if_pos h0))
noncomputable def ord (a b : Cell) : Int := if R_Ahead a b = true then -1 else if R_Ahead b a = true then 1 else 0
theorem order_eq (a b : Cell) : cell_Order a b = some (ord a b) := by
  unfold cell_Order
  simp only [lt, cmpS_eq, cmpI_eq, or_eq, ob_some, Option.some.injEq]
  unfold ord cmpS cmpI
  rcases bl_tri a.Row b.Row with h | h | h
  · have : R_Ahead a b = true := (ahead_iff _ _).2 (.inl h)
    simp [h, this]
  · rcases bl_tri a.Col b.Col with g | g | g
    · have : R_Ahead a b = true := (ahead_iff _ _).2 (.inr ⟨h, .inl g⟩)
      simp [h, g, this, bl_irr]
    · by_cases c1 : b.Time < a.Time
      · have : R_Ahead a b = true := (ahead_iff _ _).2 (.inr ⟨h, .inr ⟨g, c1⟩⟩)
        simp [h, g, this, bl_irr, c1]
      · by_cases c2 : a.Time < b.Time
        · have h1 : R_Ahead b a = true := (ahead_iff _ _).2 (.inr ⟨h.symm, .inr ⟨g.symm, c2⟩⟩)
          have h2 : R_Ahead a b = false := ahead_f.2 (ah_asymm ((ahead_iff _ _).1 h1))
          simp [h, g, h1, h2, bl_irr, c1, c2]
        · have e : a.Time = b.Time := by omega
          have h1 : R_Ahead b a = false := ahead_f.2 (by unfold ah; simp [h, g, bl_irr, e])
          have h2 : R_Ahead a b = false := ahead_f.2 (by unfold ah; simp [h, g, bl_irr, e])
          simp [h, g, h1, h2, bl_irr, c1, c2]
    · have h1 : R_Ahead b a = true := (ahead_iff _ _).2 (.inr ⟨h.symm, .inl g⟩)
      have h2 : R_Ahead a b = false := ahead_f.2 (ah_asymm ((ahead_iff _ _).1 h1))
      simp [h, g, h1, h2, bl_irr, bl_asymm g]
  · have h1 : R_Ahead b a = true := (ahead_iff _ _).2 (.inl h)
    have h2 : R_Ahead a b = false := ahead_f.2 (ah_asymm ((ahead_iff _ _).1 h1))
    simp [h, h1, h2, bl_asymm h]
theorem ord_neg (a b : Cell) : ord a b < 0 ↔ R_Ahead a b = true := by
  unfold ord
  by_cases h : R_Ahead a b = true
  · simp [h]
  · by_cases h2 : R_Ahead b a = true <;> simp [h, h2]
theorem cell_eta (c : Cell) : (⟨c.Row, c.Col, c.Time, c.Gone, c.Value⟩ : Cell) = c := rfl
theorem code_eq (c : Cell) : cell_code c = R_CellCode c := rfl
/- Check -/
noncomputable def okp (p : Option Cell) (c : Cell) : Bool := match p with
  | some q => R_Ahead q c
  | none => true
noncomputable def ck : Option Cell → List Cell → Int → Fault
  | _, [], _ => ⟨0, 0⟩
  | p, c :: l, i => if R_CellCode c ≠ 0 then ⟨R_CellCode c, i⟩ else if okp p c = true then ck (some c) l (i + 1) else ⟨10, i⟩
def prv (l : List Cell) (k : Nat) : Option Cell := if k = 0 then none else some (lget l ((k : Int) - 1))
theorem prv_succ (l : List Cell) (k : Nat) : prv l (k + 1) = some (lget l (k : Int)) := by
  unfold prv
  rw [if_neg (by omega)]
  have : ((k + 1 : Nat) : Int) - 1 = (k : Int) := by omega
  rw [this]
theorem check_loop (l : List Cell) (hl : l.length ≤ 1000) (z : Fault) : ∀ (m k : Nat), l.length - k = m → k ≤ l.length → cell_Check_L1 l (z, (k : Int)) = some (ck (prv l k) (l.drop k) k)
  | 0, k, e, hk => by
    have : k = l.length := by omega
    subst this
    refine loopO_inr ?_
    simp only [cell_Check_B1]
    rw [if_neg (d_f (by omega)), List.drop_length]; rfl
  | m + 1, k, e, hk => by
    have hlt : k < l.length := by omega
    have hw : w64 ((k : Int) + 1) = ((k + 1 : Nat) : Int) := by rw [w64_id (by omega) (by omega)]; omega
    have hw2 : w64 ((k : Int) - 1) = (k : Int) - 1 := w64_id (by omega) (by omega)
    have ih := check_loop l hl z m (k + 1) (by omega) (by omega)
    rw [lget_drop l k hlt, ck]
    by_cases c1 : R_CellCode (lget l (k : Int)) = 0
    · rw [if_neg (by simp [c1])]
      by_cases hk0 : k = 0
      · subst hk0
        have e1 : okp (prv l 0) (lget l ((0 : Nat) : Int)) = true := rfl
        rw [if_pos e1]
        refine (loopO_inl (y := (z, ((0 + 1 : Nat) : Int))) ?_).trans (ih.trans (by rw [prv_succ]; rfl))
        simp only [cell_Check_B1]
        rw [if_pos (d_t (by omega)), asrt_pos (by omega)]
        rw [cell_eta, code_eq]
        dsimp only [lt]
        rw [if_neg (n_f c1), asrt_pos (fun h => by simp at h), if_neg (by simp), ob_some, if_neg (by simp), hw]
      · have ep : prv l k = some (lget l ((k : Int) - 1)) := by unfold prv; rw [if_neg hk0]
        have hpos : (0 : Int) < (k : Int) := by omega
        have eo : okp (some (lget l ((k : Int) - 1))) (lget l (k : Int)) = R_Ahead (lget l ((k : Int) - 1)) (lget l (k : Int)) := rfl
        rw [ep, eo]
        by_cases c2 : R_Ahead (lget l ((k : Int) - 1)) (lget l (k : Int)) = true
        · rw [if_pos c2]
          have e1 : (k : Int) + 1 = ((k + 1 : Nat) : Int) := by omega
          refine (loopO_inl (y := (z, ((k + 1 : Nat) : Int))) ?_).trans (ih.trans (by rw [prv_succ, e1]))
          simp only [cell_Check_B1]
          rw [if_pos (d_t (by omega)), asrt_pos (by omega)]
          have h0 := (ord_neg _ _).2 c2
          rw [cell_eta, code_eq]
          dsimp only [lt]
          rw [if_neg (n_f c1), hw2, asrt_pos (fun h => by omega), if_pos (d_t hpos), cell_eta, order_eq, ob_some, if_neg (an_f (by omega)), hw]
        · rw [if_neg c2]
          have h0 : ¬ ord (lget l ((k : Int) - 1)) (lget l (k : Int)) < 0 := fun h => c2 ((ord_neg _ _).1 h)
          refine loopO_inr ?_
          simp only [cell_Check_B1]
          rw [if_pos (d_t (by omega)), asrt_pos (by omega)]
          rw [cell_eta, code_eq]
          dsimp only [lt]
          rw [if_neg (n_f c1), hw2, asrt_pos (fun h => by omega), if_pos (d_t hpos), cell_eta, order_eq, ob_some, if_pos (an_t (by omega))]
          rfl
    · rw [if_pos c1]
      refine loopO_inr ?_
      simp only [cell_Check_B1]
      rw [if_pos (d_t (by omega)), asrt_pos (by omega)]
      rw [cell_eta, code_eq]
      dsimp only [lt]
      rw [if_pos (n_t c1)]; rfl
theorem rcheck_loop (l : List Cell) (hl : l.length ≤ 1000) (z : Fault) : ∀ (m k : Nat), l.length - k = m → k ≤ l.length → R_CellsFault_L1 l (z, (k : Int)) = some (ck (prv l k) (l.drop k) k)
  | 0, k, e, hk => by
    have : k = l.length := by omega
    subst this
    refine loopO_inr ?_
    simp only [R_CellsFault_B1]
    rw [if_neg (d_f (by omega)), List.drop_length]; rfl
  | m + 1, k, e, hk => by
    have hlt : k < l.length := by omega
    have hw : w64 ((k : Int) + 1) = ((k + 1 : Nat) : Int) := by rw [w64_id (by omega) (by omega)]; omega
    have hw2 : w64 ((k : Int) - 1) = (k : Int) - 1 := w64_id (by omega) (by omega)
    have ih := rcheck_loop l hl z m (k + 1) (by omega) (by omega)
    rw [lget_drop l k hlt, ck]
    by_cases c1 : R_CellCode (lget l (k : Int)) = 0
    · rw [if_neg (by simp [c1])]
      by_cases hk0 : k = 0
      · subst hk0
        have e1 : okp (prv l 0) (lget l ((0 : Nat) : Int)) = true := rfl
        rw [if_pos e1]
        refine (loopO_inl (y := (z, ((0 + 1 : Nat) : Int))) ?_).trans (ih.trans (by rw [prv_succ]; rfl))
        simp only [R_CellsFault_B1]
        rw [if_pos (d_t (by omega)), asrt_pos (by omega)]
        rw [cell_eta]
        dsimp only [lt]
        rw [if_neg (n_f c1), asrt_pos (fun h => by simp at h), asrt_pos (fun h => by simp at h), if_neg (by simp), hw]
      · have ep : prv l k = some (lget l ((k : Int) - 1)) := by unfold prv; rw [if_neg hk0]
        have hpos : (0 : Int) < (k : Int) := by omega
        have eo : okp (some (lget l ((k : Int) - 1))) (lget l (k : Int)) = R_Ahead (lget l ((k : Int) - 1)) (lget l (k : Int)) := rfl
        rw [ep, eo]
        have e1 : (k : Int) + 1 = ((k + 1 : Nat) : Int) := by omega
        have hd : decide ((0 : Int) < (k : Int)) = true := d_t hpos
        by_cases c2 : R_Ahead (lget l ((k : Int) - 1)) (lget l (k : Int)) = true
        · rw [if_pos c2]
          refine (loopO_inl (y := (z, ((k + 1 : Nat) : Int))) ?_).trans (ih.trans (by rw [prv_succ, e1]))
          simp only [R_CellsFault_B1]
          rw [if_pos (d_t (by omega)), asrt_pos (by omega)]
          rw [cell_eta]
          dsimp only [lt]
          rw [if_neg (n_f c1), hw2, asrt_pos (fun h => by omega), asrt_pos (fun h => by omega), cell_eta, c2, if_neg (by simp), hw]
        · rw [if_neg c2]
          refine loopO_inr ?_
          simp only [R_CellsFault_B1]
          rw [if_pos (d_t (by omega)), asrt_pos (by omega)]
          have c2' : R_Ahead (lget l ((k : Int) - 1)) (lget l (k : Int)) = false := by simpa using c2
          rw [cell_eta]
          dsimp only [lt]
          rw [if_neg (n_f c1), hw2, asrt_pos (fun h => by omega), asrt_pos (fun h => by omega), cell_eta, c2', hd, if_pos (by rfl)]
          rfl
    · rw [if_pos c1]
      refine loopO_inr ?_
      simp only [R_CellsFault_B1]
      rw [if_pos (d_t (by omega)), asrt_pos (by omega)]
      rw [cell_eta]
      dsimp only [lt]
      rw [if_pos (n_t c1)]; rfl
noncomputable def cellF (l : List Cell) : Fault := if 1000 < l.length then ⟨2, 0⟩ else ck none l 0
theorem check_eq (l : List Cell) : cell_Check l = some (cellF l) := by
  unfold cell_Check cellF
  by_cases c : 1000 < l.length
  · rw [if_pos (d_t (by omega)), if_pos c]; rfl
  · rw [if_neg (d_f (by omega)), if_neg c]
    exact check_loop l (by omega) ⟨0, 0⟩ l.length 0 (by omega) (by omega)
theorem rcheck_eq (l : List Cell) : R_CellsFault l = some (cellF l) := by
  unfold R_CellsFault cellF
  by_cases c : 1000 < l.length
  · rw [if_pos (d_t (by omega)), if_pos c]; rfl
  · rw [if_neg (d_f (by omega)), if_neg c]
    exact rcheck_loop l (by omega) ⟨0, 0⟩ l.length 0 (by omega) (by omega)
theorem ck_good : ∀ (l : List Cell) (p : Option Cell) (i : Int), (ck p l i).Code = 0 → ck p l i = ⟨0, 0⟩ ∧ (∀ c ∈ l, R_CellCode c = 0) ∧ l.Pairwise ah ∧ ∀ q, p = some q → ∀ c ∈ l, ah q c
  | [], p, i, h => ⟨rfl, by simp, .nil, by simp⟩
  | c :: l, p, i, h => by
    rw [ck] at h ⊢
    by_cases c1 : R_CellCode c = 0
    · rw [if_neg (by simp [c1])] at h ⊢
      by_cases c2 : okp p c = true
      · rw [if_pos c2] at h ⊢
        obtain ⟨h1, h2, h3, h4⟩ := ck_good l (some c) (i + 1) h
        refine ⟨h1, ?_, List.pairwise_cons.2 ⟨h4 c rfl, h3⟩, ?_⟩
        · intro x hx
          rcases List.mem_cons.1 hx with rfl | hx
          · exact c1
          · exact h2 x hx
        · rintro q rfl x hx
          have hq : ah q c := (ahead_iff _ _).1 c2
          rcases List.mem_cons.1 hx with rfl | hx
          · exact hq
          · exact ah_trans hq (h4 c rfl x hx)
      · rw [if_neg c2] at h; cases h
    · rw [if_pos c1] at h; exact absurd h c1
structure Good (l : List Cell) : Prop where
  f : cellF l = ⟨0, 0⟩
  len : l.length ≤ 1000
  code : ∀ c ∈ l, R_CellCode c = 0
  srt : l.Pairwise ah
theorem cellF_good {l : List Cell} (h : (cellF l).Code = 0) : Good l := by
  unfold cellF at h
  by_cases c : 1000 < l.length
  · rw [if_pos c] at h; cases h
  · rw [if_neg c] at h
    obtain ⟨h1, h2, h3, _⟩ := ck_good l none 0 h
    exact ⟨by unfold cellF; rw [if_neg c, h1], by omega, h2, h3⟩
theorem Good.at {l : List Cell} (h : Good l) {i j : Nat} (hij : i < j) (hj : j < l.length) : ah (lget l (i : Int)) (lget l (j : Int)) := by
  rw [lget_nat l i (by omega), lget_nat l j hj]
  exact (List.pairwise_iff_getElem.1 h.srt) i j (by omega) hj hij
theorem code_val {c : Cell} (h : R_CellCode c = 0) (hg : c.Gone = true) : c.Value = [] := by
  unfold R_CellCode at h
  split at h
  · cases h
  · split at h
    · cases h
    · split at h
      · cases h
      · rename_i h3
        rw [hg] at h3
        simpa using h3
/- what is seen of a place -/
def at' (row col : List UInt8) (t : Int) (c : Cell) : Bool := decide (c.Row = row) && decide (c.Col = col) && decide (c.Time ≤ t)
theorem at_iff {row col : List UInt8} {t : Int} {c : Cell} : at' row col t c = true ↔ c.Row = row ∧ c.Col = col ∧ c.Time ≤ t := by
  unfold at'; simp [and_assoc]
def fnd (l : List Cell) (row col : List UInt8) (t : Int) : Option Cell := l.find? (at' row col t)
theorem fnd_some {l : List Cell} {row col : List UInt8} {t : Int} {i : Nat} (hi : i < l.length) (h : at' row col t (lget l (i : Int)) = true) (hn : ∀ j < i, at' row col t (lget l (j : Int)) = false) : fnd l row col t = some (lget l (i : Int)) := by
  unfold fnd
  rw [List.find?_eq_some_iff_getElem]
  refine ⟨h, i, hi, (lget_nat l i hi).symm, fun j hj => ?_⟩
  have := hn j hj
  rw [lget_nat l j (by omega)] at this
  simp [this]
theorem fnd_none {l : List Cell} {row col : List UInt8} {t : Int} (hn : ∀ j < l.length, at' row col t (lget l (j : Int)) = false) : fnd l row col t = none := by
  unfold fnd
  rw [List.find?_eq_none]
  intro x hx
  obtain ⟨i, hi, rfl⟩ := List.mem_iff_getElem.1 hx
  have := hn i hi
  rw [lget_nat l i hi] at this
  simp [this]
theorem bsearch_loop (l : List Cell) (hg : Good l) (t : Cell) : ∀ (m i j : Nat), j - i = m → i ≤ j → j ≤ l.length → (∀ n < i, R_Ahead (lget l (n : Int)) t = true) → (∀ n, j ≤ n → n < l.length → R_Ahead (lget l (n : Int)) t = false) →
    ∃ (n : Nat) (b : Bool), slices_BinarySearchFunc_api_Cell_api_Cell_api_Cell_L1 l (t, (i : Int), (j : Int)) = some ((n : Int), b) ∧ n ≤ l.length ∧ (∀ k < n, R_Ahead (lget l (k : Int)) t = true) ∧ (∀ k, n ≤ k → k < l.length → R_Ahead (lget l (k : Int)) t = false) := by
  intro m
  induction m using Nat.strongRecOn with
  | _ m ih =>
    intro i j e hij hjl h1 h2
    have hlen := hg.len
    by_cases c : i < j
    · have hw : w64 (Int.fdiv (IntKind.u64.wrap (w64 ((i : Int) + (j : Int)))) (2 ^ (min (1 : Int).toNat 64))) = (((i + j) / 2 : Nat) : Int) := by
        have e2 : (2 : Int) ^ (min (1 : Int).toNat 64) = ((2 : Nat) : Int) := by decide
        have e1 : IntKind.u64.wrap (w64 ((i : Int) + (j : Int))) = ((i + j : Nat) : Int) := by
          rw [w64_id (by omega) (by omega)]
          unfold IntKind.wrap
          simp only [IntKind.signed, IntKind.bits]
          simp
          omega
        rw [e1, e2, fdiv_nat', w64_id (by omega) (by omega)]
      generalize hh : (i + j) / 2 = h at hw
      have hi1 : i ≤ h := by omega
      have hj1 : h < j := by omega
      have hw1 : w64 ((h : Int) + 1) = ((h + 1 : Nat) : Int) := by rw [w64_id (by omega) (by omega)]; omega
      by_cases ca : R_Ahead (lget l (h : Int)) t = true
      · obtain ⟨n, b, r1, r2⟩ := ih (j - (h + 1)) (by omega) (h + 1) j rfl (by omega) hjl (fun n hn => by
          by_cases hnh : n = h
          · subst hnh; exact ca
          · exact (ahead_iff _ _).2 (ah_trans (hg.at (by omega) (by omega)) ((ahead_iff _ _).1 ca))) h2
        refine ⟨n, b, (loopO_inl (y := (t, ((h + 1 : Nat) : Int), (j : Int))) ?_).trans r1, r2⟩
        simp only [slices_BinarySearchFunc_api_Cell_api_Cell_api_Cell_B1]
        rw [if_pos (d_t (by omega)), hw]
        dsimp only [lt]
        rw [asrt_pos (by omega), cell_eta, order_eq, ob_some, if_pos (d_t ((ord_neg _ _).2 ca)), hw1]
      · obtain ⟨n, b, r1, r2⟩ := ih (h - i) (by omega) i h rfl (by omega) (by omega) h1 (fun n hn hnl => by
          by_cases hnh : n = h
          · subst hnh; simpa using ca
          · refine ahead_f.2 fun hh2 => ca ((ahead_iff _ _).2 (ah_trans (hg.at (i := h) (j := n) (by omega) hnl) hh2)))
        refine ⟨n, b, (loopO_inl (y := (t, (i : Int), (h : Int))) ?_).trans r1, r2⟩
        simp only [slices_BinarySearchFunc_api_Cell_api_Cell_api_Cell_B1]
        rw [if_pos (d_t (by omega)), hw]
        dsimp only [lt]
        rw [asrt_pos (by omega), cell_eta, order_eq, ob_some, if_neg (d_f (fun hn => ca ((ord_neg _ _).1 hn)))]
    · have : i = j := by omega
      subst this
      have hJ : ∃ b, slices_BinarySearchFunc_api_Cell_api_Cell_api_Cell_J1 l (t, (i : Int)) = some ((i : Int), b) := by
        unfold slices_BinarySearchFunc_api_Cell_api_Cell_api_Cell_J1
        dsimp only
        by_cases ci : (i : Int) < (l.length : Int)
        · rw [asrt_pos (fun _ => by omega), if_pos (d_t ci), order_eq, ob_some]
          exact ⟨_, rfl⟩
        · rw [asrt_pos (fun h => absurd (of_decide_eq_true h) ci), if_neg (d_f ci), ob_some]
          exact ⟨_, rfl⟩
      obtain ⟨b, hb⟩ := hJ
      refine ⟨i, b, loopO_inr ?_, hjl, h1, h2⟩
      simp only [slices_BinarySearchFunc_api_Cell_api_Cell_api_Cell_B1]
      rw [if_neg (d_f (by omega)), hb]; rfl
def cell0 : Cell := ⟨[], [], 0, false, []⟩
def newS (l : List Cell) (row col : List UInt8) (t : Int) : Cell × Bool := match fnd l row col t with
  | some c => (c, true)
  | none => (cell0, false)
theorem newest_eq (l : List Cell) (hg : Good l) (row col : List UInt8) (t : Int) : cell_Newest l row col t = some (newS l row col t) := by
  have hlen := hg.len
  obtain ⟨n, b, r1, r2, r3, r4⟩ := bsearch_loop l hg ⟨row, col, t, false, []⟩ l.length 0 l.length (by omega) (by omega) (by omega) (fun n hn => by omega) (fun n h1 h2 => by omega)
  have r1' : slices_BinarySearchFunc_api_Cell_api_Cell_api_Cell l ⟨row, col, t, false, []⟩ = some ((n : Int), b) := r1
  have early : ∀ j < n, at' row col t (lget l (j : Int)) = false := fun j hj => by
    have := (ahead_iff _ _).1 (r3 j hj)
    cases ha : at' row col t (lget l (j : Int)) with
    | false => rfl
    | true =>
      obtain ⟨a1, a2, a3⟩ := at_iff.1 ha
      unfold ah at this
      simp only [a1, a2, bl_irr] at this
      simp at this; omega
  unfold cell_Newest
  rw [r1', ob_some]
  dsimp only
  by_cases cn : n < l.length
  · have hlt : (n : Int) < (l.length : Int) := by omega
    have hnb := ahead_f.1 (r4 n (Nat.le_refl _) cn)
    rw [asrt_pos (fun _ => by omega), asrt_pos (fun _ => by omega)]
    by_cases cp : (lget l (n : Int)).Row = row ∧ (lget l (n : Int)).Col = col
    · have hat : at' row col t (lget l (n : Int)) = true := at_iff.2 ⟨cp.1, cp.2, by
        by_cases ht : (lget l (n : Int)).Time ≤ t
        · exact ht
        · exact absurd (.inr ⟨cp.1, .inr ⟨cp.2, by dsimp only; omega⟩⟩) hnb⟩
      have hf := fnd_some cn hat early
      rw [if_pos (by simp [hlt, cp.1, cp.2]), asrt_pos (by omega)]
      unfold newS
      rw [hf]
    · have hf : fnd l row col t = none := fnd_none fun j hj => by
        by_cases hjn : j < n
        · exact early j hjn
        · cases ha : at' row col t (lget l (j : Int)) with
          | false => rfl
          | true =>
            exfalso
            obtain ⟨a1, a2, a3⟩ := at_iff.1 ha
            by_cases hjn2 : j = n
            · subst hjn2; exact cp ⟨a1, a2⟩
            · have h3 := hg.at (i := n) (j := j) (by omega) hj
              unfold ah at h3 hnb
              rw [a1, a2] at h3
              dsimp only at hnb
              refine cp ?_
              rcases h3 with h3 | ⟨h3, h4⟩
              · exact absurd (.inl h3) hnb
              · refine ⟨h3, ?_⟩
                rcases h4 with h4 | ⟨h4, _⟩
                · exact absurd (.inr ⟨h3, .inl h4⟩) hnb
                · exact h4
      rw [if_neg (by simp; exact fun _ h1 h2 => cp ⟨h1, h2⟩)]
      unfold newS
      rw [hf]; rfl
  · have hlt : ¬ (n : Int) < (l.length : Int) := by omega
    have hf : fnd l row col t = none := fnd_none fun j hj => early j (by omega)
    rw [asrt_pos (fun h => absurd (of_decide_eq_true h) hlt), asrt_pos (fun h => by simp [hlt] at h), if_neg (by simp [hlt])]
    unfold newS
    rw [hf]; rfl
/-- what the document says is seen -/
def seenS (l : List Cell) (row col : List UInt8) (t : Int) : Cell × Bool := match fnd l row col t with
  | some c => if c.Gone = true then (cell0, false) else (c, true)
  | none => (cell0, false)
theorem seen_J1 (l : List Cell) (z : Cell) (n : Nat) (hn : n < l.length) (hl : l.length ≤ 1000000) : R_SeenCell_J1 l (z, (n : Int)) = some (if (lget l (n : Int)).Gone = true then (cell0, false) else (lget l (n : Int), true)) := by
  unfold R_SeenCell_J1
  have h0 : decide ((n : Int) < 0) = false := decide_eq_false (by omega)
  dsimp only
  rw [asrt_pos (fun _ => by omega), h0]
  by_cases c : (lget l (n : Int)).Gone = true
  · rw [if_pos (by rw [c]; rfl), if_pos c]; rfl
  · rw [if_neg (by simpa using c), if_neg c, asrt_pos (by omega)]
theorem seen_loop (l : List Cell) (hg : Good l) (row col : List UInt8) (t : Int) (z : Cell) : ∀ (m k : Nat) (best : Int), l.length - k = m → k ≤ l.length →
    ((best = -1 ∧ ∀ j < k, at' row col t (lget l (j : Int)) = false) ∨ (∃ n : Nat, best = (n : Int) ∧ n < k ∧ at' row col t (lget l (n : Int)) = true ∧ ∀ j < n, at' row col t (lget l (j : Int)) = false)) →
    R_SeenCell_L1 l row col t (z, best, (k : Int)) = some (seenS l row col t)
  | 0, k, best, e, hk, hb => by
    have hlen := hg.len
    have : k = l.length := by omega
    subst this
    refine loopO_inr ?_
    simp only [R_SeenCell_B1]
    rw [if_neg (d_f (by omega))]
    rcases hb with ⟨rfl, h⟩ | ⟨n, rfl, h1, h2, h3⟩
    · have : R_SeenCell_J1 l (z, -1) = some (cell0, false) := by
        unfold R_SeenCell_J1
        dsimp only
        rw [asrt_pos (fun h => by simp at h), if_pos (by simp)]; rfl
      rw [this]
      unfold seenS
      rw [fnd_none h]; rfl
    · rw [seen_J1 l z n h1 (by omega)]
      unfold seenS
      rw [fnd_some h1 h2 h3]; rfl
  | m + 1, k, best, e, hk, hb => by
    have hlen := hg.len
    have hlt : k < l.length := by omega
    have hw : w64 ((k : Int) + 1) = ((k + 1 : Nat) : Int) := by rw [w64_id (by omega) (by omega)]; omega
    have hbr : best < 0 ∨ (0 ≤ best ∧ best < (l.length : Int)) := by
      rcases hb with ⟨rfl, _⟩ | ⟨n, rfl, h1, _⟩
      · left; omega
      · right; omega
    have em1 : l.length - (k + 1) = m := by clear hb hbr; omega
    have em2 : k + 1 ≤ l.length := hlt
    have step : ∀ b', (if ((((decide ((lget l (k : Int)).Row = row)) && (decide ((lget l (k : Int)).Col = col))) && (decide ((lget l (k : Int)).Time ≤ t))) && ((decide (best < 0)) || (decide ((lget l best).Time < (lget l (k : Int)).Time)))) = true then some (z, (k : Int)) else some (z, best)) = some (z, b') →
        R_SeenCell_B1 l row col t (z, best, (k : Int)) = some (.inl (z, b', ((k + 1 : Nat) : Int))) := by
      intro b' h
      clear hb
      simp only [R_SeenCell_B1]
      rw [if_pos (d_t (by omega)), asrt_pos (by omega), asrt_pos (fun _ => by omega), asrt_pos (fun _ => by omega), asrt_pos (fun _ _ => by omega), asrt_pos (fun h _ => by simp at h; omega), h, ob_some, hw]
    have hat : (((decide ((lget l (k : Int)).Row = row)) && (decide ((lget l (k : Int)).Col = col))) && (decide ((lget l (k : Int)).Time ≤ t))) = at' row col t (lget l (k : Int)) := rfl
    rw [hat] at step
    cases ha : at' row col t (lget l (k : Int)) with
    | false =>
      have ih := seen_loop l hg row col t z m (k + 1) best em1 em2 (by
        rcases hb with ⟨rfl, h⟩ | ⟨n, rfl, h1, h2, h3⟩
        · refine .inl ⟨rfl, fun j hj => ?_⟩
          by_cases hjk : j = k
          · subst hjk; exact ha
          · exact h j (by omega)
        · exact .inr ⟨n, rfl, by omega, h2, h3⟩)
      exact (loopO_inl (step best (by rw [ha]; simp))).trans ih
    | true =>
      rcases hb with ⟨rfl, h⟩ | ⟨n, rfl, h1, h2, h3⟩
      · have ih := seen_loop l hg row col t z m (k + 1) (k : Int) em1 em2 (.inr ⟨k, rfl, by omega, ha, h⟩)
        exact (loopO_inl (step (k : Int) (by rw [ha]; simp))).trans ih
      · have ih := seen_loop l hg row col t z m (k + 1) (n : Int) em1 em2 (.inr ⟨n, rfl, by omega, h2, h3⟩)
        refine (loopO_inl (step (n : Int) ?_)).trans ih
        have h4 := hg.at h1 hlt
        obtain ⟨a1, a2, a3⟩ := at_iff.1 ha
        obtain ⟨b1, b2, b3⟩ := at_iff.1 h2
        unfold ah at h4
        simp only [a1, a2, b1, b2, bl_irr] at h4
        have h5 : ¬ (lget l (n : Int)).Time < (lget l (k : Int)).Time := by simp at h4; omega
        rw [ha, if_neg]
        have h0 : decide ((n : Int) < 0) = false := decide_eq_false (by omega)
        rw [h0, decide_eq_false h5]; simp
theorem seen_eq (l : List Cell) (hg : Good l) (row col : List UInt8) (t : Int) : R_SeenCell l row col t = some (seenS l row col t) :=
  seen_loop l hg row col t _ l.length 0 (-1) (by omega) (by omega) (.inl ⟨rfl, fun j hj => by omega⟩)
/- Get -/
noncomputable def getF (l : List Cell) (t : Int) : Fault := if (cellF l).Code = 0 ∧ (t < 0 ∨ 1000000000 < t) then ⟨3, -1⟩ else cellF l
noncomputable def getS (l : List Cell) (row col : List UInt8) (t : Int) : List UInt8 × Bool × Fault :=
  if (getF l t).Code = 0 then ((seenS l row col t).1.Value, (seenS l row col t).2, ⟨0, 0⟩) else ([], false, getF l t)
theorem getF_1 {l : List Cell} {t : Int} (c : (cellF l).Code = 0) (c2 : t < 0 ∨ 1000000000 < t) : getF l t = ⟨3, -1⟩ := by unfold getF; rw [if_pos ⟨c, c2⟩]
theorem getF_2 {l : List Cell} {t : Int} (c : ¬ ((cellF l).Code = 0 ∧ (t < 0 ∨ 1000000000 < t))) : getF l t = cellF l := by unfold getF; rw [if_neg c]
theorem get_eq (l : List Cell) (row col : List UInt8) (t : Int) : cell_Get l row col t = some (getS l row col t) := by
  unfold cell_Get
  rw [check_eq, ob_some]
  by_cases c : (cellF l).Code = 0
  · have hg := cellF_good c
    rw [if_neg (n_f c)]
    by_cases c2 : t < 0 ∨ 1000000000 < t
    · have hs : getS l row col t = ([], false, ⟨3, -1⟩) := by unfold getS; rw [getF_1 c c2]; simp
      rw [if_pos (or_t c2), hs]; rfl
    · have hF := getF_2 (l := l) (t := t) (fun h => c2 h.2)
      have hs : getS l row col t = ((seenS l row col t).1.Value, (seenS l row col t).2, ⟨0, 0⟩) := by unfold getS; rw [hF, if_pos c]
      rw [if_neg (or_f c2), newest_eq l hg, ob_some, hs]
      unfold newS seenS
      cases hf : fnd l row col t with
      | none => simp [cell0]
      | some x =>
        have hx : x ∈ l := List.mem_of_find?_eq_some hf
        by_cases hgn : x.Gone = true
        · have := code_val (hg.code x hx) hgn
          simp [hgn, this, cell0]
        · simp [hgn]
  · have hF := getF_2 (l := l) (t := t) (fun h => c h.1)
    have hs : getS l row col t = ([], false, cellF l) := by unfold getS; rw [hF, if_neg c]
    rw [if_pos (n_t c), hs]
theorem sameCells_loop (a b : List Cell) (hl : a.length = b.length) (hb : a.length ≤ 1000000) : ∀ (m k : Nat), a.length - k = m → k ≤ a.length → ∀ r, (r = true ↔ a.drop k = b.drop k) → R_SameCells_L1 a b (k : Int) = some r
  | 0, k, e, hk, r, hr => by
    have : k = a.length := by omega
    refine loopO_inr ?_
    simp only [R_SameCells_B1]
    rw [if_neg (d_f (by omega))]
    have e1 : a.drop k = [] := List.drop_eq_nil_of_le (by omega)
    have e2 : b.drop k = [] := List.drop_eq_nil_of_le (by omega)
    have : r = true := hr.2 (by rw [e1, e2])
    subst this; rfl
  | m + 1, k, e, hk, r, hr => by
    have hw : w64 ((k : Int) + 1) = ((k + 1 : Nat) : Int) := by rw [w64_id (by omega) (by omega)]; omega
    rw [lget_drop a k (by omega), lget_drop b k (by omega)] at hr
    have ee : (decide ((lget a (k : Int)).Row = (lget b (k : Int)).Row) && (decide ((lget a (k : Int)).Col = (lget b (k : Int)).Col) && (decide ((lget a (k : Int)).Time = (lget b (k : Int)).Time) && (((lget a (k : Int)).Gone == (lget b (k : Int)).Gone) && (decide ((lget a (k : Int)).Value = (lget b (k : Int)).Value) && true))))) = true ↔ lget a (k : Int) = lget b (k : Int) := by
      cases lget a (k : Int); cases lget b (k : Int); simp
    by_cases c : lget a (k : Int) = lget b (k : Int)
    · have ih := sameCells_loop a b hl hb m (k + 1) (by omega) (by omega) r (by rw [hr]; simp [c])
      refine (loopO_inl (y := ((k + 1 : Nat) : Int)) ?_).trans ih
      simp only [R_SameCells_B1]
      rw [if_pos (d_t (by omega)), asrt_pos (by omega), asrt_pos (by omega), if_neg (by rw [ee.2 c]; simp), hw]
    · have : r = false := by
        cases r with
        | false => rfl
        | true => exact absurd (List.head_eq_of_cons_eq (hr.1 rfl)) c
      subst this
      refine loopO_inr ?_
      simp only [R_SameCells_B1]
      have e2 := mt ee.1 c
      rw [if_pos (d_t (by omega)), asrt_pos (by omega), asrt_pos (by omega), if_pos (by rw [Bool.not_eq_true] at e2; rw [e2]; rfl)]
theorem sameCells_self (a : List Cell) (hb : a.length ≤ 1000000) : R_SameCells a a = some true := by
  unfold R_SameCells
  rw [if_neg (by simp)]
  exact sameCells_loop a a rfl hb a.length 0 (by omega) (by omega) true (by simp)
theorem cbegun : law_cellBegun = some true := by
  unfold law_cellBegun
  have hg : Good [(⟨[114], [99], 2, false, [98]⟩ : Cell), ⟨[114], [99], 1, false, [97]⟩] := by
    refine cellF_good ?_
    simp [cellF, ck, R_CellCode, okp, R_Ahead]
  have h1 : cell_Get law_versions [114] [99] 1 = some ([97], true, ⟨0, 0⟩) := by
    rw [get_eq]
    simp [law_versions, lt, getS, getF, hg.f, seenS, fnd, at']
  have h2 : cell_Get law_versions [114] [99] 0 = some ([], false, ⟨0, 0⟩) := by
    rw [get_eq]
    simp [law_versions, lt, getS, getF, hg.f, seenS, fnd, at', cell0]
  simp only [lt, h1, h2, ob_some]
  simp
end G
end Go.Proofs.Ytkbgkkbinnclmaa
