/- Cells: their order, what Check says. -/
import Derived.Test.YtollmifjbcccgaaEmD
import Derived.Test.YtollmifjbcccgaaEmD
import Derived.Test.YtollmifjbcccgaaGf1
namespace Go.Proofs.Ytollmifjbcccgaa
open Go Go.Dm
set_option linter.unusedVariables false
set_option linter.unusedSectionVars false
set_option linter.unusedSimpArgs false
namespace G
/-- one cell stands ahead of another one -/
def ah (a b : Cell) : Prop := Op.bytesLess a.Row b.Row = true ∨ (a.Row = b.Row ∧ (Op.bytesLess a.Col b.Col = true ∨ (a.Col = b.Col ∧ b.Time < a.Time)))
theorem ahead_iff (a b : Cell) : R_Ahead a b = true ↔ ah a b := by
  unfold R_Ahead ah
  by_cases h1 : a.Row = b.Row
  · rw [if_neg (n_f h1)]
    have e1 : Op.bytesLess a.Row b.Row = false := by rw [h1, bl_irr]
    by_cases h2 : a.Col = b.Col
    · rw [if_neg (n_f h2)]
      have e2 : Op.bytesLess a.Col b.Col = false := by rw [h2, bl_irr]
      simp [h1, h2, bl_irr]
    · rw [if_pos (n_t h2)]
      simp [h1, h2, bl_irr]
  · rw [if_pos (n_t h1)]
    simp [h1]
theorem ahead_f {a b : Cell} : R_Ahead a b = false ↔ ¬ ah a b := by
  rw [← ahead_iff]; simp
theorem ah_irr (a : Cell) : ¬ ah a a := by
  unfold ah; simp [bl_irr]
theorem ah_trans {a b c : Cell} (h1 : ah a b) (h2 : ah b c) : ah a c := by
  unfold ah at *
  rcases h1 with h1 | ⟨e1, h1⟩
  · rcases h2 with h2 | ⟨e2, h2⟩
    · exact .inl (bl_trans h1 h2)
    · rw [← e2]; exact .inl h1
  · rcases h2 with h2 | ⟨e2, h2⟩
    · rw [e1]; exact .inl h2
    · refine .inr ⟨e1.trans e2, ?_⟩
      rcases h1 with h1 | ⟨f1, h1⟩
      · rcases h2 with h2 | ⟨f2, h2⟩
        · exact .inl (bl_trans h1 h2)
        · rw [← f2]; exact .inl h1
      · rcases h2 with h2 | ⟨f2, h2⟩
        · rw [f1]; exact .inl h2
        · exact .inr ⟨f1.trans f2, by omega⟩
theorem ah_asymm {a b : Cell} (h1 : ah a b) : ¬ ah b a := fun h2 => ah_irr a (ah_trans h1 h2)
def key (a b : Cell) : Prop := a.Row = b.Row ∧ a.Col = b.Col ∧ a.Time = b.Time
theorem ah_tri (a b : Cell) : ah a b ∨ key a b ∨ ah b a := by
  unfold ah key
  rcases bl_tri a.Row b.Row with h | h | h
  · exact .inl (.inl h)
  · rcases bl_tri a.Col b.Col with g | g | g
    · exact .inl (.inr ⟨h, .inl g⟩)
    · by_cases c1 : b.Time < a.Time
      · exact .inl (.inr ⟨h, .inr ⟨g, c1⟩⟩)
      · by_cases c2 : a.Time < b.Time
        · exact .inr (.inr (.inr ⟨h.symm, .inr ⟨g.symm, c2⟩⟩))
        · exact .inr (.inl ⟨h, g, by omega⟩)
    · exact .inr (.inr (.inr ⟨h.symm, .inl g⟩))
  · exact .inr (.inr (.inl h))
/- comparing -/
def cmpS (x y : List UInt8) : Int := if Op.bytesLess x y = true then -1 else if Op.bytesLess y x = true then 1 else 0
theorem cmpS_eq (x y : List UInt8) : cmp_Compare_string x y = cmpS x y := by
  simp [cmp_Compare_string, cmp_isNaN_string, lt, cmpS]
def cmpI (x y : Int) : Int := if x < y then -1 else if y < x then 1 else 0
theorem cmpI_eq (x y : Int) : cmp_Compare_int x y = cmpI x y := by
  simp [cmp_Compare_int, cmp_isNaN_int, lt, cmpI]
theorem or_eq (x y z : Int) : cmp_Or_int [x, y, z] = some (if x ≠ 0 then x else if y ≠ 0 then y else z) := by
  have w1 : w64 (0 + 1) = 1 := by decide
  have w2 : w64 (1 + 1) = 2 := by decide
  have w3 : w64 (2 + 1) = 3 := by decide
  have g0 : lget [x, y, z] 0 = x := rfl
  have g1 : lget [x, y, z] 1 = y := rfl
  have g2 : lget [x, y, z] 2 = z := rfl
  have b0 : cmp_Or_int_B1 [x, y, z] 0 = if x ≠ 0 then some (.inr x) else some (.inl 1) := by
    simp only [cmp_Or_int_B1]
    rw [if_pos (d_t (by simp)), asrt_pos (by simp), g0, w1]
    by_cases h : x = 0 <;> simp [h]
  have b1 : cmp_Or_int_B1 [x, y, z] 1 = if y ≠ 0 then some (.inr y) else some (.inl 2) := by
    simp only [cmp_Or_int_B1]
    rw [if_pos (d_t (by simp)), asrt_pos (by simp), g1, w2]
    by_cases h : y = 0 <;> simp [h]
  have b2 : cmp_Or_int_B1 [x, y, z] 2 = if z ≠ 0 then some (.inr z) else some (.inl 3) := by
    simp only [cmp_Or_int_B1]
    rw [if_pos (d_t (by simp)), asrt_pos (by simp), g2, w3]
    by_cases h : z = 0 <;> simp [h]
  have b3 : cmp_Or_int_B1 [x, y, z] 3 = some (.inr 0) := by
    simp only [cmp_Or_int_B1]
    rw [if_neg (d_f (by simp))]; rfl
  unfold cmp_Or_int
  by_cases h0 : x = 0
  · rw [if_neg (by simp [h0])]
    refine (loopO_inl (b0.trans (if_neg (by simp [h0])))).trans ?_
    by_cases h1 : y = 0
    · rw [if_neg (by simp [h1])]
      refine (loopO_inl (b1.trans (if_neg (by simp [h1])))).trans ?_
      by_cases h2 : z = 0
      · refine (loopO_inl (b2.trans (if_neg (by simp [h2])))).trans ?_
        rw [h2]; exact loopO_inr b3
      · exact loopO_inr (b2.trans (if_pos h2))
    · rw [if_pos h1]
      exact loopO_inr (b1.trans (if_pos h1))
  · rw [if_pos h0]
    exact loopO_inr (b0.trans (if_pos h0))
noncomputable def ord (a b : Cell) : Int := if R_Ahead a b = true then -1 else if R_Ahead b a = true then 1 else 0
theorem order_eq (a b : Cell) : cell_Order a b = some (ord a b) := by
  unfold cell_Order
  simp only [lt, cmpS_eq, cmpI_eq, or_eq, ob_some, Option.some.injEq]
  unfold ord cmpS cmpI
  rcases bl_tri a.Row b.Row with h | h | h
  · have : R_Ahead a b = true := (ahead_iff _ _).2 (.inl h)
    simp [h, this]
  · rcases bl_tri a.Col b.Col with g | g | g
    · have : R_Ahead a b = true := (ahead_iff _ _).2 (.inr ⟨h, .inl g⟩)
      simp [h, g, this, bl_irr]
    · by_cases c1 : b.Time < a.Time
      · have : R_Ahead a b = true := (ahead_iff _ _).2 (.inr ⟨h, .inr ⟨g, c1⟩⟩)
        simp [h, g, this, bl_irr, c1]
      · by_cases c2 : a.Time < b.Time
        · have h1 : R_Ahead b a = true := (ahead_iff _ _).2 (.inr ⟨h.symm, .inr ⟨g.symm, c2⟩⟩)
          have h2 : R_Ahead a b = false := ahead_f.2 (ah_asymm ((ahead_iff _ _).1 h1))
          simp [h, g, h1, h2, bl_irr, c1, c2]
        · have e : a.Time = b.Time := by omega
          have h1 : R_Ahead b a = false := ahead_f.2 (by unfold ah; simp [h, g, bl_irr, e])
          have h2 : R_Ahead a b = false := ahead_f.2 (by unfold ah; simp [h, g, bl_irr, e])
          simp [h, g, h1, h2, bl_irr, c1, c2]
    · have h1 : R_Ahead b a = true := (ahead_iff _ _).2 (.inr ⟨h.symm, .inl g⟩)
      have h2 : R_Ahead a b = false := ahead_f.2 (ah_asymm ((ahead_iff _ _).1 h1))
      simp [h, g, h1, h2, bl_irr, bl_asymm g]
  · have h1 : R_Ahead b a = true := (ahead_iff _ _).2 (.inl h)
    have h2 : R_Ahead a b = false := ahead_f.2 (ah_asymm ((ahead_iff _ _).1 h1))
    simp [h, h1, h2, bl_asymm h]
theorem ord_neg (a b : Cell) : ord a b < 0 ↔ R_Ahead a b = true := by
  unfold ord
  by_cases h : R_Ahead a b = true
  · simp [h]
  · by_cases h2 : R_Ahead b a = true <;> simp [h, h2]
theorem cell_eta (c : Cell) : (⟨c.Row, c.Col, c.Time, c.Gone, c.Value⟩ : Cell) = c := rfl
theorem code_eq (c : Cell) : cell_code c = R_CellCode c := rfl
/- Check -/
noncomputable def okp (p : Option Cell) (c : Cell) : Bool := match p with
  | some q => R_Ahead q c
  | none => true
noncomputable def ck : Option Cell → List Cell → Int → Fault
  | _, [], _ => ⟨0, 0⟩
  | p, c :: l, i => if R_CellCode c ≠ 0 then ⟨R_CellCode c, i⟩ else if okp p c = true then ck (some c) l (i + 1) else ⟨10, i⟩
def prv (l : List Cell) (k : Nat) : Option Cell := if k = 0 then none else some (lget l ((k : Int) - 1))
theorem prv_succ (l : List Cell) (k : Nat) : prv l (k + 1) = some (lget l (k : Int)) := by
  unfold prv
  rw [if_neg (by omega)]
  have : ((k + 1 : Nat) : Int) - 1 = (k : Int) := by omega
  rw [this]
theorem check_loop (l : List Cell) (hl : l.length ≤ 1000) (z : Fault) : ∀ (m k : Nat), l.length - k = m → k ≤ l.length → cell_Check_L1 l (z, (k : Int)) = some (ck (prv l k) (l.drop k) k)
  | 0, k, e, hk => by
    have : k = l.length := by omega
    subst this
    refine loopO_inr ?_
    simp only [cell_Check_B1]
    rw [if_neg (d_f (by omega)), List.drop_length]; rfl
  | m + 1, k, e, hk => by
    have hlt : k < l.length := by omega
    have hw : w64 ((k : Int) + 1) = ((k + 1 : Nat) : Int) := by rw [w64_id (by omega) (by omega)]; omega
    have hw2 : w64 ((k : Int) - 1) = (k : Int) - 1 := w64_id (by omega) (by omega)
    have ih := check_loop l hl z m (k + 1) (by omega) (by omega)
    rw [lget_drop l k hlt, ck]
    by_cases c1 : R_CellCode (lget l (k : Int)) = 0
    · rw [if_neg (by simp [c1])]
      by_cases hk0 : k = 0
      · subst hk0
        have e1 : okp (prv l 0) (lget l ((0 : Nat) : Int)) = true := rfl
        rw [if_pos e1]
        refine (loopO_inl (y := (z, ((0 + 1 : Nat) : Int))) ?_).trans (ih.trans (by rw [prv_succ]; rfl))
        simp only [cell_Check_B1]
        rw [if_pos (d_t (by omega)), asrt_pos (by omega)]
        rw [cell_eta, code_eq]
        dsimp only [lt]
        rw [if_neg (n_f c1), asrt_pos (fun h => by simp at h), if_neg (by simp), ob_some, if_neg (by simp), hw]
      · have ep : prv l k = some (lget l ((k : Int) - 1)) := by unfold prv; rw [if_neg hk0]
        have hpos : (0 : Int) < (k : Int) := by omega
        have eo : okp (some (lget l ((k : Int) - 1))) (lget l (k : Int)) = R_Ahead (lget l ((k : Int) - 1)) (lget l (k : Int)) := rfl
        rw [ep, eo]
        by_cases c2 : R_Ahead (lget l ((k : Int) - 1)) (lget l (k : Int)) = true
        · rw [if_pos c2]
          have e1 : (k : Int) + 1 = ((k + 1 : Nat) : Int) := by omega
          refine (loopO_inl (y := (z, ((k + 1 : Nat) : Int))) ?_).trans (ih.trans (by rw [prv_succ, e1]))
          simp only [cell_Check_B1]
          rw [if_pos (d_t (by omega)), asrt_pos (by omega)]
          have h0 := (ord_neg _ _).2 c2
          rw [cell_eta, code_eq]
          dsimp only [lt]
          rw [if_neg (n_f c1), hw2, asrt_pos (fun h => by omega), if_pos (d_t hpos), cell_eta, order_eq, ob_some, if_neg (an_f (by omega)), hw]
        · rw [if_neg c2]
          have h0 : ¬ ord (lget l ((k : Int) - 1)) (lget l (k : Int)) < 0 := fun h => c2 ((ord_neg _ _).1 h)
          refine loopO_inr ?_
          simp only [cell_Check_B1]
          rw [if_pos (d_t (by omega)), asrt_pos (by omega)]
          rw [cell_eta, code_eq]
          dsimp only [lt]
          rw [if_neg (n_f c1), hw2, asrt_pos (fun h => by omega), if_pos (d_t hpos), cell_eta, order_eq, ob_some, if_pos (an_t (by omega))]
          rfl
    · rw [if_pos c1]
      refine loopO_inr ?_
      simp only [cell_Check_B1]
      rw [if_pos (d_t (by omega)), asrt_pos (by omega)]
      rw [cell_eta, code_eq]
      dsimp only [lt]
      rw [if_pos (n_t c1)]; rfl
theorem rcheck_loop (l : List Cell) (hl : l.length ≤ 1000) (z : Fault) : ∀ (m k : Nat), l.length - k = m → k ≤ l.length → R_CellsFault_L1 l (z, (k : Int)) = some (ck (prv l k) (l.drop k) k)
  | 0, k, e, hk => by
    have : k = l.length := by omega
    subst this
    refine loopO_inr ?_
    simp only [R_CellsFault_B1]
    rw [if_neg (d_f (by omega)), List.drop_length]; rfl
  | m + 1, k, e, hk => by
    have hlt : k < l.length := by omega
    have hw : w64 ((k : Int) + 1) = ((k + 1 : Nat) : Int) := by rw [w64_id (by omega) (by omega)]; omega
    have hw2 : w64 ((k : Int) - 1) = (k : Int) - 1 := w64_id (by omega) (by omega)
    have ih := rcheck_loop l hl z m (k + 1) (by omega) (by omega)
    rw [lget_drop l k hlt, ck]
    by_cases c1 : R_CellCode (lget l (k : Int)) = 0
    · rw [if_neg (by simp [c1])]
      by_cases hk0 : k = 0
      · subst hk0
        have e1 : okp (prv l 0) (lget l ((0 : Nat) : Int)) = true := rfl
        rw [if_pos e1]
        refine (loopO_inl (y := (z, ((0 + 1 : Nat) : Int))) ?_).trans (ih.trans (by rw [prv_succ]; rfl))
        simp only [R_CellsFault_B1]
        rw [if_pos (d_t (by omega)), asrt_pos (by omega)]
        rw [cell_eta]
        dsimp only [lt]
        rw [if_neg (n_f c1), asrt_pos (fun h => by simp at h), asrt_pos (fun h => by simp at h), if_neg (by simp), hw]
      · have ep : prv l k = some (lget l ((k : Int) - 1)) := by unfold prv; rw [if_neg hk0]
        have hpos : (0 : Int) < (k : Int) := by omega
        have eo : okp (some (lget l ((k : Int) - 1))) (lget l (k : Int)) = R_Ahead (lget l ((k : Int) - 1)) (lget l (k : Int)) := rfl
        rw [ep, eo]
        have e1 : (k : Int) + 1 = ((k + 1 : Nat) : Int) := by omega
        have hd : decide ((0 : Int) < (k : Int)) = true := d_t hpos
        by_cases c2 : R_Ahead (lget l ((k : Int) - 1)) (lget l (k : Int)) = true
        · rw [if_pos c2]
          refine (loopO_inl (y := (z, ((k + 1 : Nat) : Int))) ?_).trans (ih.trans (by rw [prv_succ, e1]))
          simp only [R_CellsFault_B1]
          rw [if_pos (d_t (by omega)), asrt_pos (by omega)]
          rw [cell_eta]
          dsimp only [lt]
          rw [if_neg (n_f c1), hw2, asrt_pos (fun h => by omega), asrt_pos (fun h => by omega), cell_eta, c2, if_neg (by simp), hw]
        · rw [if_neg c2]
          refine loopO_inr ?_
          simp only [R_CellsFault_B1]
          rw [if_pos (d_t (by omega)), asrt_pos (by omega)]
          have c2' : R_Ahead (lget l ((k : Int) - 1)) (lget l (k : Int)) = false := by simpa using c2
          rw [cell_eta]
          dsimp only [lt]
          rw [if_neg (n_f c1), hw2, asrt_pos (fun h => by omega), asrt_pos (fun h => by omega), cell_eta, c2', hd, if_pos (by rfl)]
          rfl
    · rw [if_pos c1]
      refine loopO_inr ?_
      simp only [R_CellsFault_B1]
      rw [if_pos (d_t (by omega)), asrt_pos (by omega)]
      rw [cell_eta]
      dsimp only [lt]
      rw [if_pos (n_t c1)]; rfl
noncomputable def cellF (l : List Cell) : Fault := if 1000 < l.length then ⟨2, 0⟩ else ck none l 0
theorem check_eq (l : List Cell) : cell_Check l = some (cellF l) := by
  unfold cell_Check cellF
  by_cases c : 1000 < l.length
  · rw [if_pos (d_t (by omega)), if_pos c]; rfl
  · rw [if_neg (d_f (by omega)), if_neg c]
    exact check_loop l (by omega) ⟨0, 0⟩ l.length 0 (by omega) (by omega)
theorem rcheck_eq (l : List Cell) : R_CellsFault l = some (cellF l) := by
  unfold R_CellsFault cellF
  by_cases c : 1000 < l.length
  · rw [if_pos (d_t (by omega)), if_pos c]; rfl
  · rw [if_neg (d_f (by omega)), if_neg c]
    exact rcheck_loop l (by omega) ⟨0, 0⟩ l.length 0 (by omega) (by omega)
theorem ck_good : ∀ (l : List Cell) (p : Option Cell) (i : Int), (ck p l i).Code = 0 → ck p l i = ⟨0, 0⟩ ∧ (∀ c ∈ l, R_CellCode c = 0) ∧ l.Pairwise ah ∧ ∀ q, p = some q → ∀ c ∈ l, ah q c
  | [], p, i, h => ⟨rfl, by simp, .nil, by simp⟩
  | c :: l, p, i, h => by
    rw [ck] at h ⊢
    by_cases c1 : R_CellCode c = 0
    · rw [if_neg (by simp [c1])] at h ⊢
      by_cases c2 : okp p c = true
      · rw [if_pos c2] at h ⊢
        obtain ⟨h1, h2, h3, h4⟩ := ck_good l (some c) (i + 1) h
        refine ⟨h1, ?_, List.pairwise_cons.2 ⟨h4 c rfl, h3⟩, ?_⟩
        · intro x hx
          rcases List.mem_cons.1 hx with rfl | hx
          · exact c1
          · exact h2 x hx
        · rintro q rfl x hx
          have hq : ah q c := (ahead_iff _ _).1 c2
          rcases List.mem_cons.1 hx with rfl | hx
          · exact hq
          · exact ah_trans hq (h4 c rfl x hx)
      · rw [if_neg c2] at h; cases h
    · rw [if_pos c1] at h; exact absurd h c1
structure Good (l : List Cell) : Prop where
  f : cellF l = ⟨0, 0⟩
  len : l.length ≤ 1000
  code : ∀ c ∈ l, R_CellCode c = 0
  srt : l.Pairwise ah
theorem cellF_good {l : List Cell} (h : (cellF l).Code = 0) : Good l := by
  unfold cellF at h
  by_cases c : 1000 < l.length
  · rw [if_pos c] at h; cases h
  · rw [if_neg c] at h
    obtain ⟨h1, h2, h3, _⟩ := ck_good l none 0 h
    exact ⟨by unfold cellF; rw [if_neg c, h1], by omega, h2, h3⟩
def cell0 : Cell := ⟨[], [], 0, false, []⟩
theorem sameCells_loop (a b : List Cell) (hl : a.length = b.length) (hb : a.length ≤ 1000000) : ∀ (m k : Nat), a.length - k = m → k ≤ a.length → ∀ r, (r = true ↔ a.drop k = b.drop k) → R_SameCells_L1 a b (k : Int) = some r
  | 0, k, e, hk, r, hr => by
    have : k = a.length := by omega
    refine loopO_inr ?_
    simp only [R_SameCells_B1]
    rw [if_neg (d_f (by omega))]
    have e1 : a.drop k = [] := List.drop_eq_nil_of_le (by omega)
    have e2 : b.drop k = [] := List.drop_eq_nil_of_le (by omega)
    have : r = true := hr.2 (by rw [e1, e2])
    subst this; rfl
  | m + 1, k, e, hk, r, hr => by
    have hw : w64 ((k : Int) + 1) = ((k + 1 : Nat) : Int) := by rw [w64_id (by omega) (by omega)]; omega
    rw [lget_drop a k (by omega), lget_drop b k (by omega)] at hr
    have ee : (decide ((lget a (k : Int)).Row = (lget b (k : Int)).Row) && (decide ((lget a (k : Int)).Col = (lget b (k : Int)).Col) && (decide ((lget a (k : Int)).Time = (lget b (k : Int)).Time) && (((lget a (k : Int)).Gone == (lget b (k : Int)).Gone) && (decide ((lget a (k : Int)).Value = (lget b (k : Int)).Value) && true))))) = true ↔ lget a (k : Int) = lget b (k : Int) := by
      cases lget a (k : Int); cases lget b (k : Int); simp
    by_cases c : lget a (k : Int) = lget b (k : Int)
    · have ih := sameCells_loop a b hl hb m (k + 1) (by omega) (by omega) r (by rw [hr]; simp [c])
      refine (loopO_inl (y := ((k + 1 : Nat) : Int)) ?_).trans ih
      simp only [R_SameCells_B1]
      rw [if_pos (d_t (by omega)), asrt_pos (by omega), asrt_pos (by omega), if_neg (by rw [ee.2 c]; simp), hw]
    · have : r = false := by
        cases r with
        | false => rfl
        | true => exact absurd (List.head_eq_of_cons_eq (hr.1 rfl)) c
      subst this
      refine loopO_inr ?_
      simp only [R_SameCells_B1]
      have e2 := mt ee.1 c
      rw [if_pos (d_t (by omega)), asrt_pos (by omega), asrt_pos (by omega), if_pos (by rw [Bool.not_eq_true] at e2; rw [e2]; rfl)]
theorem sameCells_self (a : List Cell) (hb : a.length ≤ 1000000) : R_SameCells a a = some true := by
  unfold R_SameCells
  rw [if_neg (by simp)]
  exact sameCells_loop a a rfl hb a.length 0 (by omega) (by omega) true (by simp)
theorem code_len {c : Cell} (h : R_CellCode c = 0) : c.Row.length ≤ 40 ∧ c.Col.length ≤ 40 ∧ c.Value.length ≤ 200 ∧ 0 ≤ c.Time ∧ c.Time ≤ 1000000000 := by
  unfold R_CellCode at h
  split at h
  · cases h
  · rename_i h1
    split at h
    · cases h
    · rename_i h2
      simp at h1 h2
      omega
end G
end Go.Proofs.Ytollmifjbcccgaa
