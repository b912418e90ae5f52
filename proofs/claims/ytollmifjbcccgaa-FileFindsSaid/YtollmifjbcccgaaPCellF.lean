/- Cells in a note: their order, what Check says, how they are written and read (from PCellA and PCellWrites, names of wf). -/
import Derived.Test.YtollmifjbcccgaaEmD
import Derived.Test.YtollmifjbcccgaaEmD
import Derived.Test.YtollmifjbcccgaaPNumF
namespace Go.Proofs.Ytollmifjbcccgaa
open Go Go.Dm
set_option linter.unusedVariables false
set_option linter.unusedSimpArgs false
namespace G
/-- one cell stands ahead of another one -/
def ah (a b : Cell) : Prop := Op.bytesLess a.Row b.Row = true ∨ (a.Row = b.Row ∧ (Op.bytesLess a.Col b.Col = true ∨ (a.Col = b.Col ∧ b.Time < a.Time)))
theorem ahead_iff (a b : Cell) : R_Ahead a b = true ↔ ah a b := by
  unfold R_Ahead ah
  by_cases h1 : a.Row = b.Row
  · rw [if_neg (n_f h1)]
    have e1 : Op.bytesLess a.Row b.Row = false := by rw [h1, bl_irr]
    by_cases h2 : a.Col = b.Col
    · rw [if_neg (n_f h2)]
      have e2 : Op.bytesLess a.Col b.Col = false := by rw [h2, bl_irr]
      simp [h1, h2, bl_irr]
    · rw [if_pos (n_t h2)]
      simp [h1, h2, bl_irr]
  · rw [if_pos (n_t h1)]
    simp [h1]
theorem ahead_f {a b : Cell} : R_Ahead a b = false ↔ ¬ ah a b := by
  rw [← ahead_iff]; simp
theorem ah_irr (a : Cell) : ¬ ah a a := by
  unfold ah; simp [bl_irr]
theorem ah_trans {a b c : Cell} (h1 : ah a b) (h2 : ah b c) : ah a c := by
  unfold ah at *
  rcases h1 with h1 | ⟨e1, h1⟩
  · rcases h2 with h2 | ⟨e2, h2⟩
    · exact .inl (bl_trans h1 h2)
    · rw [← e2]; exact .inl h1
  · rcases h2 with h2 | ⟨e2, h2⟩
    · rw [e1]; exact .inl h2
    · refine .inr ⟨e1.trans e2, ?_⟩
      rcases h1 with h1 | ⟨f1, h1⟩
      · rcases h2 with h2 | ⟨f2, h2⟩
        · exact .inl (bl_trans h1 h2)
        · rw [← f2]; exact .inl h1
      · rcases h2 with h2 | ⟨f2, h2⟩
        · rw [f1]; exact .inl h2
        · exact .inr ⟨f1.trans f2, by omega⟩
theorem ah_asymm {a b : Cell} (h1 : ah a b) : ¬ ah b a := fun h2 => ah_irr a (ah_trans h1 h2)
def key (a b : Cell) : Prop := a.Row = b.Row ∧ a.Col = b.Col ∧ a.Time = b.Time
theorem ah_tri (a b : Cell) : ah a b ∨ key a b ∨ ah b a := by
  unfold ah key
  rcases bl_tri a.Row b.Row with h | h | h
  · exact .inl (.inl h)
  · rcases bl_tri a.Col b.Col with g | g | g
    · exact .inl (.inr ⟨h, .inl g⟩)
    · by_cases c1 : b.Time < a.Time
      · exact .inl (.inr ⟨h, .inr ⟨g, c1⟩⟩)
      · by_cases c2 : a.Time < b.Time
        · exact .inr (.inr (.inr ⟨h.symm, .inr ⟨g.symm, c2⟩⟩))
        · exact .inr (.inl ⟨h, g, by omega⟩)
    · exact .inr (.inr (.inr ⟨h.symm, .inl g⟩))
  · exact .inr (.inr (.inl h))
/- comparing -/
def cmpS (x y : List UInt8) : Int := if Op.bytesLess x y = true then -1 else if Op.bytesLess y x = true then 1 else 0
theorem cmpS_eq (x y : List UInt8) : cmp_Compare_string x y = cmpS x y := by
  simp [cmp_Compare_string, cmp_isNaN_string, lt, cmpS]
def cmpI (x y : Int) : Int := if x < y then -1 else if y < x then 1 else 0
theorem cmpI_eq (x y : Int) : cmp_Compare_int x y = cmpI x y := by
  simp [cmp_Compare_int, cmp_isNaN_int, lt, cmpI]
theorem or_eq (x y z : Int) : cmp_Or_int [x, y, z] = some (if x ≠ 0 then x else if y ≠ 0 then y else z) := by
  have w1 : w64 (0 + 1) = 1 := by decide
  have w2 : w64 (1 + 1) = 2 := by decide
  have w3 : w64 (2 + 1) = 3 := by decide
  have g0 : lget [x, y, z] 0 = x := rfl
  have g1 : lget [x, y, z] 1 = y := rfl
  have g2 : lget [x, y, z] 2 = z := rfl
  have b0 : cmp_Or_int_B1 [x, y, z] 0 = if x ≠ 0 then some (.inr x) else some (.inl 1) := by
    simp only [cmp_Or_int_B1]
    rw [if_pos (d_t (by simp)), asrt_pos (by simp), g0, w1]
    by_cases h : x = 0 <;> simp [h]
  have b1 : cmp_Or_int_B1 [x, y, z] 1 = if y ≠ 0 then some (.inr y) else some (.inl 2) := by
    simp only [cmp_Or_int_B1]
    rw [if_pos (d_t (by simp)), asrt_pos (by simp), g1, w2]
    by_cases h : y = 0 <;> simp [h]
  have b2 : cmp_Or_int_B1 [x, y, z] 2 = if z ≠ 0 then some (.inr z) else some (.inl 3) := by
    simp only [cmp_Or_int_B1]
    rw [if_pos (d_t (by simp)), asrt_pos (by simp), g2, w3]
    by_cases h : z = 0 <;> simp [h]
  have b3 : cmp_Or_int_B1 [x, y, z] 3 = some (.inr 0) := by
    simp only [cmp_Or_int_B1]
    rw [if_neg (d_f (by simp))]; rfl
  unfold cmp_Or_int
  by_cases h0 : x = 0
  · rw [if_neg (by simp [h0])]
    refine (loopO_inl (b0.trans (if_neg (by simp [h0])))).trans ?_
    by_cases h1 : y = 0
    · rw [if_neg (by simp [h1])]
      refine (loopO_inl (b1.trans (if_neg (by simp [h1])))).trans ?_
      by_cases h2 : z = 0
      · refine (loopO_inl (b2.trans (if_neg (by simp [h2])))).trans ?_
        rw [h2]; exact loopO_inr b3
      · exact loopO_inr (b2.trans (if_pos h2))
    · rw [if_pos h1]
      exact loopO_inr (b1.trans (if_pos h1))
  · rw [if_pos h0]
    exact loopO_inr (b0.trans (if_pos h0))
noncomputable def ord (a b : Cell) : Int := if R_Ahead a b = true then -1 else if R_Ahead b a = true then 1 else 0
theorem order_eq (a b : Cell) : cell_Order a b = some (ord a b) := by
  unfold cell_Order
  simp only [lt, cmpS_eq, cmpI_eq, or_eq, ob_some, Option.some.injEq]
  unfold ord cmpS cmpI
  rcases bl_tri a.Row b.Row with h | h | h
  · have : R_Ahead a b = true := (ahead_iff _ _).2 (.inl h)
    simp [h, this]
  · rcases bl_tri a.Col b.Col with g | g | g
    · have : R_Ahead a b = true := (ahead_iff _ _).2 (.inr ⟨h, .inl g⟩)
      simp [h, g, this, bl_irr]
    · by_cases c1 : b.Time < a.Time
      · have : R_Ahead a b = true := (ahead_iff _ _).2 (.inr ⟨h, .inr ⟨g, c1⟩⟩)
        simp [h, g, this, bl_irr, c1]
      · by_cases c2 : a.Time < b.Time
        · have h1 : R_Ahead b a = true := (ahead_iff _ _).2 (.inr ⟨h.symm, .inr ⟨g.symm, c2⟩⟩)
          have h2 : R_Ahead a b = false := ahead_f.2 (ah_asymm ((ahead_iff _ _).1 h1))
          simp [h, g, h1, h2, bl_irr, c1, c2]
        · have e : a.Time = b.Time := by omega
          have h1 : R_Ahead b a = false := ahead_f.2 (by unfold ah; simp [h, g, bl_irr, e])
          have h2 : R_Ahead a b = false := ahead_f.2 (by unfold ah; simp [h, g, bl_irr, e])
          simp [h, g, h1, h2, bl_irr, c1, c2]
    · have h1 : R_Ahead b a = true := (ahead_iff _ _).2 (.inr ⟨h.symm, .inl g⟩)
      have h2 : R_Ahead a b = false := ahead_f.2 (ah_asymm ((ahead_iff _ _).1 h1))
      simp [h, g, h1, h2, bl_irr, bl_asymm g]
  · have h1 : R_Ahead b a = true := (ahead_iff _ _).2 (.inl h)
    have h2 : R_Ahead a b = false := ahead_f.2 (ah_asymm ((ahead_iff _ _).1 h1))
    simp [h, h1, h2, bl_asymm h]
theorem ord_neg (a b : Cell) : ord a b < 0 ↔ R_Ahead a b = true := by
  unfold ord
  by_cases h : R_Ahead a b = true
  · simp [h]
  · by_cases h2 : R_Ahead b a = true <;> simp [h, h2]
theorem cell_eta (c : Cell) : (⟨c.Row, c.Col, c.Time, c.Gone, c.Value⟩ : Cell) = c := rfl
theorem code_eq (c : Cell) : cell_code c = R_CellCode c := rfl
/- Check -/
noncomputable def okp (p : Option Cell) (c : Cell) : Bool := match p with
  | some q => R_Ahead q c
  | none => true
noncomputable def ck : Option Cell → List Cell → Int → Fault
  | _, [], _ => ⟨0, 0⟩
  | p, c :: l, i => if R_CellCode c ≠ 0 then ⟨R_CellCode c, i⟩ else if okp p c = true then ck (some c) l (i + 1) else ⟨10, i⟩
def prv (l : List Cell) (k : Nat) : Option Cell := if k = 0 then none else some (lget l ((k : Int) - 1))
theorem prv_succ (l : List Cell) (k : Nat) : prv l (k + 1) = some (lget l (k : Int)) := by
  unfold prv
  rw [if_neg (by omega)]
  have : ((k + 1 : Nat) : Int) - 1 = (k : Int) := by omega
  rw [this]
theorem check_loop (l : List Cell) (hl : l.length ≤ 1000) (z : Fault) : ∀ (m k : Nat), l.length - k = m → k ≤ l.length → cell_Check_L1 l (z, (k : Int)) = some (ck (prv l k) (l.drop k) k)
  | 0, k, e, hk => by
    have : k = l.length := by omega
    subst this
    refine loopO_inr ?_
    simp only [cell_Check_B1]
    rw [if_neg (d_f (by omega)), List.drop_length]; rfl
  | m + 1, k, e, hk => by
    have hlt : k < l.length := by omega
    have hw : w64 ((k : Int) + 1) = ((k + 1 : Nat) : Int) := by rw [w64_id (by omega) (by omega)]; omega
    have hw2 : w64 ((k : Int) - 1) = (k : Int) - 1 := w64_id (by omega) (by omega)
    have ih := check_loop l hl z m (k + 1) (by omega) (by omega)
    rw [lget_drop l k hlt, ck]
    by_cases c1 : R_CellCode (lget l (k : Int)) = 0
    · rw [if_neg (by simp [c1])]
      by_cases hk0 : k = 0
      · subst hk0
        have e1 : okp (prv l 0) (lget l ((0 : Nat) : Int)) = true := rfl
        rw [if_pos e1]
        refine (loopO_inl (y := (z, ((0 + 1 : Nat) : Int))) ?_).trans (ih.trans (by rw [prv_succ]; rfl))
        simp only [cell_Check_B1]
        rw [if_pos (d_t (by omega)), asrt_pos (by omega)]
        rw [cell_eta, code_eq]
        dsimp only [lt]
        rw [if_neg (n_f c1), asrt_pos (fun h => by simp at h), if_neg (by simp), ob_some, if_neg (by simp), hw]
      · have ep : prv l k = some (lget l ((k : Int) - 1)) := by unfold prv; rw [if_neg hk0]
        have hpos : (0 : Int) < (k : Int) := by omega
        have eo : okp (some (lget l ((k : Int) - 1))) (lget l (k : Int)) = R_Ahead (lget l ((k : Int) - 1)) (lget l (k : Int)) := rfl
        rw [ep, eo]
        by_cases c2 : R_Ahead (lget l ((k : Int) - 1)) (lget l (k : Int)) = true
        · rw [if_pos c2]
          have e1 : (k : Int) + 1 = ((k + 1 : Nat) : Int) := by omega
          refine (loopO_inl (y := (z, ((k + 1 : Nat) : Int))) ?_).trans (ih.trans (by rw [prv_succ, e1]))
          simp only [cell_Check_B1]
          rw [if_pos (d_t (by omega)), asrt_pos (by omega)]
          have h0 := (ord_neg _ _).2 c2
          rw [cell_eta, code_eq]
          dsimp only [lt]
          rw [if_neg (n_f c1), hw2, asrt_pos (fun h => by omega), if_pos (d_t hpos), cell_eta, order_eq, ob_some, if_neg (an_f (by omega)), hw]
        · rw [if_neg c2]
          have h0 : ¬ ord (lget l ((k : Int) - 1)) (lget l (k : Int)) < 0 := fun h => c2 ((ord_neg _ _).1 h)
          refine loopO_inr ?_
          simp only [cell_Check_B1]
          rw [if_pos (d_t (by omega)), asrt_pos (by omega)]
          rw [cell_eta, code_eq]
          dsimp only [lt]
          rw [if_neg (n_f c1), hw2, asrt_pos (fun h => by omega), if_pos (d_t hpos), cell_eta, order_eq, ob_some, if_pos (an_t (by omega))]
          rfl
    · rw [if_pos c1]
      refine loopO_inr ?_
      simp only [cell_Check_B1]
      rw [if_pos (d_t (by omega)), asrt_pos (by omega)]
      rw [cell_eta, code_eq]
      dsimp only [lt]
      rw [if_pos (n_t c1)]; rfl
theorem rcheck_loop (l : List Cell) (hl : l.length ≤ 1000) (z : Fault) : ∀ (m k : Nat), l.length - k = m → k ≤ l.length → R_CellsFault_L1 l (z, (k : Int)) = some (ck (prv l k) (l.drop k) k)
  | 0, k, e, hk => by
    have : k = l.length := by omega
    subst this
    refine loopO_inr ?_
    simp only [R_CellsFault_B1]
    rw [if_neg (d_f (by omega)), List.drop_length]; rfl
  | m + 1, k, e, hk => by
    have hlt : k < l.length := by omega
    have hw : w64 ((k : Int) + 1) = ((k + 1 : Nat) : Int) := by rw [w64_id (by omega) (by omega)]; omega
    have hw2 : w64 ((k : Int) - 1) = (k : Int) - 1 := w64_id (by omega) (by omega)
    have ih := rcheck_loop l hl z m (k + 1) (by omega) (by omega)
    rw [lget_drop l k hlt, ck]
    by_cases c1 : R_CellCode (lget l (k : Int)) = 0
    · rw [if_neg (by simp [c1])]
      by_cases hk0 : k = 0
      · subst hk0
        have e1 : okp (prv l 0) (lget l ((0 : Nat) : Int)) = true := rfl
        rw [if_pos e1]
        refine (loopO_inl (y := (z, ((0 + 1 : Nat) : Int))) ?_).trans (ih.trans (by rw [prv_succ]; rfl))
        simp only [R_CellsFault_B1]
        rw [if_pos (d_t (by omega)), asrt_pos (by omega)]
        rw [cell_eta]
        dsimp only [lt]
        rw [if_neg (n_f c1), asrt_pos (fun h => by simp at h), asrt_pos (fun h => by simp at h), if_neg (by simp), hw]
      · have ep : prv l k = some (lget l ((k : Int) - 1)) := by unfold prv; rw [if_neg hk0]
        have hpos : (0 : Int) < (k : Int) := by omega
        have eo : okp (some (lget l ((k : Int) - 1))) (lget l (k : Int)) = R_Ahead (lget l ((k : Int) - 1)) (lget l (k : Int)) := rfl
        rw [ep, eo]
        have e1 : (k : Int) + 1 = ((k + 1 : Nat) : Int) := by omega
        have hd : decide ((0 : Int) < (k : Int)) = true := d_t hpos
        by_cases c2 : R_Ahead (lget l ((k : Int) - 1)) (lget l (k : Int)) = true
        · rw [if_pos c2]
          refine (loopO_inl (y := (z, ((k + 1 : Nat) : Int))) ?_).trans (ih.trans (by rw [prv_succ, e1]))
          simp only [R_CellsFault_B1]
          rw [if_pos (d_t (by omega)), asrt_pos (by omega)]
          rw [cell_eta]
          dsimp only [lt]
          rw [if_neg (n_f c1), hw2, asrt_pos (fun h => by omega), asrt_pos (fun h => by omega), cell_eta, c2, if_neg (by simp), hw]
        · rw [if_neg c2]
          refine loopO_inr ?_
          simp only [R_CellsFault_B1]
          rw [if_pos (d_t (by omega)), asrt_pos (by omega)]
          have c2' : R_Ahead (lget l ((k : Int) - 1)) (lget l (k : Int)) = false := by simpa using c2
          rw [cell_eta]
          dsimp only [lt]
          rw [if_neg (n_f c1), hw2, asrt_pos (fun h => by omega), asrt_pos (fun h => by omega), cell_eta, c2', hd, if_pos (by rfl)]
          rfl
    · rw [if_pos c1]
      refine loopO_inr ?_
      simp only [R_CellsFault_B1]
      rw [if_pos (d_t (by omega)), asrt_pos (by omega)]
      rw [cell_eta]
      dsimp only [lt]
      rw [if_pos (n_t c1)]; rfl
noncomputable def cellF (l : List Cell) : Fault := if 1000 < l.length then ⟨2, 0⟩ else ck none l 0
theorem check_eq (l : List Cell) : cell_Check l = some (cellF l) := by
  unfold cell_Check cellF
  by_cases c : 1000 < l.length
  · rw [if_pos (d_t (by omega)), if_pos c]; rfl
  · rw [if_neg (d_f (by omega)), if_neg c]
    exact check_loop l (by omega) ⟨0, 0⟩ l.length 0 (by omega) (by omega)
theorem rcheck_eq (l : List Cell) : R_CellsFault l = some (cellF l) := by
  unfold R_CellsFault cellF
  by_cases c : 1000 < l.length
  · rw [if_pos (d_t (by omega)), if_pos c]; rfl
  · rw [if_neg (d_f (by omega)), if_neg c]
    exact rcheck_loop l (by omega) ⟨0, 0⟩ l.length 0 (by omega) (by omega)
theorem ck_good : ∀ (l : List Cell) (p : Option Cell) (i : Int), (ck p l i).Code = 0 → ck p l i = ⟨0, 0⟩ ∧ (∀ c ∈ l, R_CellCode c = 0) ∧ l.Pairwise ah ∧ ∀ q, p = some q → ∀ c ∈ l, ah q c
  | [], p, i, h => ⟨rfl, by simp, .nil, by simp⟩
  | c :: l, p, i, h => by
    rw [ck] at h ⊢
    by_cases c1 : R_CellCode c = 0
    · rw [if_neg (by simp [c1])] at h ⊢
      by_cases c2 : okp p c = true
      · rw [if_pos c2] at h ⊢
        obtain ⟨h1, h2, h3, h4⟩ := ck_good l (some c) (i + 1) h
        refine ⟨h1, ?_, List.pairwise_cons.2 ⟨h4 c rfl, h3⟩, ?_⟩
        · intro x hx
          rcases List.mem_cons.1 hx with rfl | hx
          · exact c1
          · exact h2 x hx
        · rintro q rfl x hx
          have hq : ah q c := (ahead_iff _ _).1 c2
          rcases List.mem_cons.1 hx with rfl | hx
          · exact hq
          · exact ah_trans hq (h4 c rfl x hx)
      · rw [if_neg c2] at h; cases h
    · rw [if_pos c1] at h; exact absurd h c1
structure Good (l : List Cell) : Prop where
  f : cellF l = ⟨0, 0⟩
  len : l.length ≤ 1000
  code : ∀ c ∈ l, R_CellCode c = 0
  srt : l.Pairwise ah
theorem cellF_good {l : List Cell} (h : (cellF l).Code = 0) : Good l := by
  unfold cellF at h
  by_cases c : 1000 < l.length
  · rw [if_pos c] at h; cases h
  · rw [if_neg c] at h
    obtain ⟨h1, h2, h3, _⟩ := ck_good l none 0 h
    exact ⟨by unfold cellF; rw [if_neg c, h1], by omega, h2, h3⟩
def cell0 : Cell := ⟨[], [], 0, false, []⟩
theorem sameCells_loop (a b : List Cell) (hl : a.length = b.length) (hb : a.length ≤ 1000000) : ∀ (m k : Nat), a.length - k = m → k ≤ a.length → ∀ r, (r = true ↔ a.drop k = b.drop k) → R_SameCells_L1 a b (k : Int) = some r
  | 0, k, e, hk, r, hr => by
    have : k = a.length := by omega
    refine loopO_inr ?_
    simp only [R_SameCells_B1]
    rw [if_neg (d_f (by omega))]
    have e1 : a.drop k = [] := List.drop_eq_nil_of_le (by omega)
    have e2 : b.drop k = [] := List.drop_eq_nil_of_le (by omega)
    have : r = true := hr.2 (by rw [e1, e2])
    subst this; rfl
  | m + 1, k, e, hk, r, hr => by
    have hw : w64 ((k : Int) + 1) = ((k + 1 : Nat) : Int) := by rw [w64_id (by omega) (by omega)]; omega
    rw [lget_drop a k (by omega), lget_drop b k (by omega)] at hr
    have ee : (decide ((lget a (k : Int)).Row = (lget b (k : Int)).Row) && (decide ((lget a (k : Int)).Col = (lget b (k : Int)).Col) && (decide ((lget a (k : Int)).Time = (lget b (k : Int)).Time) && (((lget a (k : Int)).Gone == (lget b (k : Int)).Gone) && (decide ((lget a (k : Int)).Value = (lget b (k : Int)).Value) && true))))) = true ↔ lget a (k : Int) = lget b (k : Int) := by
      cases lget a (k : Int); cases lget b (k : Int); simp
    by_cases c : lget a (k : Int) = lget b (k : Int)
    · have ih := sameCells_loop a b hl hb m (k + 1) (by omega) (by omega) r (by rw [hr]; simp [c])
      refine (loopO_inl (y := ((k + 1 : Nat) : Int)) ?_).trans ih
      simp only [R_SameCells_B1]
      rw [if_pos (d_t (by omega)), asrt_pos (by omega), asrt_pos (by omega), if_neg (by rw [ee.2 c]; simp), hw]
    · have : r = false := by
        cases r with
        | false => rfl
        | true => exact absurd (List.head_eq_of_cons_eq (hr.1 rfl)) c
      subst this
      refine loopO_inr ?_
      simp only [R_SameCells_B1]
      have e2 := mt ee.1 c
      rw [if_pos (d_t (by omega)), asrt_pos (by omega), asrt_pos (by omega), if_pos (by rw [Bool.not_eq_true] at e2; rw [e2]; rfl)]
theorem sameCells_self (a : List Cell) (hb : a.length ≤ 1000000) : R_SameCells a a = some true := by
  unfold R_SameCells
  rw [if_neg (by simp)]
  exact sameCells_loop a a rfl hb a.length 0 (by omega) (by omega) true (by simp)
theorem code_len {c : Cell} (h : R_CellCode c = 0) : c.Row.length ≤ 40 ∧ c.Col.length ≤ 40 ∧ c.Value.length ≤ 200 ∧ 0 ≤ c.Time ∧ c.Time ≤ 1000000000 := by
  unfold R_CellCode at h
  split at h
  · cases h
  · rename_i h1
    split at h
    · cases h
    · rename_i h2
      simp at h1 h2
      omega
def wrC (c : Cell) : List UInt8 := wrT c.Row ++ (wrT c.Col ++ (num c.Time.toNat ++ ((if c.Gone = true then [1] else [0]) ++ wrT c.Value)))
theorem wrC_len {c : Cell} (h : R_CellCode c = 0) : (wrC c).length ≤ 310 ∧ 0 < (wrC c).length := by
  obtain ⟨h1, h2, h3, h4, h5⟩ := code_len h
  have a1 := wrT_len c.Row (by omega)
  have a2 := wrT_len c.Col (by omega)
  have a3 := wrT_len c.Value (by omega)
  have a4 := num_len5 (n := c.Time.toNat) (by omega)
  have a5 : (if c.Gone = true then ([1] : List UInt8) else [0]).length = 1 := by split <;> rfl
  unfold wrC
  simp only [List.length_append, a5]; omega
theorem num01 (b : Bool) : num (if b = true then 1 else 0) = if b = true then [1] else [0] := by
  cases b
  · rw [if_neg (by simp), num_lt (by omega)]; rfl
  · rw [if_pos rfl, num_lt (by omega)]; rfl
theorem add_eq (c : Cell) (h : R_CellCode c = 0) (row : List UInt8) (hr : row.length ≤ 1000000) : cell_Add_v2 c row = some (row ++ wrC c) := by
  obtain ⟨h1, h2, h3, h4, h5⟩ := code_len h
  have a1 := wrT_len c.Row (by omega)
  have a2 := wrT_len c.Col (by omega)
  have a4 := num_len5 (n := c.Time.toNat) (by omega)
  have et : (c.Time) = ((c.Time.toNat : Nat) : Int) := by omega
  unfold cell_Add_v2
  rw [addText_eq c.Row row (by omega) (by omega), ob_some, addText_eq c.Col _ (by omega) (by simp; omega), ob_some]
  have e : (if c.Gone = true then some (c, (1 : Int)) else some (c, 0)) = some (c, ((if c.Gone = true then 1 else 0 : Nat) : Int)) := by cases c.Gone <;> rfl
  rw [e, ob_some]
  dsimp only
  have hn : (num (if c.Gone = true then 1 else 0)).length = 1 := by rw [num01]; split <;> rfl
  rw [et, addNum_eq _ _ (by simp; omega), ob_some, addNum_eq _ _ (by simp; omega), ob_some, addText_eq c.Value _ (by omega) (by simp; omega), ob_some, num01]
  simp [wrC]
def encC (l : List Cell) : List UInt8 := wrAll wrC l
theorem encC_cons (c : Cell) (l : List Cell) : encC (c :: l) = wrC c ++ encC l := by simp [encC, wrAll]
/- cells read -/
noncomputable def rdC (b : List UInt8) : Option (Cell × List UInt8) :=
  match rdT b with
  | none => none
  | some (row, b1) => match rdT b1 with
    | none => none
    | some (col, b2) => match rdN b2 with
      | none => none
      | some (t, b3) => match rdN b3 with
        | none => none
        | some (k, b4) => match rdT b4 with
          | none => none
          | some (v, b5) => if k < 2 ∧ R_CellCode ⟨row, col, t, decide ((k : Int) = 1), v⟩ = 0 then some (⟨row, col, t, decide ((k : Int) = 1), v⟩, b5) else none
theorem text_bad : wire_Reader_Text ⟨[], true⟩ = some ([], ⟨[], true⟩) := by
  have h1 : wire_Reader_Num ⟨[], true⟩ = some (0, ⟨[], true⟩) := by rw [num_eq [] true (by simp)]; rfl
  unfold wire_Reader_Text
  rw [h1, ob_some, if_pos (by rfl)]
theorem num_bad : wire_Reader_Num ⟨[], true⟩ = some (0, ⟨[], true⟩) := by rw [num_eq [] true (by simp)]; rfl
theorem text_some {b s r : List UInt8} (hb : b.length ≤ 1000000) (h : rdT b = some (s, r)) : wire_Reader_Text ⟨b, false⟩ = some (s, ⟨r, false⟩) ∧ r.length ≤ 1000000 := by
  have := rdT_len h
  exact ⟨by rw [text_eq b (by omega), h]; rfl, by omega⟩
theorem text_none {b : List UInt8} (hb : b.length ≤ 1000000) (h : rdT b = none) : wire_Reader_Text ⟨b, false⟩ = some ([], ⟨[], true⟩) := by
  rw [text_eq b (by omega), h]; rfl
theorem num_some {b r : List UInt8} {n : Nat} (hb : b.length ≤ 1000000) (h : rdN b = some (n, r)) : wire_Reader_Num ⟨b, false⟩ = some ((n : Int), ⟨r, false⟩) ∧ r.length ≤ 1000000 := by
  have := (rdN_some h).1
  have h2 : b.length = (num n).length + r.length := by rw [this, List.length_append]
  exact ⟨by rw [num_eq b false (by omega), h]; rfl, by omega⟩
theorem num_none {b : List UInt8} (hb : b.length ≤ 1000000) (h : rdN b = none) : wire_Reader_Num ⟨b, false⟩ = some (0, ⟨[], true⟩) := by
  rw [num_eq b false (by omega), h]; rfl
theorem from_eq (b : List UInt8) (hb : b.length ≤ 1000000) : (∃ c r, rdC b = some (c, r) ∧ cell_From ⟨b, false⟩ = some (c, true, ⟨r, false⟩)) ∨ (rdC b = none ∧ ∃ x, cell_From ⟨b, false⟩ = some x ∧ x.2.1 = false) := by
  unfold rdC cell_From
  cases e1 : rdT b with
  | none =>
    refine .inr ⟨rfl, ?_⟩
    simp only [text_none hb e1, ob_some, text_bad, num_bad, lt, wire_Reader_Fine]
    exact ⟨_, rfl, by simp⟩
  | some p1 =>
  obtain ⟨row, b1⟩ := p1
  obtain ⟨f1, hb1⟩ := text_some hb e1
  simp only [f1, ob_some]
  cases e2 : rdT b1 with
  | none =>
    refine .inr ⟨rfl, ?_⟩
    simp only [text_none hb1 e2, ob_some, text_bad, num_bad, lt, wire_Reader_Fine]
    exact ⟨_, rfl, by simp⟩
  | some p2 =>
  obtain ⟨col, b2⟩ := p2
  obtain ⟨f2, hb2⟩ := text_some hb1 e2
  simp only [f2, ob_some]
  cases e3 : rdN b2 with
  | none =>
    refine .inr ⟨rfl, ?_⟩
    simp only [num_none hb2 e3, ob_some, text_bad, num_bad, lt, wire_Reader_Fine]
    exact ⟨_, rfl, by simp⟩
  | some p3 =>
  obtain ⟨t, b3⟩ := p3
  obtain ⟨f3, hb3⟩ := num_some hb2 e3
  simp only [f3, ob_some]
  cases e4 : rdN b3 with
  | none =>
    refine .inr ⟨rfl, ?_⟩
    simp only [num_none hb3 e4, ob_some, text_bad, num_bad, lt, wire_Reader_Fine]
    exact ⟨_, rfl, by simp⟩
  | some p4 =>
  obtain ⟨k, b4⟩ := p4
  obtain ⟨f4, hb4⟩ := num_some hb3 e4
  simp only [f4, ob_some]
  cases e5 : rdT b4 with
  | none =>
    refine .inr ⟨rfl, ?_⟩
    simp only [text_none hb4 e5, ob_some, lt, wire_Reader_Fine]
    exact ⟨_, rfl, by simp⟩
  | some p5 =>
  obtain ⟨v, b5⟩ := p5
  obtain ⟨f5, hb5⟩ := text_some hb4 e5
  simp only [f5, ob_some, lt, wire_Reader_Fine, code_eq]
  by_cases hc : k < 2 ∧ R_CellCode ⟨row, col, t, decide ((k : Int) = 1), v⟩ = 0
  · refine .inl ⟨⟨row, col, t, decide ((k : Int) = 1), v⟩, b5, by rw [if_pos hc], ?_⟩
    have h2 : (k : Int) < 2 := by omega
    rw [decide_eq_true h2]
    refine congrArg some (Prod.ext rfl (Prod.ext ?_ rfl))
    exact Bool.and_eq_true_iff.2 ⟨rfl, @decide_eq_true _ _ hc.2⟩
  · refine .inr ⟨by rw [if_neg hc], _, rfl, ?_⟩
    by_cases h2 : k < 2
    · have h3 : ¬ R_CellCode ⟨row, col, t, decide ((k : Int) = 1), v⟩ = 0 := fun h => hc ⟨h2, h⟩
      exact Bool.and_eq_false_iff.2 (.inr (@decide_eq_false _ _ h3))
    · have h3 : ¬ (k : Int) < 2 := by omega
      simp only [decide_eq_false h3, Bool.false_and]
theorem rdC_some {b r : List UInt8} {c : Cell} (h : rdC b = some (c, r)) : R_CellCode c = 0 ∧ b = wrC c ++ r := by
  unfold rdC at h
  split at h
  · cases h
  · rename_i row b1 e1
    split at h
    · cases h
    · rename_i col b2 e2
      split at h
      · cases h
      · rename_i t b3 e3
        split at h
        · cases h
        · rename_i k b4 e4
          split at h
          · cases h
          · rename_i v b5 e5
            split at h
            · rename_i hc
              simp only [Option.some.injEq, Prod.mk.injEq] at h
              obtain ⟨rfl, rfl⟩ := h
              refine ⟨hc.2, ?_⟩
              have g1 := (rdT_some e1).1
              have g2 := (rdT_some e2).1
              have g3 := (rdN_some e3).1
              have g4 := (rdN_some e4).1
              have g5 := (rdT_some e5).1
              have hk : num k = if decide ((k : Int) = 1) = true then [1] else [0] := by
                have h01 : k = 0 ∨ k = 1 := by omega
                rcases h01 with rfl | rfl
                · rw [num_lt (by omega)]; rfl
                · rw [num_lt (by omega)]; rfl
              unfold wrC
              rw [g1, g2, g3, g4, g5, hk]
              simp
            · cases h
theorem rdC_wrC {c : Cell} (h : R_CellCode c = 0) (r : List UInt8) : rdC (wrC c ++ r) = some (c, r) := by
  obtain ⟨h1, h2, h3, h4, h5⟩ := code_len h
  have e0 : wrC c ++ r = wrT c.Row ++ (wrT c.Col ++ (num c.Time.toNat ++ (num (if c.Gone = true then 1 else 0) ++ (wrT c.Value ++ r)))) := by
    rw [num01]; simp [wrC]
  have hk : (if c.Gone = true then 1 else 0) ≤ 1000000000 := by split <;> omega
  have ec : (⟨c.Row, c.Col, ((c.Time.toNat : Nat) : Int), decide (((if c.Gone = true then 1 else 0 : Nat) : Int) = 1), c.Value⟩ : Cell) = c := by
    have h6 : ((c.Time.toNat : Nat) : Int) = c.Time := by omega
    rw [h6]
    cases c with | mk a b t g v => cases g <;> rfl
  unfold rdC
  rw [e0, rdT_wrT (by omega)]
  simp only []
  rw [rdT_wrT (by omega)]
  simp only []
  rw [rdN_num (by omega)]
  simp only []
  rw [rdN_num hk]
  simp only []
  rw [rdT_wrT (by omega)]
  simp only [ec]
  rw [if_pos ⟨by split <;> omega, h⟩]
noncomputable def rcS : List Cell ⊕ Nat → List Cell × Fault
  | .inl l => if (cellF l).Code = 0 then (l, ⟨0, 0⟩) else ([], cellF l)
  | .inr n => ([], ⟨5, n⟩)
noncomputable def readS (b : List UInt8) : List Cell × Fault := if 60000 < b.length then ([], ⟨8, 0⟩) else rcS (rdAll rdC b.length b [])
theorem read_J1 (z : Fault) (l : List Cell) : cell_Read_J1 (z, l) = some (rcS (.inl l)) := by
  simp only [cell_Read_J1, rcS, check_eq, ob_some]
  by_cases c : (cellF l).Code = 0
  · rw [if_neg (n_f c), if_pos c]
  · rw [if_pos (n_t c), if_neg c]
theorem rdC_len {b r : List UInt8} {c : Cell} (h : rdC b = some (c, r)) : b.length = (wrC c).length + r.length ∧ 0 < (wrC c).length := by
  obtain ⟨h1, h2⟩ := rdC_some h
  exact ⟨by rw [h2, List.length_append], (wrC_len h1).2⟩
theorem read_loop (z : Fault) : ∀ (k : Nat) (b : List UInt8) (acc : List Cell), b.length ≤ k → acc.length + b.length ≤ 1000000 →
    cell_Read_L1 (z, acc, ⟨b, false⟩) = some (rcS (rdAll rdC k b acc))
  | k, [], acc, hk, ha => by
    rw [rdAll_nil]
    refine loopO_inr ?_
    simp [cell_Read_B1, wire_Reader_More, lt, read_J1, inrO]
  | 0, x :: b, acc, hk, ha => by simp at hk
  | k + 1, x :: b, acc, hk, ha => by
    rw [rdAll, if_neg (by simp)]
    have hm : wire_Reader_More ⟨x :: b, false⟩ = true := by simp [wire_Reader_More]
    have hb : (x :: b).length ≤ 1000000 := by omega
    generalize hbb : x :: b = bb at *
    rcases from_eq bb hb with ⟨c, r, h1, h2⟩ | ⟨h1, y, h2, h3⟩
    · obtain ⟨h3, h4⟩ := rdC_len h1
      rw [h1]
      refine (loopO_inl (y := (z, acc ++ [c], ⟨r, false⟩)) ?_).trans (read_loop z k r (acc ++ [c]) (by omega) (by simp; omega))
      simp only [cell_Read_B1, hm, lt, if_true]
      rw [h2, ob_some]
      dsimp only
      rw [if_neg (by simp), asrt_pos (by simp; omega)]
    · rw [h1]
      refine loopO_inr ?_
      simp only [cell_Read_B1, hm, lt, if_true]
      rw [h2, ob_some, if_pos (by rw [h3]; rfl)]
      rfl
theorem read_eq (b : List UInt8) : cell_Read b = some (readS b) := by
  unfold cell_Read readS
  by_cases c : 60000 < b.length
  · rw [if_pos (d_t (by omega)), if_pos c]; rfl
  · rw [if_neg (d_f (by omega)), if_neg c]
    exact read_loop _ b.length b [] (Nat.le_refl _) (by simp; omega)
/- the document's -/
theorem cellAt_text (b : List UInt8) (hb : b.length ≤ 1000000) (z : Cell) (ps : List (List UInt8)) (ns : List Int) (p i : Nat) (hp : p ≤ b.length) (hps : ps.length ≤ 10) (hi : i = 0 ∨ i = 1 ∨ i = 4) :
    R_CellAt_B1 b (z, ps, ns, (p : Int), (i : Int)) = match rdT (b.drop p) with
      | none => some (.inr (cell0, 0))
      | some (s, r) => some (.inl (z, ps ++ [s], ns, ((b.length - r.length : Nat) : Int), ((i + 1 : Nat) : Int))) := by
  have hw : w64 ((i : Int) + 1) = ((i + 1 : Nat) : Int) := by rw [w64_id (by omega) (by omega)]; omega
  have hdl : (b.drop p).length = b.length - p := List.length_drop
  simp only [R_CellAt_B1, R_CellAt_J2]
  rw [if_pos (d_t (by omega)), asrt_pos (by omega), ldrop_nat, numAt_eq _ (by omega), ob_some]
  cases hd : rdN (b.drop p) with
  | none =>
    have e : rdT (b.drop p) = none := by simp [rdT, hd]
    have e2 : rnat (b.drop p) = (0, 0) := by simp [rnat, hd]
    rw [e2, e, if_pos (by simp)]; rfl
  | some q =>
    obtain ⟨n, r⟩ := q
    have e2 : rnat (b.drop p) = ((n : Int), ((num n).length : Int)) := by simp [rnat, hd]
    obtain ⟨h1, hn⟩ := rdN_some hd
    have h2 := num_pos n
    have h3 : b.length - p = (num n).length + r.length := by rw [← hdl, h1, List.length_append]
    have hw1 : w64 ((p : Int) + ((num n).length : Int)) = ((p + (num n).length : Nat) : Int) := by rw [w64_id (by omega) (by omega)]; omega
    have hw2 : w64 ((b.length : Int) - ((p + (num n).length : Nat) : Int)) = (r.length : Int) := by rw [w64_id (by omega) (by omega)]; omega
    rw [e2]
    dsimp only
    rw [if_neg (d_f (by omega)), if_neg (or_f (by omega)), hw1, hw2]
    by_cases c : n ≤ r.length
    · have e : rdT (b.drop p) = some (r.take n, r.drop n) := by simp [rdT, hd, c]
      have hw3 : w64 (((p + (num n).length : Nat) : Int) + (n : Int)) = ((p + (num n).length + n : Nat) : Int) := by rw [w64_id (by omega) (by omega)]; omega
      have h4 : (b.take (p + (num n).length + n)).drop (p + (num n).length) = r.take n := by
        have hb' : b.drop (p + (num n).length) = r := by
          rw [← List.drop_drop, h1]; simp
        rw [List.drop_take, hb']; congr 1; omega
      have h5 : b.length - (r.drop n).length = p + (num n).length + n := by simp; omega
      rw [e]
      dsimp only
      rw [if_neg (d_f (by omega)), hw3, asrt_pos (by omega), ltake_nat, ldrop_nat, h4, asrt_pos (by simp; omega), hw, h5]
      rfl
    · have e : rdT (b.drop p) = none := by simp [rdT, hd, c]
      rw [e, if_pos (d_t (by omega))]; rfl
theorem cellAt_num (b : List UInt8) (hb : b.length ≤ 1000000) (z : Cell) (ps : List (List UInt8)) (ns : List Int) (p i : Nat) (hp : p ≤ b.length) (hns : ns.length ≤ 10) (hi : i = 2 ∨ i = 3) :
    R_CellAt_B1 b (z, ps, ns, (p : Int), (i : Int)) = match rdN (b.drop p) with
      | none => some (.inr (cell0, 0))
      | some (n, r) => some (.inl (z, ps, ns ++ [(n : Int)], ((b.length - r.length : Nat) : Int), ((i + 1 : Nat) : Int))) := by
  have hw : w64 ((i : Int) + 1) = ((i + 1 : Nat) : Int) := by rw [w64_id (by omega) (by omega)]; omega
  have hdl : (b.drop p).length = b.length - p := List.length_drop
  simp only [R_CellAt_B1, R_CellAt_J2]
  rw [if_pos (d_t (by omega)), asrt_pos (by omega), ldrop_nat, numAt_eq _ (by omega), ob_some]
  cases hd : rdN (b.drop p) with
  | none =>
    have e2 : rnat (b.drop p) = (0, 0) := by simp [rnat, hd]
    rw [e2, if_pos (by simp)]; rfl
  | some q =>
    obtain ⟨n, r⟩ := q
    have e2 : rnat (b.drop p) = ((n : Int), ((num n).length : Int)) := by simp [rnat, hd]
    obtain ⟨h1, hn⟩ := rdN_some hd
    have h2 := num_pos n
    have h3 : b.length - p = (num n).length + r.length := by rw [← hdl, h1, List.length_append]
    have hw1 : w64 ((p : Int) + ((num n).length : Int)) = ((p + (num n).length : Nat) : Int) := by rw [w64_id (by omega) (by omega)]; omega
    have h5 : b.length - r.length = p + (num n).length := by omega
    rw [e2]
    dsimp only
    rw [if_neg (d_f (by omega)), if_pos (or_t (by omega)), hw1, hw, asrt_pos (by simp; omega), h5]
theorem drop_rest {b r : List UInt8} {p : Nat} {x : List UInt8} (hp : p ≤ b.length) (h : b.drop p = x ++ r) : b.drop (b.length - r.length) = r ∧ b.length - r.length ≤ b.length := by
  have h1 : b.length - p = x.length + r.length := by rw [← List.length_drop, h, List.length_append]
  refine ⟨?_, by omega⟩
  have : b.length - r.length = p + x.length := by omega
  rw [this, ← List.drop_drop, h]; simp
noncomputable def catS (b : List UInt8) : Cell × Int := match rdC b with
  | some (c, r) => (c, ((b.length - r.length : Nat) : Int))
  | none => (cell0, 0)
theorem cellAt_J1 (z : Cell) (x y v : List UInt8) (t k : Nat) (p : Int) : R_CellAt_J1 (z, [x, y, v], [(t : Int), (k : Int)], p) = some (if k < 2 ∧ R_CellCode ⟨x, y, t, decide ((k : Int) = 1), v⟩ = 0 then (⟨x, y, t, decide ((k : Int) = 1), v⟩, p) else (cell0, 0)) := by
  unfold R_CellAt_J1
  have g0 : lget [x, y, v] 0 = x := rfl
  have g1 : lget [x, y, v] 1 = y := rfl
  have g2 : lget [x, y, v] 2 = v := rfl
  have n0 : lget [(t : Int), (k : Int)] 0 = (t : Int) := rfl
  have n1 : lget [(t : Int), (k : Int)] 1 = (k : Int) := rfl
  dsimp only
  rw [asrt_pos (by simp), asrt_pos (by simp), asrt_pos (by simp), asrt_pos (by simp), asrt_pos (by simp), asrt_pos (by simp), asrt_pos (by simp), asrt_pos (by simp), asrt_pos (by simp), asrt_pos (by simp), asrt_pos (by simp), asrt_pos (by simp), g0, g1, g2, n0, n1]
  dsimp only [lt]
  by_cases hc : k < 2 ∧ R_CellCode ⟨x, y, t, decide ((k : Int) = 1), v⟩ = 0
  · have h1 : ¬ (1 : Int) < (k : Int) := by omega
    rw [if_pos hc, if_neg]
    rw [decide_eq_false h1, decide_eq_true hc.2]; simp
  · rw [if_neg hc, if_pos]
    · rfl
    · by_cases h1 : (1 : Int) < (k : Int)
      · rw [decide_eq_true h1]; rfl
      · have h3 : ¬ R_CellCode ⟨x, y, t, decide ((k : Int) = 1), v⟩ = 0 := fun h => hc ⟨by omega, h⟩
        rw [decide_eq_false h3]; simp
theorem cellAt_eq (b : List UInt8) (hb : b.length ≤ 1000000) : R_CellAt b = some (catS b) := by
  unfold R_CellAt catS rdC
  have s0 := cellAt_text b hb cell0 [] [] 0 0 (by omega) (by simp) (by omega)
  rw [List.drop_zero] at s0
  cases e1 : rdT b with
  | none => rw [e1] at s0; exact loopO_inr s0
  | some p1 =>
  obtain ⟨row, b1⟩ := p1
  rw [e1] at s0
  refine (loopO_inl s0).trans ?_
  obtain ⟨d1, l1⟩ := drop_rest (b := b) (p := 0) (by omega) (by rw [List.drop_zero]; exact (rdT_some e1).1)
  have s1 := cellAt_text b hb cell0 ([] ++ [row]) [] (b.length - b1.length) 1 l1 (by simp) (by omega)
  rw [d1] at s1
  dsimp only
  cases e2 : rdT b1 with
  | none => rw [e2] at s1; exact loopO_inr s1
  | some p2 =>
  obtain ⟨col, b2⟩ := p2
  rw [e2] at s1
  refine (loopO_inl s1).trans ?_
  obtain ⟨d2, l2⟩ := drop_rest l1 (by rw [d1]; exact (rdT_some e2).1)
  have s2 := cellAt_num b hb cell0 ([] ++ [row] ++ [col]) [] (b.length - b2.length) 2 l2 (by simp) (by omega)
  rw [d2] at s2
  dsimp only
  cases e3 : rdN b2 with
  | none => rw [e3] at s2; exact loopO_inr s2
  | some p3 =>
  obtain ⟨t, b3⟩ := p3
  rw [e3] at s2
  refine (loopO_inl s2).trans ?_
  obtain ⟨d3, l3⟩ := drop_rest l2 (by rw [d2]; exact (rdN_some e3).1)
  have s3 := cellAt_num b hb cell0 ([] ++ [row] ++ [col]) ([] ++ [(t : Int)]) (b.length - b3.length) 3 l3 (by simp) (by omega)
  rw [d3] at s3
  dsimp only
  cases e4 : rdN b3 with
  | none => rw [e4] at s3; exact loopO_inr s3
  | some p4 =>
  obtain ⟨k, b4⟩ := p4
  rw [e4] at s3
  refine (loopO_inl s3).trans ?_
  obtain ⟨d4, l4⟩ := drop_rest l3 (by rw [d3]; exact (rdN_some e4).1)
  have s4 := cellAt_text b hb cell0 ([] ++ [row] ++ [col]) ([] ++ [(t : Int)] ++ [(k : Int)]) (b.length - b4.length) 4 l4 (by simp) (by omega)
  rw [d4] at s4
  dsimp only
  cases e5 : rdT b4 with
  | none => rw [e5] at s4; exact loopO_inr s4
  | some p5 =>
  obtain ⟨v, b5⟩ := p5
  rw [e5] at s4
  refine (loopO_inl s4).trans ?_
  refine loopO_inr ?_
  simp only [R_CellAt_B1]
  have hJ := cellAt_J1 cell0 row col v t k ((b.length - b5.length : Nat) : Int)
  simp only [List.nil_append, List.cons_append]
  rw [if_neg (d_f (by omega)), hJ]
  by_cases hc : k < 2 ∧ R_CellCode ⟨row, col, t, decide ((k : Int) = 1), v⟩ = 0
  · rw [if_pos hc, if_pos hc]; rfl
  · rw [if_neg hc, if_neg hc]; rfl
theorem cellsOf_J1 (z : Fault) (l : List Cell) : R_CellsOf_J1 (z, l) = some (rcS (.inl l)) := by
  simp only [R_CellsOf_J1, rcS, rcheck_eq, ob_some]
  by_cases c : (cellF l).Code = 0
  · rw [if_neg (n_f c), if_pos c]
  · rw [if_pos (n_t c), if_neg c]
theorem cellsOf_loop (z : Fault) : ∀ (k : Nat) (b : List UInt8) (acc : List Cell), b.length ≤ k → acc.length + b.length ≤ 1000000 →
    R_CellsOf_L1 (b, z, acc) = some (rcS (rdAll rdC k b acc))
  | k, [], acc, hk, ha => by
    rw [rdAll_nil]
    refine loopO_inr ?_
    simp [R_CellsOf_B1, cellsOf_J1, inrO]
  | 0, x :: b, acc, hk, ha => by simp at hk
  | k + 1, x :: b, acc, hk, ha => by
    rw [rdAll, if_neg (by simp)]
    have hpos : 0 < (x :: b).length := by simp
    have hb : (x :: b).length ≤ 1000000 := by omega
    generalize hbb : x :: b = bb at *
    cases hd : rdC bb with
    | none =>
      have e2 : catS bb = (cell0, 0) := by simp [catS, hd]
      refine loopO_inr ?_
      simp only [R_CellsOf_B1]
      rw [if_pos (d_t (by omega)), cellAt_eq bb hb, ob_some, e2, if_pos (by simp)]
      rfl
    | some p =>
      obtain ⟨c, r⟩ := p
      have e2 : catS bb = (c, ((bb.length - r.length : Nat) : Int)) := by simp [catS, hd]
      obtain ⟨h3, h4⟩ := rdC_len hd
      obtain ⟨h5, h6⟩ := rdC_some hd
      have hdr : bb.drop (bb.length - r.length) = r := (drop_rest (p := 0) (by omega) (by rw [List.drop_zero]; exact h6)).1
      refine (loopO_inl (y := (r, z, acc ++ [c])) ?_).trans (cellsOf_loop z k r (acc ++ [c]) (by omega) (by simp; omega))
      simp only [R_CellsOf_B1]
      rw [if_pos (d_t (by omega)), cellAt_eq bb hb, ob_some, e2]
      dsimp only
      rw [if_neg (d_f (by omega)), asrt_pos (by simp; omega), asrt_pos (by omega), ldrop_nat, hdr]
theorem cellsOf_eq (b : List UInt8) : R_CellsOf b = some (readS b) := by
  unfold R_CellsOf readS
  by_cases c : 60000 < b.length
  · rw [if_pos (d_t (by omega)), if_pos c]; rfl
  · rw [if_neg (d_f (by omega)), if_neg c]
    exact cellsOf_loop _ b.length b [] (Nat.le_refl _) (by simp; omega)
theorem written_eq (s : List UInt8) (hs : s.length ≤ 1000000000) : R_Written s = some (wrT s) := by
  have h5 := num_len5 hs
  unfold R_Written
  rw [rnumber s.length (by omega), ob_some, asrt_pos (by simp; omega)]; rfl
theorem cellBytes_eq (c : Cell) (h : R_CellCode c = 0) : R_CellBytes c = some (wrC c) := by
  obtain ⟨h1, h2, h3, h4, h5⟩ := code_len h
  have a1 := wrT_len c.Row (by omega)
  have a2 := wrT_len c.Col (by omega)
  have a3 := wrT_len c.Value (by omega)
  have a4 := num_len5 (n := c.Time.toNat) (by omega)
  have et : (c.Time) = ((c.Time.toNat : Nat) : Int) := by omega
  unfold R_CellBytes
  rw [written_eq c.Row (by omega), ob_some, written_eq c.Col (by omega), ob_some, asrt_pos (by simp; omega), et, rnumber _ (by omega), ob_some, asrt_pos (by simp; omega)]
  have e : (if c.Gone = true then asrt (((((wrT c.Row ++ wrT c.Col) ++ num c.Time.toNat) ++ ([(1 : UInt8)] : List UInt8)).length : Int) * 1 ≤ 140737488351232) (some (c, (((wrT c.Row ++ wrT c.Col) ++ num c.Time.toNat) ++ ([(1 : UInt8)] : List UInt8)))) else asrt (((((wrT c.Row ++ wrT c.Col) ++ num c.Time.toNat) ++ ([(0 : UInt8)] : List UInt8)).length : Int) * 1 ≤ 140737488351232) (some (c, (((wrT c.Row ++ wrT c.Col) ++ num c.Time.toNat) ++ ([(0 : UInt8)] : List UInt8))))) = some (c, ((wrT c.Row ++ wrT c.Col) ++ num c.Time.toNat) ++ (if c.Gone = true then [1] else [0])) := by
    cases c.Gone
    · rw [if_neg (by simp), asrt_pos (by simp; omega)]; rfl
    · rw [if_pos rfl, asrt_pos (by simp; omega)]; rfl
  rw [e, ob_some]
  dsimp only
  have a5 : (if c.Gone = true then ([1] : List UInt8) else [0]).length = 1 := by split <;> rfl
  rw [written_eq c.Value (by omega), ob_some, asrt_pos (by simp only [List.length_append, a5]; omega)]
  simp [wrC]
theorem readS_len (b : List UInt8) : (readS b).1.length ≤ 60000 := by
  unfold readS
  split
  · simp
  · have key : ∀ (k : Nat) (b : List UInt8) (acc l : List Cell), rdAll rdC k b acc = .inl l → l.length ≤ acc.length + k := by
      intro k
      induction k with
      | zero => intro b acc l h; simp only [rdAll, Sum.inl.injEq] at h; subst h; omega
      | succ k ih =>
        intro b acc l h
        rw [rdAll] at h
        split at h
        · simp only [Sum.inl.injEq] at h; subst h; omega
        · split at h
          · have := ih _ _ _ h; simp at this; omega
          · cases h
    cases hr : rdAll rdC b.length b [] with
    | inr n => simp [rcS]
    | inl l =>
      have := key _ _ _ _ hr
      simp only [rcS]
      split
      · have h3 : l.length ≤ b.length := by simpa using this
        show l.length ≤ 60000
        omega
      · simp
end G
end Go.Proofs.Ytollmifjbcccgaa
