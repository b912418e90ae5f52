/- What is kept behind a region, and how it is told: rows by new numbers. -/
import Derived.Test.YtipeimcdjijkgaaEm27
namespace Go.Dm
open Go Go.RowKit
set_option linter.unnecessarySimpa false
set_option linter.constructorNameAsVariable false
set_option linter.unusedSectionVars false
set_option linter.unusedSimpArgs false
set_option linter.unusedVariables false

variable {C : Cx} {k : List It} {s s' t : S} {τ : TyTab}

/-- of a row: its header's new number; is its capacity's bound kept, that it is nil when empty; is it said to be sealed whole -/
structure NvE where
  v : Nat
  c : Bool
  n : Bool
  e : Bool
abbrev NV := List (Nat × NvE)

def vmI (nv : NV) (rw : List (Nat × Rw)) (i vr : Nat) : Option Nat :=
  match aget nv i with
  | none => some vr
  | some n => match aget rw i with
    | some r => match Nat.beq vr r.ver with
      | true => some n.v
      | false => none
    | none => none

mutual
def AV.vm (nv : NV) (rw : List (Nat × Rw)) : AV → Option AV
  | .row i v => match vmI nv rw i v with
    | some v' => some (.row i v')
    | none => none
  | .rowv i v o n => match vmI nv rw i v with
    | some v' => some (.rowv i v' o n)
    | none => none
  | .ep i v o n => match vmI nv rw i v with
    | some v' => some (.ep i v' o n)
    | none => none
  | .fn f caps => match AV.vmL nv rw caps with
    | some l => some (.fn f l)
    | none => none
  | .popt b x => match AV.vm nv rw x with
    | some y => some (.popt b y)
    | none => none
  | .agg cs => match AV.vmL nv rw cs with
    | some l => some (.agg l)
    | none => none
  | .tup cs => match AV.vmL nv rw cs with
    | some l => some (.tup l)
    | none => none
  | .when c x => match AV.vm nv rw x with
    | some y => some (.when c y)
    | none => none
  | x => some x
def AV.vmL (nv : NV) (rw : List (Nat × Rw)) : List AV → Option (List AV)
  | [] => some []
  | x :: l => match AV.vm nv rw x with
    | some y => match AV.vmL nv rw l with
      | some m => some (y :: m)
      | none => none
    | none => none
end

theorem vmL_get {nv : NV} {rw : List (Nat × Rw)} : ∀ {l m : List AV}, AV.vmL nv rw l = some m → m.length = l.length ∧ ∀ (j : Nat) (x : AV), l[j]? = some x → ∃ y, m[j]? = some y ∧ x.vm nv rw = some y
  | [], m, h => by simp only [AV.vmL] at h; cases h; exact ⟨rfl, fun j x hx => by simp at hx⟩
  | x :: l, m, h => by
    simp only [AV.vmL] at h
    split at h
    · rename_i y hy
      split at h
      · rename_i m' hm
        cases h
        obtain ⟨h1, h2⟩ := vmL_get hm
        refine ⟨by simp [h1], fun j u hu => ?_⟩
        cases j with
        | zero => simp at hu; subst hu; exact ⟨y, rfl, hy⟩
        | succ j => simp only [List.getElem?_cons_succ] at hu ⊢; exact h2 j u hu
      · cases h
    · cases h

def vmF (nv : NV) (rw : List (Nat × Rw)) : List (Nat × AV) → Option (List (Nat × AV))
  | [] => some []
  | (i, x) :: l => match AV.vm nv rw x with
    | some y => match vmF nv rw l with
      | some m => some ((i, y) :: m)
      | none => none
    | none => none
def vmB (nv : NV) (rw : List (Nat × Rw)) : List (Nat × List AV) → Option (List (Nat × List AV))
  | [] => some []
  | (i, x) :: l => match AV.vmL nv rw x with
    | some y => match vmB nv rw l with
      | some m => some ((i, y) :: m)
      | none => none
    | none => none
def nvRw (nv : NV) (i : Nat) (r : Rw) : Rw := match aget nv i with
  | some n => { r with ver := n.v, cm := bif n.c then r.cm else 0, nl := bif n.n then r.nl else false, k := bif n.e then r.xs.length else r.k }
  | none => r
def nvR (nv : NV) : List (Nat × Rw) → List (Nat × Rw)
  | [] => []
  | (i, r) :: l => (i, nvRw nv i r) :: nvR nv l
/-- a row that was handed in gets the number 0 only if it has it -/
def nvOk (rw : List (Nat × Rw)) : NV → Bool
  | [] => true
  | (i, n) :: l => match aget rw i with
    | some r => match Nat.blt i nB || (Nat.blt 0 n.v || Nat.beq r.ver 0) with
      | true => nvOk rw l
      | false => false
    | none => false

def normV (nv : NV) (s : S) : Option S :=
  match nvOk s.rw nv with
  | true => match vmF nv s.rw s.fr with
    | some f => match vmB nv s.rw s.bx with
      | some b => some ⟨f, b, nvR nv s.rw, s.mp, s.ar⟩
      | none => none
    | none => none
  | false => none

theorem vmF_get {nv : NV} {rw : List (Nat × Rw)} : ∀ {l m : List (Nat × AV)}, vmF nv rw l = some m → ∀ {i : Nat} {y : AV}, aget m i = some y → ∃ x, aget l i = some x ∧ x.vm nv rw = some y
  | [], m, h, i, y, hi => by simp only [vmF] at h; cases h; cases hi
  | (j, x) :: l, m, h, i, y, hi => by
    simp only [vmF] at h
    split at h
    · rename_i z hz
      split at h
      · rename_i m' hm
        cases h
        rw [aget_cons] at hi ⊢
        split at hi
        · rename_i e; cases hi; rw [if_pos e]; exact ⟨x, rfl, hz⟩
        · rename_i e; rw [if_neg e]; exact vmF_get hm hi
      · cases h
    · cases h
theorem vmB_get {nv : NV} {rw : List (Nat × Rw)} : ∀ {l m : List (Nat × List AV)}, vmB nv rw l = some m → ∀ (i : Nat), (∀ y, aget m i = some y → ∃ x, aget l i = some x ∧ AV.vmL nv rw x = some y) ∧ (aget m i = none → aget l i = none)
  | [], m, h, i => by simp only [vmB] at h; cases h; exact ⟨fun y hy => (by cases hy), fun _ => rfl⟩
  | (j, x) :: l, m, h, i => by
    simp only [vmB] at h
    split at h
    · rename_i z hz
      split at h
      · rename_i m' hm
        cases h
        simp only [aget_cons]
        split
        · exact ⟨fun y hy => (by cases hy; exact ⟨x, rfl, hz⟩), fun h => by cases h⟩
        · exact vmB_get hm i
      · cases h
    · cases h
theorem nvR_get {nv : NV} : ∀ (l : List (Nat × Rw)) (i : Nat), aget (nvR nv l) i = (aget l i).map (nvRw nv i)
  | [], i => rfl
  | (j, r) :: l, i => by
    simp only [nvR, aget_cons]
    split
    · rename_i e; subst e; rfl
    · exact nvR_get l i
theorem nvOk_get {rw : List (Nat × Rw)} : ∀ {nv : NV}, nvOk rw nv = true → ∀ {i : Nat} {n : NvE}, aget nv i = some n → ∃ r, aget rw i = some r ∧ (nB ≤ i → n.v = 0 → r.ver = 0)
  | [], _, i, n, hi => by cases hi
  | (j, m) :: l, h, i, n, hi => by
    simp only [nvOk] at h
    split at h
    · rename_i r hr
      split at h
      · rename_i hc
        rw [aget_cons] at hi
        split at hi
        · rename_i e
          cases hi
          subst e
          refine ⟨r, hr, fun h1 h2 => ?_⟩
          rw [Bool.or_eq_true, Bool.or_eq_true] at hc
          rcases hc with hc | hc | hc
          · have := Nat.le_of_ble_eq_true hc; omega
          · have := Nat.le_of_ble_eq_true hc; omega
          · exact beq_true hc
        · exact nvOk_get h hi
      · cases h
    · cases h

/-- the environment, with the new numbers -/
def Env.nv (E : Env) (nv : NV) : Env := { E with rw := fun i => match aget nv i with
  | some n => (E.rw i).map fun q => { q with ver := n.v }
  | none => E.rw i }

section
variable {M : Mem} {E : Env} {nv : NV} {rw : List (Nat × Rw)}
theorem vmI_ok (hv : ∀ i r q, aget rw i = some r → E.rw i = some q → q.ver = r.ver) {i vr vr' : Nat} (h : vmI nv rw i vr = some vr') {q : RwE} (hq : E.rw i = some q) :
    ∃ q', (E.nv nv).rw i = some q' ∧ (vr ≤ q.ver → vr' ≤ q'.ver) ∧ (vr' = q'.ver → vr = q.ver) ∧ q'.a = q.a ∧ q'.n = q.n ∧ q'.c = q.c ∧ q'.sz = q.sz := by
  unfold vmI at h
  split at h
  · rename_i hn
    cases h
    exact ⟨q, by simp only [Env.nv, hn]; exact hq, fun h => h, fun h => h, rfl, rfl, rfl, rfl⟩
  · rename_i n hn
    split at h
    · rename_i r hr
      split at h
      · rename_i hb
        cases h
        refine ⟨{ q with ver := n.v }, by simp only [Env.nv, hn, hq, Option.map_some], fun _ => Nat.le_refl _, fun _ => ?_, rfl, rfl, rfl, rfl⟩
        rw [beq_true hb]; exact (hv i r q hr hq).symm
      · cases h
    · cases h
theorem RelS.vm (hv : ∀ i r q, aget rw i = some r → E.rw i = some q → q.ver = r.ver) {v : Value} {x : AV} (h : RelS M E v x) : ∀ {y : AV}, x.vm nv rw = some y → RelS M (E.nv nv) v y := by
  induction h with
  | pure h => intro y hy; cases h <;> (simp only [AV.vm] at hy; cases hy; exact .pure (by constructor <;> assumption))
  | any h => intro y hy; simp only [AV.vm] at hy; cases hy; exact .any h
  | ptr i off b h => intro y hy; simp only [AV.vm] at hy; cases hy; exact .ptr i off b h
  | row i vr n c a q hq hver hh =>
    intro y hy
    simp only [AV.vm] at hy
    split at hy
    · rename_i v' hv'
      cases hy
      obtain ⟨q', h1, h2, h3, e1, e2, e3, e4⟩ := vmI_ok hv hv' hq
      refine .row i v' n c a q' h1 (h2 hver) fun e => ?_
      obtain ⟨f1, f2, f3⟩ := hh (h3 e)
      exact ⟨by rw [e1]; exact f1, by rw [e2]; exact f2, by rw [e3]; exact f3⟩
    · cases hy
  | rowv i vr off m n c a q hq hver hh =>
    intro y hy
    simp only [AV.vm] at hy
    split at hy
    · rename_i v' hv'
      cases hy
      obtain ⟨q', h1, h2, h3, e1, e2, e3, e4⟩ := vmI_ok hv hv' hq
      refine .rowv i v' off m n c a q' h1 (h2 hver) fun e => ?_
      have := hh (h3 e)
      unfold viewA at this ⊢
      rw [e1, e3, e4]
      exact this
    · cases hy
  | ep i vr kk off ad q hq hver hh =>
    intro y hy
    simp only [AV.vm] at hy
    split at hy
    · rename_i v' hv'
      cases hy
      obtain ⟨q', h1, h2, h3, e1, e2, e3, e4⟩ := vmI_ok hv hv' hq
      refine .ep i v' kk off ad q' h1 (h2 hver) fun e => ?_
      have := hh (h3 e)
      rw [e1, e4]
      exact this
    · cases hy
  | aptr i kk off bs b h hk => intro y hy; simp only [AV.vm] at hy; cases hy; exact .aptr i kk off bs b h hk
  | mp i r h => intro y hy; simp only [AV.vm] at hy; cases hy; exact .mp i r h
  | popt b x ht hf ih =>
    intro y hy
    simp only [AV.vm] at hy
    split at hy
    · rename_i z hz
      cases hy
      exact .popt b z (fun hb => ih hb hz) hf
    · cases hy
  | fn f vs cs hl h ih =>
    intro y hy
    simp only [AV.vm] at hy
    split at hy
    · rename_i l hl'
      cases hy
      obtain ⟨h1, h2⟩ := vmL_get hl'
      refine .fn f vs l (hl.trans h1.symm) fun j v c hv' hc => ?_
      have hj := (List.getElem?_eq_some_iff.1 hv').1
      have hcs : cs[j]? = some cs[j] := List.getElem?_eq_getElem (by omega)
      obtain ⟨y, hy, hvm⟩ := h2 j _ hcs
      rw [hc] at hy; cases hy
      exact ih j v _ hv' hcs hvm
    · cases hy
theorem Rel.vm (hv : ∀ i r q, aget rw i = some r → E.rw i = some q → q.ver = r.ver) {v : Value} {x : AV} (h : Rel M E v x) : ∀ {y : AV}, x.vm nv rw = some y → Rel M (E.nv nv) v y := by
  induction h with
  | cell h => intro y hy; exact .cell (h.vm hv hy)
  | agg vs cs hl h =>
    intro y hy
    simp only [AV.vm] at hy
    split at hy
    · rename_i l hl'
      cases hy
      obtain ⟨h1, h2⟩ := vmL_get hl'
      refine .agg vs l (hl.trans h1.symm) fun j v c hv' hc => ?_
      have hj := (List.getElem?_eq_some_iff.1 hv').1
      have hcs : cs[j]? = some cs[j] := List.getElem?_eq_getElem (by omega)
      obtain ⟨y, hy, hvm⟩ := h2 j _ hcs
      rw [hc] at hy; cases hy
      exact (h j v _ hv' hcs).vm hv hvm
    · cases hy
  | tup vs cs hl h ih =>
    intro y hy
    simp only [AV.vm] at hy
    split at hy
    · rename_i l hl'
      cases hy
      obtain ⟨h1, h2⟩ := vmL_get hl'
      refine .tup vs l (hl.trans h1.symm) fun j v c hv' hc => ?_
      have hj := (List.getElem?_eq_some_iff.1 hv').1
      have hcs : cs[j]? = some cs[j] := List.getElem?_eq_getElem (by omega)
      obtain ⟨y, hy, hvm⟩ := h2 j _ hcs
      rw [hc] at hy; cases hy
      exact ih j v _ hv' hcs hvm
    · cases hy
  | any v => intro y hy; simp only [AV.vm] at hy; cases hy; exact .any v
  | when v c x h hu ih =>
    intro y hy
    simp only [AV.vm] at hy
    split at hy
    · rename_i z hz
      cases hy
      exact .when v c z (fun hc => ih hc hz) hu
    · cases hy
end

theorem normV_St {nv : NV} (h : normV nv s = some t) {g : Gh} {N : Nat} {M : Mem} {E : Env} {tmps : Array Value} {w : World} (hs : St g N M E s tmps w) :
    St g N M (E.nv nv) t tmps w ∧ ∀ E0, Env.p0 E0 E → Env.p0 E0 (E.nv nv) := by
  unfold normV at h
  split at h
  · rename_i hok
    split at h
    · rename_i f hf
      split at h
      · rename_i b hb
        · cases h
          have hv : ∀ i r q, aget s.rw i = some r → E.rw i = some q → q.ver = r.ver := fun i r q h1 h2 => by
            obtain ⟨q', hq', ho⟩ := hs.rw i r h1
            rw [h2] at hq'; cases hq'
            exact ho.ver
          refine ⟨?_, fun E0 hp => ⟨hp.bx, fun i q hi he h0 => ?_, hp.mp, hp.ar⟩⟩
          · refine hs.weak (fun i y hi => ?_) (fun i cs hi => ?_) (fun i hi => ?_) (fun i r hi => ?_) (fun i hi => ?_) (fun i es hi => ?_) (fun i hi => ?_)
              (fun i r hi => ⟨hi, rfl, fun b p h => h, fun b p h => h, arO_le_of (E := E) (E' := E.nv nv) rfl _⟩) hs.arn (fun b o ho => ⟨o, ho, fun j hj => ?_⟩)
            · obtain ⟨x, h1, h2⟩ := vmF_get hf hi
              exact ⟨x, h1, fun v hr => hr.vm hv h2⟩
            · obtain ⟨x, h1, h2⟩ := (vmB_get hb i).1 cs hi
              obtain ⟨h3, h4⟩ := vmL_get h2
              refine ⟨i, x, h1, fun b h => h, fun b h => h, h3, fun j c c' v hc hc' hr => ?_⟩
              obtain ⟨y, hy, hvm⟩ := h4 j c hc
              rw [hc'] at hy; cases hy
              exact hr.vm hv hvm
            · exact hs.bxn i ((vmB_get hb i).2 hi)
            · have hi : aget (nvR nv s.rw) i = some r := hi
              rw [nvR_get] at hi
              obtain ⟨r0, hr0, rfl⟩ := Option.map_eq_some_iff.1 hi
              refine ⟨i, r0, hr0, fun q hq => ?_, fun b h => h, fun b p h => h, ?_, ?_, ?_, ?_, ?_, ?_, ?_, ?_, fun _ => arO_le_of (E := E) (E' := E.nv nv) rfl _⟩
              · have := hv i r0 q hr0 hq
                unfold nvRw
                simp only [Env.nv]
                cases hn : aget nv i with
                | none => simp only [← this]; exact hq
                | some n => simp only [hq, Option.map_some]
              all_goals unfold nvRw
              all_goals cases hn : aget nv i with
                | none => simp
                | some n => first | rfl | (obtain ⟨v, c, n, e⟩ := n; cases c <;> cases n <;> cases e <;> simp)
            · have hi : aget (nvR nv s.rw) i = none := hi
              rw [nvR_get, Option.map_eq_none_iff] at hi
              have := hs.rwn i hi
              simp only [Env.nv, this]
              cases aget nv i <;> rfl
            · refine ⟨i, es, hi, fun b h => h, fun b h => h, rfl, fun j c c' hc hc' => ?_⟩
              rw [hc] at hc'; cases hc'
              exact ⟨rfl, fun v hr => hr⟩
            · exact hs.mpn i hi
            · obtain ⟨kd, i, p⟩ := o
              simp only [sealN, nvR_get] at hj ⊢
              split
              · rename_i hc
                rw [if_pos hc] at hj
                cases hr : aget s.rw i with
                | none => rw [hr] at hj; exact hj
                | some r =>
                  rw [hr] at hj
                  simp only [Option.map_some] at hj ⊢
                  obtain ⟨q, _, hrok⟩ := hs.rw i r hr
                  refine Nat.lt_of_lt_of_le hj ?_
                  unfold nvRw
                  cases hn : aget nv i with
                  | none => exact Nat.le_refl _
                  | some n =>
                    simp only
                    refine Nat.mul_le_mul_right _ ?_
                    cases n.e
                    · exact Nat.le_refl _
                    · exact hrok.k
              · rename_i hc
                rw [if_neg hc] at hj
                split
                · rename_i hc5
                  rw [if_pos hc5] at hj
                  cases hr : aget s.rw i with
                  | none => rw [hr] at hj; exact hj
                  | some r =>
                    rw [hr] at hj
                    simp only [Option.map_some] at hj ⊢
                    have : (nvRw nv i r).xs = r.xs := by
                      unfold nvRw
                      cases aget nv i <;> rfl
                    rw [this]; exact hj
                · rename_i hc5
                  rw [if_neg hc5] at hj
                  exact hj
          · simp only [Env.nv] at he
            split at he
            · rename_i n hn
              obtain ⟨q0, hq0, rfl⟩ := Option.map_eq_some_iff.1 he
              obtain ⟨r, hr, hz⟩ := nvOk_get hok hn
              have h1 := hv i r q0 hr hq0
              have h2 := hz hi h0
              have : ({ q0 with ver := n.v } : RwE) = q0 := by
                have e : n.v = q0.ver := by rw [h1, h2]; exact h0
                rw [e]
              rw [this]
              exact hp.rw i q0 hi hq0 (by rw [h1, h2])
            · exact hp.rw i q hi he h0
      · cases h
    · cases h
  · cases h

/-- what is kept -/
def trimS (fs bs rs ms aa : List Nat) (nv : NV) (s : S) : Option S :=
  match selF fs s.fr with
  | some f => match selF bs s.bx with
    | some b => match selF rs s.rw with
      | some r => match selF ms s.mp with
        | some m => match selF aa s.ar with
          | some a => match closedB ⟨f, b, r, m, a⟩ with
            | true => match nv with
              | [] => some ⟨f, b, r, m, a⟩
              | _ :: _ => normV nv ⟨f, b, r, m, a⟩
            | false => none
          | none => none
        | none => none
      | none => none
    | none => none
  | none => none

theorem trimS_St {fs bs rs ms aa : List Nat} {nv : NV} (h : trimS fs bs rs ms aa nv s = some t) {g : Gh} {N : Nat} {M : Mem} {E : Env} {tmps : Array Value} {w : World} (hs : St g N M E s tmps w) :
    ∃ E', St g N M E' t tmps w ∧ ∀ E0, Env.p0 E0 E → Env.p0 E0 E' := by
  unfold trimS at h
  split at h
  · rename_i f hf
    split at h
    · rename_i b hb
      split at h
      · rename_i r hr
        split at h
        · rename_i m hm
          split at h
          · rename_i a haa
            split at h
            · rename_i hc
              have h1 := hs.sub (t := ⟨f, b, r, m, a⟩) (fun i v => selF_get hf) (fun i v => selF_get hb) (fun i v => selF_get hr) (fun i v => selF_get hm) (fun i v => selF_get haa) hc
              split at h
              · cases h
                exact ⟨_, h1, fun E0 hp => Env.keep_p0 hp _ _ _ _⟩
              · obtain ⟨h2, h3⟩ := normV_St h h1
                exact ⟨_, h2, fun E0 hp => h3 E0 (Env.keep_p0 hp _ _ _ _)⟩
            · cases h
          · cases h
        · cases h
      · cases h
    · cases h
  · cases h

theorem trimS_H {fs bs rs ms aa : List Nat} {nv : NV} (h : trimS fs bs rs ms aa nv s = some t) {g : Gh} {N : Nat} {a : Act} {w : World} (hx : H g N s a w) : H g N t a w := by
  obtain ⟨hd, M, E, hs, hp⟩ := hx
  obtain ⟨E', h1, h2⟩ := trimS_St h hs
  exact ⟨hd, M, E', h1, h2 _ hp⟩

theorem Wk_trim {fs bs rs ms aa : List Nat} {nv : NV} (h : trimS fs bs rs ms aa nv s = some t) (hw : Wk C k t) : Wk C k s := fun a w hx => hw a w (trimS_H h hx)
theorem Wk_met {fs bs rs ms aa : List Nat} {nv : NV} (h : trimS fs bs rs ms aa nv s = some t) : Wk C (.cut (fun s' => s' = t) :: k) s := Wk_cut (fun a w hx => trimS_H h hx) rfl

def fsts : List (Bool × Bool) → List Bool
  | [] => []
  | (a, _) :: l => a :: fsts l
def snds : List (Bool × Bool) → List Bool
  | [] => []
  | (_, a) :: l => a :: snds l
theorem AllE_of : ∀ {l : List (Bool × Bool)}, fsts l = snds l → AllE l
  | [], _ => trivial
  | (a, b) :: l, h => by
    simp only [fsts, snds, List.cons.injEq] at h
    exact ⟨h.1, AllE_of h.2⟩

def runT (τ : TyTab) (P : Program) (N : Nat) (drw : Bool) (ops : List Oper) (an : List An) (fs bs rs ms aa : List Nat) (nv : NV) (s : S) : Option (List Prop × List (Bool × Bool) × S) :=
  match dstB N ops with
  | true => match runK τ P ops ops s an with
    | some (gs, es, s1, ks) => match (match drw with | true => indepB ops 0 ks && backB 0 ops | false => true) with
      | true => match trimS fs bs rs ms aa nv s1 with
        | some t => some (gs, es, t)
        | none => none
      | false => none
    | none => none
  | false => none
/-- what is said of a run, and its pairs' first and second parts -/
def outL : Option (List Prop × List (Bool × Bool) × S) → Option (List Prop × S × List Bool)
  | some (gs, es, t) => some (gs, t, fsts es)
  | none => none
def outR : Option (List Prop × List (Bool × Bool) × S) → List Bool
  | some (_, es, _) => snds es
  | none => []

theorem Wk_run (hτ : TyOk C.P τ) {id : Nat} {ops : List Oper} {an : List An} {fs bs rs ms aa : List Nat} {nv : NV} {gs : List Prop} (h : outL (runT τ C.P C.N false ops an fs bs rs ms aa nv s) = some (gs, t, outR (runT τ C.P C.N false ops an fs bs rs ms aa nv s))) (hg : AllP gs) (hk : Wk C k t) : Wk C (.code (.region id ops.toArray false) :: k) s := by
  cases hr : runT τ C.P C.N false ops an fs bs rs ms aa nv s with
  | none => rw [hr] at h; cases h
  | some p =>
    obtain ⟨gs', es, t'⟩ := p
    rw [hr] at h
    simp only [outL, outR, Option.some.injEq, Prod.mk.injEq] at h
    obtain ⟨rfl, rfl, he⟩ := h
    unfold runT at hr
    split at hr
    · rename_i hd
      split at hr
      · rename_i gs1 es1 s1 ks hrk
        split at hr
        · split at hr
          · rename_i t1 ht
            cases hr
            exact fun a w hx => wp_region_lit (runK_text hτ hd hrk hg (AllE_of he) (Wk_trim ht hk) a w hx)
          · cases hr
        · cases hr
      · cases hr
    · cases hr
theorem Wk_runD (hτ : TyOk C.P τ) (hm : C.P.follows .mixedOrders = true) {id : Nat} {ops : List Oper} {an : List An} {fs bs rs ms aa : List Nat} {nv : NV} {gs : List Prop} (h : outL (runT τ C.P C.N true ops an fs bs rs ms aa nv s) = some (gs, t, outR (runT τ C.P C.N true ops an fs bs rs ms aa nv s))) (hg : AllP gs) (hk : Wk C k t) : Wk C (.code (.region id ops.toArray true) :: k) s := by
  cases hr : runT τ C.P C.N true ops an fs bs rs ms aa nv s with
  | none => rw [hr] at h; cases h
  | some p =>
    obtain ⟨gs', es, t'⟩ := p
    rw [hr] at h
    simp only [outL, outR, Option.some.injEq, Prod.mk.injEq] at h
    obtain ⟨rfl, rfl, he⟩ := h
    unfold runT at hr
    split at hr
    · rename_i hd
      split at hr
      · rename_i gs1 es1 s1 ks hrk
        split at hr
        · rename_i hib
          split at hr
          · rename_i t1 ht
            cases hr
            simp only [Bool.and_eq_true] at hib
            obtain ⟨res, h1, h2, h3⟩ := runK_draw hτ (n := 0) rfl hd hrk hg (AllE_of he)
            exact draw_region hm h1 h2 (by rw [h3]; exact hib.1) hib.2 (Wk_trim ht hk)
          · cases hr
        · cases hr
      · cases hr
    · cases hr

end Go.Dm
