/- The plain functions' words for rows. -/
import Derived.Test.YtipeimcdjijkgaaEm30
namespace Go.Dm
open Go Go.RowKit
set_option linter.unnecessarySimpa false
set_option linter.constructorNameAsVariable false
set_option linter.unusedSectionVars false
set_option linter.unusedSimpArgs false
set_option linter.unusedVariables false

section
variable {α : Type}
theorem app_ok (f : α → AV) (a b : List α) : (a ++ b).map f = a.map f ++ b.map f := List.map_append
theorem app0_ok (f : α → AV) (b : List α) : b.map f = [] ++ b.map f := rfl
theorem appl_ok {n : Nat} (f : α → AV) {l : List α} (h : (l.length : Int) * n ≤ 140737488351232) : (l.map f).length * n ≤ 140737488351232 := by
  rw [List.length_map]
  have : ((l.length * n : Nat) : Int) = (l.length : Int) * n := Int.natCast_mul _ _
  omega
theorem rep_ok (f : α → AV) (n : Int) (x : α) : (List.replicate n.toNat x).map f = List.replicate n.toNat (f x) := List.map_replicate
theorem ixr_ok (f : α → AV) {l : List α} {n : Int} (h : 0 ≤ n ∧ n < (l.length : Int)) : 0 ≤ n ∧ n.toNat < (l.map f).length := ⟨h.1, by rw [List.length_map]; omega⟩
theorem ldr_ok [Inhabited α] (f : α → AV) {l : List α} {n : Int} (h : 0 ≤ n ∧ n < (l.length : Int)) : (l.map f)[n.toNat]? = some (f (lget l n)) := (idx_ok f h).2
def lset (l : List α) (n : Int) (x : α) : List α := l.set n.toNat x
theorem set_ok (f : α → AV) (l : List α) (n : Int) (x : α) : (lset l n x).map f = (l.map f).set n.toNat (f x) := by simp [lset, List.map_set]
theorem mk_ok {b : Nat} {n c : Int} (h : 0 ≤ n ∧ n ≤ c ∧ c * b ≤ 140737488351232) : 0 ≤ n ∧ n ≤ c ∧ c.toNat * b ≤ 140737488351232 := by
  refine ⟨h.1, h.2.1, ?_⟩
  have hc : (c.toNat : Int) = c := Int.toNat_of_nonneg (by omega)
  have : ((c.toNat * b : Nat) : Int) ≤ 140737488351232 := by
    rw [Int.natCast_mul, hc]; exact h.2.2
  omega
theorem bof_ok {l : List UInt8} (h : (l.length : Int) ≤ 140737488351232) : l.length ≤ 140737488351232 := by omega
theorem vw00_ok (f : α → AV) (l : List α) : l.length = (l.map f).length := by rw [List.length_map]
theorem vw01_ok (f : α → AV) {l : List α} {b : Int} {cm : Nat} (h : 0 ≤ b ∧ b ≤ (l.length : Int)) : 0 ≤ b ∧ b.toNat = b.toNat ∧ (b.toNat ≤ (l.map f).length ∨ b.toNat ≤ cm) := ⟨h.1, rfl, .inl (by rw [List.length_map]; omega)⟩
theorem vw10_ok (f : α → AV) {l : List α} {a : Int} (h : 0 ≤ a ∧ a ≤ (l.length : Int)) : 0 ≤ a ∧ a.toNat + (l.length - a.toNat) = (l.map f).length := ⟨h.1, by rw [List.length_map]; omega⟩
theorem vw11_ok (f : α → AV) {l : List α} {a b : Int} {cm : Nat} (h : 0 ≤ a ∧ a ≤ b ∧ b ≤ (l.length : Int)) : 0 ≤ a ∧ 0 ≤ b ∧ a.toNat + (b.toNat - a.toNat) = b.toNat ∧ (b.toNat ≤ (l.map f).length ∨ b.toNat ≤ cm) :=
  ⟨h.1, by omega, by omega, .inl (by rw [List.length_map]; omega)⟩
theorem tap_ok (f : α → AV) (a : List α) (n : Nat) (b : List α) : (a.take n ++ b).map f = (a.map f).take n ++ b.map f := by rw [List.map_append, List.map_take]
theorem nil_ok (f : α → AV) (l : List α) : (decide (l.length = 0) = true ↔ l.map f = []) := by
  cases l <;> simp
end

theorem tk_ok {α : Type} (f : α → AV) {l : List α} {n : Nat} (h : n ≤ l.length) : n ≤ (l.map f).length ∧ 0 ≤ n := ⟨by rw [List.length_map]; exact h, Nat.zero_le _⟩
theorem s3_ok {α : Type} (f : α → AV) {l : List α} {a b m : Int} (h : 0 ≤ a ∧ a ≤ b ∧ b ≤ m ∧ m ≤ (l.length : Int)) : 0 ≤ a ∧ a ≤ b ∧ b ≤ m ∧ m.toNat ≤ (l.map f).length := ⟨h.1, h.2.1, h.2.2.1, by rw [List.length_map]; omega⟩
theorem tr_ok {α : Type} (f : α → AV) {l : List α} {b : Int} {k : Nat} (h : 0 ≤ b ∧ b.toNat ≤ l.length ∧ k ≤ b.toNat) : 0 ≤ b ∧ b.toNat ≤ (l.map f).length ∧ k ≤ b.toNat ∧ (l.take b.toNat).map f = (l.map f).take b.toNat := ⟨h.1, by rw [List.length_map]; exact h.2.1, h.2.2, List.map_take⟩
/-- a part of a list, zeroed -/
def lclear {α : Type} (l : List α) (off n : Nat) (z : α) : List α := l.take off ++ List.replicate (min n (l.length - off)) z ++ l.drop (off + n)
theorem clr_ok {α : Type} (f : α → AV) (l : List α) (off n : Nat) (z : α) : (lclear l off n z).map f = (l.map f).take off ++ List.replicate (min n ((l.map f).length - off)) (f z) ++ (l.map f).drop (off + n) := by
  simp [lclear, List.map_take, List.map_drop]
theorem vw01c_ok {α : Type} (f : α → AV) {l : List α} {b : Int} {cm : Nat} (h : 0 ≤ b ∧ (b.toNat ≤ l.length ∨ b.toNat ≤ cm)) : 0 ≤ b ∧ b.toNat = b.toNat ∧ (b.toNat ≤ (l.map f).length ∨ b.toNat ≤ cm) := ⟨h.1, rfl, by rw [List.length_map]; exact h.2⟩
theorem vw11c_ok {α : Type} (f : α → AV) {l : List α} {a b : Int} {cm : Nat} (h : 0 ≤ a ∧ a ≤ b ∧ (b.toNat ≤ l.length ∨ b.toNat ≤ cm)) : 0 ≤ a ∧ 0 ≤ b ∧ a.toNat + (b.toNat - a.toNat) = b.toNat ∧ (b.toNat ≤ (l.map f).length ∨ b.toNat ≤ cm) :=
  ⟨h.1, by omega, by omega, by rw [List.length_map]; exact h.2.2⟩
theorem srcv_ok {α : Type} (f : α → AV) {l : List α} {off n : Nat} (h : off + n ≤ l.length) : off + n ≤ (l.map f).length := by rw [List.length_map]; exact h
theorem tapv_ok {α : Type} (f : α → AV) (a : List α) (n : Nat) (b : List α) (o m : Nat) : (a.take n ++ (b.drop o).take m).map f = (a.map f).take n ++ ((b.map f).drop o).take m := by rw [List.map_append, List.map_take, List.map_take, List.map_drop]
theorem apv_ok {α : Type} (f : α → AV) (a b : List α) (o m : Nat) : (a ++ (b.drop o).take m).map f = a.map f ++ ((b.map f).drop o).take m := by rw [List.map_append, List.map_take, List.map_drop]

/- maps -/
def mget {κ ν : Type} [DecidableEq κ] (l : List (κ × ν)) (k : κ) : Option ν := match l with
  | [] => none
  | p :: l => if p.1 = k then some p.2 else mget l k
def mput {κ ν : Type} [DecidableEq κ] (l : List (κ × ν)) (k : κ) (v : ν) : List (κ × ν) := match l with
  | [] => [(k, v)]
  | p :: l => if p.1 = k then (k, v) :: l else p :: mput l k v
section
variable {κ ν : Type} [DecidableEq κ]
def KEnc (tk : TK) (e : κ → AV) : Prop := (∀ a, keyOk tk (e a) = true) ∧ ∀ a b, keyEq (e a) (e b) = decide (a = b)
theorem kenc_i64 : KEnc (.int .i64) (fun n : Int => AV.int .i64 n) := ⟨fun _ => rfl, fun _ _ => rfl⟩
theorem kenc_str : KEnc .str (fun l : List UInt8 => AV.str l) := ⟨fun _ => rfl, fun _ _ => rfl⟩
theorem mkeys_ok {tk : TK} {e : κ → AV} (h : KEnc tk e) (f : ν → AV) (l : List (κ × ν)) : keysOk tk (l.map fun p => (e p.1, f p.2)) = true := by
  induction l with
  | nil => rfl
  | cons p l ih => simp only [List.map_cons, keysOk, h.1, ih, Bool.and_self]
theorem mlook_eq {tk : TK} {e : κ → AV} (h : KEnc tk e) (f : ν → AV) (l : List (κ × ν)) (k : κ) : mlook (e k) (l.map fun p => (e p.1, f p.2)) = (mget l k).map f := by
  induction l with
  | nil => rfl
  | cons p l ih =>
    simp only [List.map_cons, mlook, h.2, mget]
    by_cases hk : p.1 = k
    · simp [hk]
    · simp [hk, ih]
theorem mlook_ok {tk : TK} {e : κ → AV} (h : KEnc tk e) (f : ν → AV) (l : List (κ × ν)) (k : κ) (z : ν) : orZ (mlook (e k) (l.map fun p => (e p.1, f p.2))) (f z) = f ((mget l k).getD z) := by
  rw [mlook_eq h]
  cases mget l k <;> rfl
theorem msome_ok {tk : TK} {e : κ → AV} (h : KEnc tk e) (f : ν → AV) (l : List (κ × ν)) (k : κ) : (mlook (e k) (l.map fun p => (e p.1, f p.2))).isSome = (mget l k).isSome := by
  rw [mlook_eq h]
  cases mget l k <;> rfl
theorem mput_ok {tk : TK} {e : κ → AV} (h : KEnc tk e) (f : ν → AV) (l : List (κ × ν)) (k : κ) (v : ν) : ((mput l k v).map fun p => (e p.1, f p.2)) = mputA (e k) (f v) (l.map fun p => (e p.1, f p.2)) := by
  induction l with
  | nil => rfl
  | cons p l ih =>
    simp only [List.map_cons, mputA, h.2, mput]
    by_cases hk : p.1 = k
    · simp [hk]
    · simp [hk, ih]
end

/-- a bool of which it is only said when it may be what -/
theorem Wk_ub {C : Cx} {k : List It} {s : S} (i : Nat) {p q : Bool} (hx : aget s.fr i = some (.ub p q)) (h : ∀ b : Bool, (b = true → p = true) → (b = false → q = true) → Wk C k { s with fr := (i, .bool b) :: s.fr }) : Wk C k s := by
  intro a w ⟨hd, M, E, hs, hp⟩
  obtain ⟨h1, h2⟩ := hs.fr i _ hx
  have : ∃ b, a.tmps.getD i undef = .bool b ∧ (b = true → p = true) ∧ (b = false → q = true) := by
    have h3 := h2.of_cell rfl
    generalize a.tmps.getD i undef = v at h3
    cases h3 with
    | pure h => cases h with | ub b _ _ h1 h2 => exact ⟨b, rfl, h1, h2⟩
  obtain ⟨b, e, hb1, hb2⟩ := this
  refine h b hb1 hb2 a w ⟨hd, M, E, { hs with fr := fun j z hj => ?_ }, hp⟩
  have hj : aget ((i, .bool b) :: s.fr) j = some z := hj
  rw [aget_cons] at hj
  split at hj
  · rename_i e'
    cases hj
    rw [e', e]
    exact ⟨h1, .cell (.pure (.bool b))⟩
  · exact hs.fr j z hj
noncomputable def ubO {β : Type} (p : Bool) (e1 e2 : Option β) : Option β := asrt (p = true → e1 = e2) (if p = true then e1 else e2)
theorem ubO_elim {β : Type} {p : Bool} {e1 e2 : Option β} {y : β} (h : ubO p e1 e2 = some y) : (p = true → e1 = some y) ∧ e2 = some y := by
  obtain ⟨h1, h2⟩ := asrt_elim h
  cases hp : p with
  | true => rw [hp] at h2; have h2 : e1 = some y := h2; exact ⟨fun _ => h2, by rw [← h1 hp]; exact h2⟩
  | false => rw [hp] at h2; exact ⟨fun h => (by cases h), h2⟩
theorem ubn_ok {α : Type} (f : α → AV) (l : List α) : l.map f = [] → decide (l.length = 0) = true := fun h => (nil_ok f l).2 h

theorem shr8_ok (x : UInt8) (m : Nat) : nrm .u8 ((x.toNat : Int).fdiv (2 ^ m)) = (x.toNat : Int).fdiv (2 ^ m) := by
  have h1 : (x.toNat : Int) < 256 := by have := x.toNat_lt; omega
  have hp : (1 : Int) ≤ 2 ^ m := by exact_mod_cast Nat.one_le_two_pow
  have e : (x.toNat : Int).fdiv (2 ^ m) = (x.toNat : Int) / (2 ^ m) := Int.fdiv_eq_ediv_of_nonneg _ (by omega)
  rw [e]
  have h2 : 0 ≤ (x.toNat : Int) / (2 ^ m) := Int.ediv_nonneg (by omega) (by omega)
  have h3 : (x.toNat : Int) / (2 ^ m) ≤ x.toNat := Int.ediv_le_self _ (by omega)
  generalize (x.toNat : Int) / (2 ^ m) = n at h2 h3
  simp only [nrm, toU8, UInt8.toNat_ofNat']
  omega

/-- a function that calls itself, so deep; and however deep -/
def fuelO {α β : Type} (S : (α → Option β) → α → Option β) : Nat → α → Option β
  | 0, _ => none
  | k + 1, x => S (fuelO S k) x
open Classical in
noncomputable def recO {α β : Type} (S : (α → Option β) → α → Option β) (x : α) : Option β := if h : ∃ k r, fuelO S k x = some r then some (Classical.choose (Classical.choose_spec h)) else none
theorem recO_elim {α β : Type} {S : (α → Option β) → α → Option β} {x : α} {r : β} (h : recO S x = some r) : ∃ k, fuelO S k x = some r := by
  unfold recO at h
  split at h
  · rename_i hh
    cases h
    exact ⟨_, Classical.choose_spec (Classical.choose_spec hh)⟩
  · cases h
theorem recO_intro {α β : Type} {S : (α → Option β) → α → Option β} {x : α} {k : Nat} {r : β} (h : fuelO S k x = some r) : ∃ r', recO S x = some r' := by
  unfold recO
  exact ⟨_, dif_pos ⟨k, r, h⟩⟩

/-- a box's rows are sealed -/
theorem Wk_sealB {C : Cx} {k : List It} {s : S} (i : Nat) {cs ds : List AV} {e : List (Nat × Rw)} (hx : aget s.bx i = some cs) (h : sealL s cs = some (ds, e)) (hk : Wk C k { s with bx := (i, ds) :: s.bx, rw := e ++ s.rw }) : Wk C k s := by
  intro a w ⟨hd, M, E, hs, hp⟩
  obtain ⟨b, h1, h2, t, vs, h3, h4, h5⟩ := hs.bx i cs hx
  obtain ⟨M', hM, hs', hr, _⟩ := sealL_ok (vs := vs.toList) (likeRows.refl hs) h hs ⟨by simpa using h4, fun j v c hv hc => h5 j v c (by simpa using hv) hc⟩
  refine hk a w ⟨hd, M', E, { hs' with bx := fun j z hj => ?_, bxn := fun j hj => ?_ }, hp⟩
  · have hj : aget ((i, ds) :: s.bx) j = some z := hj
    rw [aget_cons] at hj
    split at hj
    · rename_i e
      cases hj
      subst e
      exact ⟨b, h1, h2, t, vs, h3, by simpa using hr.1, fun m v c hv hc => hr.2 m v c (by simpa using hv) hc⟩
    · exact hs'.bx j z hj
  · have hj : aget ((i, ds) :: s.bx) j = none := hj
    rw [aget_cons] at hj
    split at hj
    · cases hj
    · exact hs'.bxn j hj

/-- a slot's rows are sealed, but for some -/
theorem Wk_sealX {C : Cx} {k : List It} {s : S} (R : List Nat) (i : Nat) {x y : AV} {e : List (Nat × Rw)} (hx : aget s.fr i = some x) (h : sealAx R s x = some (y, e)) (hk : Wk C k { s with fr := (i, y) :: s.fr, rw := e ++ s.rw }) : Wk C k s := by
  intro a w ⟨hd, M, E, hs, hp⟩
  obtain ⟨M', hM, hs', hr, _⟩ := sealAx_ok (likeRows.refl hs) h hs (hs.fr i x hx).2
  refine hk a w ⟨hd, M', E, { hs' with fr := fun j z hj => ?_ }, hp⟩
  have hj : aget ((i, y) :: s.fr) j = some z := hj
  rw [aget_cons] at hj
  split at hj
  · rename_i e
    cases hj
    rw [e]
    exact ⟨(hs.fr i x hx).1, hr⟩
  · exact hs'.fr j z hj
/-- a box's rows are sealed, but for some -/
theorem Wk_sealBX {C : Cx} {k : List It} {s : S} (R : List Nat) (i : Nat) {cs ds : List AV} {e : List (Nat × Rw)} (hx : aget s.bx i = some cs) (h : sealLx R s cs = some (ds, e)) (hk : Wk C k { s with bx := (i, ds) :: s.bx, rw := e ++ s.rw }) : Wk C k s := by
  intro a w ⟨hd, M, E, hs, hp⟩
  obtain ⟨b, h1, h2, t, vs, h3, h4, h5⟩ := hs.bx i cs hx
  obtain ⟨M', hM, hs', hr, _⟩ := sealLx_ok (vs := vs.toList) (likeRows.refl hs) h hs ⟨by simpa using h4, fun j v c hv hc => h5 j v c (by simpa using hv) hc⟩
  refine hk a w ⟨hd, M', E, { hs' with bx := fun j z hj => ?_, bxn := fun j hj => ?_ }, hp⟩
  · have hj : aget ((i, ds) :: s.bx) j = some z := hj
    rw [aget_cons] at hj
    split at hj
    · rename_i e
      cases hj
      subst e
      exact ⟨b, h1, h2, t, vs, h3, by simpa using hr.1, fun m v c hv hc => hr.2 m v c (by simpa using hv) hc⟩
    · exact hs'.bx j z hj
  · have hj : aget ((i, ds) :: s.bx) j = none := hj
    rw [aget_cons] at hj
    split at hj
    · cases hj
    · exact hs'.bxn j hj

/-- a part of a row that begins where the row does, as the row -/
theorem Wk_trunc {C : Cx} {k : List It} {s : S} (i j v n : Nat) {r : Rw} (hx : aget s.fr i = some (.rowv j v 0 n)) (hr : aget s.rw j = some r) (hv : v = r.ver) (hp : r.pu = 0) (hn : n ≤ r.xs.length) (hk0 : r.k ≤ n)
    (hk : Wk C k { s with fr := (i, .row j (r.ver + 1)) :: s.fr, rw := (j, { r with ver := r.ver + 1, cm := r.xs.length, nl := false, xs := r.xs.take n }) :: s.rw }) : Wk C k s := by
  intro a w ⟨hd, M, E, hs, hp0⟩
  obtain ⟨h1, h2⟩ := hs.fr i _ hx
  obtain ⟨q, hq, hok⟩ := hs.rw j r hr
  have hqn := hok.n
  have hnc := hok.nc
  have hval : a.tmps.getD i undef = .slice q.a n q.c := by
    have h3 := h2.of_cell rfl
    generalize a.tmps.getD i undef = v' at h3
    cases h3 with
    | pure h => cases h
    | rowv _ _ _ _ n' c a' q' hq' hver hh =>
      rw [hq] at hq'; cases hq'
      obtain ⟨e1, e2, _, e4, _⟩ := hh (by rw [hv]; exact hok.ver.symm)
      have e5 : c = q.c := by omega
      rw [e1, e2 rfl, e5]
  have hlt : (r.xs.take n).length = n := by rw [List.length_take, Nat.min_eq_left hn]
  obtain ⟨E', hup, hE', hst⟩ := hs.rowPut (w' := w) hr hq (r' := { r with ver := r.ver + 1, cm := r.xs.length, nl := false, xs := r.xs.take n }) (n' := n) (.inr (Nat.lt_succ_self _)) (Grow.refl w _) rfl hlt.symm (by omega)
    (fun y hy => hok.es y (List.mem_of_mem_take hy)) (by show r.k ≤ (r.xs.take n).length; rw [hlt]; exact hk0) (by show r.xs.length ≤ q.c; omega) (fun h => by cases h) (Nat.le_refl _)
    (fun p => by
      have e : sealN s (5, j, p) = ownK (flat r.xs)[p]? := by simp [sealN, hr]
      rw [e, hok.own0 hp]; exact Nat.zero_le _) (fun b j v _ hv => (hs.mem b j v hv).1) (fun blk vs g1 g2 g3 g4 g5 => ⟨vs, g3, rfl, fun m u hu => by
      have hu : (flat (r.xs.take n))[m]? = some u := hu
      rw [flat_take n hok.es, List.getElem?_take] at hu
      split at hu
      · exact g5 m u hu
      · cases hu⟩)
  refine hk a w ⟨hd, M, E', { hst with fr := fun m z hm => ?_ }, hup.p _ hp0⟩
  have hm : aget ((i, .row j (r.ver + 1)) :: s.fr) m = some z := hm
  rw [aget_cons] at hm
  split at hm
  · rename_i e
    cases hm
    rw [e, hval]
    exact ⟨h1, .cell (.row j _ n q.c q.a _ hE' (Nat.le_refl _) fun _ => ⟨rfl, rfl, rfl⟩)⟩
  · exact hst.fr m z hm

/-- in a slot's struct: a slice that is nil is a row without elements -/
theorem Wk_nilrowA {C : Cx} {k : List It} {s : S} (i o j : Nat) (e : TypeId) (sz : Nat) {cs ds : List AV} (hx : aget s.fr i = some (.agg cs)) (ho : cs[o]? = some .nils) (hds : ds = cs.set o (.row j 0)) (hj : aget s.rw j = none) (hB : Nat.blt j nB = true) (hk : Wk C k { s with fr := (i, .agg ds) :: s.fr, rw := (j, ⟨e, sz, 0, 0, 0, true, 0, [], []⟩) :: s.rw }) : Wk C k s := by
  intro a w ⟨hd, M, E, hs, hp⟩
  subst hds
  obtain ⟨E', hup, hq, hs'⟩ := hs.row0 hj (Nat.le_of_ble_eq_true hB) none e sz true 0 [] (fun _ => rfl)
  refine hk a w ⟨hd, M, E', { hs' with fr := fun m z hm => ?_ }, hup.p _ hp⟩
  have hm : aget ((i, .agg (cs.set o (.row j 0))) :: s.fr) m = some z := hm
  rw [aget_cons] at hm
  split at hm
  · rename_i e
    cases hm
    obtain ⟨h1, h2⟩ := hs'.fr i _ hx
    rw [e]
    obtain ⟨vs, hvs, hl, hr⟩ := h2.agg_inv
    rw [hvs]
    refine ⟨h1, .agg vs _ (by simpa using hl) fun n v c hv hc => ?_⟩
    rw [List.getElem?_set] at hc
    split at hc
    · rename_i e
      subst e
      split at hc
      · cases hc
        have := hr o v _ hv ho
        cases this with
        | pure h =>
          cases h
          exact .row j 0 0 0 none _ hq (Nat.le_refl _) fun _ => ⟨rfl, rfl, rfl⟩
      · cases hc
    · exact hr n v c hv hc
  · exact hs'.fr m z hm

/-- other names, untold -/
theorem Wk_ren' {C : Cx} {k : List It} {s : S} (σ : Ren) (h : σ.low = true) (hk : Wk C k (s.ren σ)) : Wk C k s := Wk_ren σ _ h rfl hk

theorem mlen_ok {α : Type} (e : α → AV × AV) (l : List α) : ((l.length : Int)) = ((l.map e).length : Int) := by rw [List.length_map]

end Go.Dm
