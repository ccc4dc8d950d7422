import Derived.Test.YtnhcmcfgemoehaaGreatASet
/- An arena, as plain data; how it lies in the memory. -/
set_option linter.unusedSimpArgs false
set_option linter.unusedVariables false
set_option linter.unusedSectionVars false
namespace Go.Proofs.YtnhcmcfgemoehaaGreat
open Go.V

/-- A value: its kind, its number. -/
abbrev Val := Int × Int
structure CeM where
  k : Int
  n : Int
  a : List Val
  s : List UInt8
structure ArM where
  room : Int
  cells : List CeM
  names : List (List UInt8)

abbrev strA (s : List UInt8) : AV := .sc (.string ⟨⟨s⟩⟩)
def valA (v : Val) : AV := .agg [int v.1, int v.2]
def vals (l : List Val) : List AV := l.map valA
def byts (s : List UInt8) : List AV := s.map fun b => .sc (.int .u8 b.toNat)
/-- A cell, its values a list that never changes. -/
def ceA (c : CeM) : AV := .agg [int c.k, int c.n, .lst (vals c.a), .lst (byts c.s)]
/-- A cell in an arena: its values are a slice. -/
def rowA (c : CeM) (x : AV) : AV := .agg [int c.k, int c.n, x, .lst (byts c.s)]

@[simp] theorem valA_cells (v : Val) : (valA v).cells = [int v.1, int v.2] := Eq.trans rfl rfl
@[simp] theorem valA_okc (v : Val) : (valA v).okc = true := Eq.trans rfl rfl
@[simp] theorem valA_bel (v : Val) (n : Nat) : (valA v).bel n = true := Eq.trans rfl rfl
@[simp] theorem valA_fzv (v : Val) (m : Mem) : fzv m (valA v) = (valA v, m) := by simp [valA, fzv, fzs, fz1]
theorem valA_agg (v : Val) : AV.agg [int v.1, int v.2] = valA v := Eq.trans rfl rfl
@[simp] theorem vals_length (l : List Val) : (vals l).length = l.length := by simp [vals]
theorem vals_get (l : List Val) (i : Nat) : (vals l)[i]? = (l[i]?).map valA := by simp [vals]
@[simp] theorem vals_nil : vals [] = [] := rfl
theorem vals_cons (v : Val) (l : List Val) : vals (v :: l) = valA v :: vals l := rfl
theorem vals_append (l r : List Val) : vals (l ++ r) = vals l ++ vals r := by simp [vals]
@[simp] theorem vals_fzvs (m : Mem) : ∀ l : List Val, fzvs m (vals l) = (vals l, m)
  | [] => rfl
  | v :: l => by simp [vals_cons, fzvs, vals_fzvs m l]
@[simp] theorem vals_bels (n : Nat) : ∀ l : List Val, AV.bels n (vals l) = true
  | [] => rfl
  | v :: l => by simp [vals_cons, AV.bels, vals_bels n l]
@[simp] theorem vals_ok : ∀ l : List Val, okAll 2 (vals l) = true
  | [] => rfl
  | v :: l => by rw [vals_cons, okAll_cons, vals_ok l]; simp
theorem vals_row (l : List Val) : ∀ y ∈ vals l, y.cells.length = 2 ∧ (if true then AV.agg y.cells = y else y.cells = [y]) := by
  intro y hy
  obtain ⟨p, _, rfl⟩ := List.mem_map.1 hy
  simp [valA]
@[simp] theorem byts_length (s : List UInt8) : (byts s).length = s.length := by simp [byts]
@[simp] theorem byts_nil : byts [] = [] := rfl
@[simp] theorem byts_fzvs (m : Mem) : ∀ l : List UInt8, fzvs m (byts l) = (byts l, m)
  | [] => rfl
  | v :: l => by
    have := byts_fzvs m l
    simp only [byts] at this
    simp [byts, fzvs, this]
@[simp] theorem byts_bels (n : Nat) : ∀ l : List UInt8, AV.bels n (byts l) = true
  | [] => rfl
  | v :: l => by
    have := byts_bels n l
    simp only [byts] at this
    simp [byts, AV.bels, AV.bel, this]
@[simp] theorem byts_ok : ∀ l : List UInt8, okAll 1 (byts l) = true
  | [] => rfl
  | v :: l => by
    have := byts_ok l
    simp only [byts] at this
    simp [byts, okAll_cons, this]
@[simp] theorem ceA_okc (c : CeM) : (ceA c).okc = true := Eq.trans rfl rfl
@[simp] theorem ceA_cells (c : CeM) : (ceA c).cells = [int c.k, int c.n, .lst (vals c.a), .lst (byts c.s)] := Eq.trans rfl rfl
@[simp] theorem ceA_bel (c : CeM) (n : Nat) : (ceA c).bel n = true := by simp [ceA, AV.bel, AV.bels]
@[simp] theorem ceA_fzv (c : CeM) (m : Mem) : fzv m (ceA c) = (ceA c, m) := by simp [ceA, fzv, fzs, fz1]
@[simp] theorem rowA_okc (c : CeM) (x : AV) : (rowA c x).okc = true := Eq.trans rfl rfl
@[simp] theorem rowA_cells (c : CeM) (x : AV) : (rowA c x).cells = [int c.k, int c.n, x, .lst (byts c.s)] := Eq.trans rfl rfl
theorem rowA_agg (c : CeM) (x : AV) : AV.agg (rowA c x).cells = rowA c x := Eq.trans rfl rfl

/-- A slice of a memory, its object marked by a number; e: what it is when it is empty. -/
def Has (t : Nat → Option Nat) (n k : Nat) (ag : Bool) (e : AV) (m : Mem) (x : AV) (ys : List AV) : Prop :=
  (ys = [] ∧ x = e) ∨ (ys ≠ [] ∧ ∃ id v, x = .sl id 0 ys.length k ag none ∧ id < m.next ∧ t id = some n ∧ m.get id = some (.cells (flat ys) false v))
theorem Has.mono {t t' : Nat → Option Nat} {n k : Nat} {ag : Bool} {e x : AV} {m m' : Mem} {ys : List AV} (h : Has t n k ag e m x ys) (hn : m.next ≤ m'.next) (hk : ∀ j, j < m.next → t j = some n → m'.get j = m.get j ∧ t' j = some n) : Has t' n k ag e m' x ys := by
  rcases h with h | ⟨h, id, v, rfl, h1, h2, h3⟩
  · exact .inl h
  · obtain ⟨a, b⟩ := hk id h1 h2
    exact .inr ⟨h, id, v, rfl, by omega, b, by rw [a]; exact h3⟩

/-- Where the symbols are. -/
def symE (i : Nat) : List (List UInt8) → List (Value × AV × Nat)
  | [] => []
  | s :: l => (.string ⟨⟨s⟩⟩, int i, i) :: symE (i + 1) l

structure ArT (t : Nat → Option Nat) (A M : Nat) (cs ns : AV) (xs : List AV) (a : ArM) (m : Mem) : Prop where
  lt : A < m.next
  ta : t A = some 0
  get : ∃ v, m.get A = some (.cells [int a.room, cs, ns, .mp M] false v)
  ml : M < m.next
  tm : t M = some 3
  map : ∃ v, m.map M = some ⟨symE 0 a.names, a.names.length, v⟩
  cells : Has t 1 4 true (.emp 0) m cs (List.zipWith rowA a.cells xs)
  names : Has t 2 1 false (.emp 0) m ns (a.names.map strA)
  len : xs.length = a.cells.length
  row : ∀ (i : Nat) c x, a.cells[i]? = some c → xs[i]? = some x → Has t (4 + i) 2 true (.emp 1) m x (vals c.a)
  sane : 1 ≤ a.room ∧ a.room ≤ 65536 ∧ (a.cells.length : Int) ≤ a.room ∧ a.names.length ≤ 65536

/-- An arena lies at A; its objects are among X. -/
def Ar (X : Nat → Prop) (A : Nat) (a : ArM) (m : Mem) : Prop := ∃ t M cs ns xs, ArT t A M cs ns xs a m ∧ ∀ j, t j ≠ none → X j ∧ j < m.next
/-- An arena has become another one; what is not of it is as it was. -/
def Up (X : Nat → Prop) (A : Nat) (a : ArM) (m m' : Mem) : Prop := ∃ X', Ar X' A a m' ∧ KpC X m m' ∧ ∀ j, X' j → X j ∨ m.next ≤ j

theorem ArT.kc {t : Nat → Option Nat} {A M : Nat} {cs ns : AV} {xs : List AV} {a : ArM} {m m' : Mem} {Y : Nat → Prop} (h : ArT t A M cs ns xs a m) (k : KpC Y m m') (hY : ∀ j n, j < m.next → t j = some n → ¬ Y j) : ArT t A M cs ns xs a m' := by
  obtain ⟨lt, ta, ⟨v, get⟩, ml, tm, ⟨v2, map⟩, cells, names, len, row, sane⟩ := h
  have keep : ∀ j n, j < m.next → t j = some n → m'.get j = m.get j ∧ t j = some n := fun j n hj ht => ⟨k.get j hj (hY j n hj ht), ht⟩
  exact ⟨Nat.lt_of_lt_of_le lt k.next, ta, ⟨v, by rw [(keep _ _ lt ta).1]; exact get⟩, Nat.lt_of_lt_of_le ml k.next, tm, ⟨v2, by rw [(k.x M ml (hY _ _ ml tm)).2]; exact map⟩, cells.mono k.next fun j => keep j _, names.mono k.next fun j => keep j _, len, fun i c x hc hx => (row i c x hc hx).mono k.next fun j => keep j _, sane⟩
section
variable {X Y : Nat → Prop} {A : Nat} {a b : ArM} {m m1 m' : Mem}
theorem Ar.kc (h : Ar X A a m) (k : KpC Y m m') (hY : ∀ j, X j → Y j → m.next ≤ j) : Ar X A a m' := by
  obtain ⟨t, M, cs, ns, xs, h, hx⟩ := h
  refine ⟨t, M, cs, ns, xs, h.kc k fun j n hj ht y => ?_, fun j hj => ⟨(hx j hj).1, Nat.lt_of_lt_of_le (hx j hj).2 k.next⟩⟩
  have := hY j (hx j (by rw [ht]; simp)).1 y
  omega
theorem Ar.kp (h : Ar X A a m) (k : Kp m m') : Ar X A a m' := h.kc (Y := fun _ => False) (.of (.of k)) fun _ _ h => h.elim
theorem Ar.mono (h : Ar X A a m) (k : ∀ j, j < m.next → X j → Y j) : Ar Y A a m := by
  obtain ⟨t, M, cs, ns, xs, h, hx⟩ := h
  exact ⟨t, M, cs, ns, xs, h, fun j hj => ⟨k j (hx j hj).2 (hx j hj).1, (hx j hj).2⟩⟩
theorem Ar.lt (h : Ar X A a m) : A < m.next := by
  obtain ⟨_, _, _, _, _, h, _⟩ := h
  exact h.lt
theorem Ar.own (h : Ar X A a m) : X A := by
  obtain ⟨_, _, _, _, _, h, hx⟩ := h
  exact (hx A (by rw [h.ta]; simp)).1
theorem Ar.sane (h : Ar X A a m) : 1 ≤ a.room ∧ a.room ≤ 65536 ∧ (a.cells.length : Int) ≤ a.room ∧ a.names.length ≤ 65536 := by
  obtain ⟨_, _, _, _, _, h, _⟩ := h
  exact h.sane
theorem Up.refl (h : Ar X A a m) : Up X A a m m := ⟨X, h, .refl _ _, fun _ h => .inl h⟩
theorem Up.kp (h : Ar X A a m) (k : Kp m m') : Up X A a m m' := ⟨X, h.kp k, .of (.of k), fun _ h => .inl h⟩
/-- One after the other. -/
theorem Up.after {X1 : Nat → Prop} (k : KpC X m m1) (hx : ∀ j, X1 j → X j ∨ m.next ≤ j) (h : Up X1 A a m1 m') : Up X A a m m' := by
  obtain ⟨X2, h1, h2, h3⟩ := h
  have hn := k.next
  refine ⟨X2, h1, (KpC.cut ((k.mono fun j h => .inl h).trans (h2.mono hx))), fun j hj => ?_⟩
  rcases h3 j hj with h | h
  · exact hx j h
  · exact .inr (by omega)
/-- The objects of one's own are not among those of an arena. -/
theorem not_later {X1 : Nat → Prop} {C : Nat} (hx : ∀ j, X1 j → X j ∨ m.next ≤ j) (hC : C < m.next) (h : ¬ X C) : ¬ X1 C := fun q => (hx C q).elim h fun h => by omega
end

theorem zip_get {c : CeM} {x : AV} : ∀ {l : List CeM} {xs : List AV} {i : Nat}, l[i]? = some c → xs[i]? = some x → (List.zipWith rowA l xs)[i]? = some (rowA c x)
  | [], _, i, h, _ => by simp at h
  | _ :: _, [], i, _, h => by simp at h
  | a :: l, b :: xs, 0, h, k => by simp at h k; subst h; subst k; rfl
  | a :: l, b :: xs, i + 1, h, k => by simpa using zip_get (l := l) (xs := xs) (i := i) (by simpa using h) (by simpa using k)
theorem zip_ok : ∀ (l : List CeM) (xs : List AV), okAll 4 (List.zipWith rowA l xs) = true
  | [], _ => rfl
  | _ :: _, [] => rfl
  | a :: l, b :: xs => by rw [List.zipWith_cons_cons, okAll_cons, zip_ok l xs]; simp
/-- A row's cells, within all of them. -/
theorem flat_row : ∀ (ys : List AV) (k i : Nat) (y : AV), okAll k ys = true → ys[i]? = some y → ((flat ys).drop (i * k)).take k = y.cells
  | [], k, i, y, _, h => by simp at h
  | a :: ys, k, 0, y, ho, h => by
    rw [okAll_cons] at ho
    simp at ho h
    subst h
    rw [flat_cons]
    simp [← ho.1.2]
  | a :: ys, k, i + 1, y, ho, h => by
    rw [okAll_cons] at ho
    simp at ho h
    have := flat_row ys k i y ho.2 h
    rw [flat_cons, show (i + 1) * k = a.cells.length + i * k by rw [ho.1.2, Nat.succ_mul]; omega, List.drop_append, List.drop_eq_nil_of_le (by omega), List.nil_append, show a.cells.length + i * k - a.cells.length = i * k by omega]
    exact this
/-- The cell at a place: where it is, what it is. -/
theorem ArT.at {t : Nat → Option Nat} {A M : Nat} {cs ns : AV} {xs : List AV} {a : ArM} {m : Mem} (h : ArT t A M cs ns xs a m) {i : Nat} {c : CeM} (hc : a.cells[i]? = some c) :
    ∃ C v x, cs = .sl C 0 a.cells.length 4 true none ∧ C < m.next ∧ t C = some 1 ∧ m.get C = some (.cells (flat (List.zipWith rowA a.cells xs)) false v) ∧ xs[i]? = some x ∧ (List.zipWith rowA a.cells xs)[i]? = some (rowA c x) ∧ Has t (4 + i) 2 true (.emp 1) m x (vals c.a) := by
  have hi := (List.getElem?_eq_some_iff.1 hc).1
  obtain ⟨x, hx⟩ : ∃ x, xs[i]? = some x := ⟨_, List.getElem?_eq_getElem (by rw [h.len]; exact hi)⟩
  have hz := zip_get hc hx
  rcases h.cells with ⟨e, _⟩ | ⟨_, C, v, h1, h2, h3, h4⟩
  · rw [e] at hz; simp at hz
  · exact ⟨C, v, x, by rw [h1]; simp [h.len], h2, h3, h4, hx, hz, h.row i c x hc hx⟩
end Go.Proofs.YtnhcmcfgemoehaaGreat
