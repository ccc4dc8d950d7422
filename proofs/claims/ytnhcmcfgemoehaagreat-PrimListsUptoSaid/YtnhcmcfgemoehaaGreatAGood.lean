import Derived.Test.YtnhcmcfgemoehaaGreatAModel
/- An arena is looked at: what may be there, what a cell is. -/
set_option linter.unusedSimpArgs false
set_option linter.unusedVariables false
set_option linter.unusedSectionVars false
namespace Go.Proofs.YtnhcmcfgemoehaaGreat
open Go.V
attribute [local simp] Nat.add_assoc

def isIn (n : Int) : Bool := decide (-1152921504606846976 ≤ n) && decide (n ≤ 1152921504606846975)
theorem q74 (n : Int) : Gives Tryz.prog ca 74 [int n] (.sc (.bool (isIn n))) := by
  refine gives_run Tryz.func74 rfl rfl rfl rfl (by simp) (by simp [Tryz.f74]) (by simp [Tryz.f74]) fun m => ?_
  simp [Tryz.f74, show ca.keepRes 74 = false from rfl]
  by_cases h : -1152921504606846976 ≤ n
  · simp [h, isIn]
  · simp [h, isIn]
def below (n k : Int) : Bool := decide (0 ≤ n) && decide (n < k)
theorem q75 (n k : Int) : Gives Tryz.prog ca 75 [int n, int k] (.sc (.bool (below n k))) := by
  refine gives_run Tryz.func75 rfl rfl rfl rfl (by simp) (by simp [Tryz.f75]) (by simp [Tryz.f75]) fun m => ?_
  simp [Tryz.f75, show ca.keepRes 75 = false from rfl]
  by_cases h : 0 ≤ n
  · simp [h, below]
  · simp [h, below]
theorem arena_nil {x y : Operand} {i j : Nat} : abin Tryz.prog .eql 46 x y (.ptr i j) (.sc (.pointer none)) = some (.sc (.bool false)) := by
  have : nilTest Tryz.prog 46 (.ptr i j) (.sc (.pointer none)) = some false := by
    unfold nilTest
    rw [Tryz.underlying46]
  simp [abin, plain, this]
section
variable {X : Nat → Prop} {A : Nat} {a : ArM} {m : Mem}
theorem q34 (h : Ar X A a m) : EH Tryz.prog ca (.func 34) [.ptr A 0] m (.sc (.bool false)) m := by
  obtain ⟨t, M, cs, ns, xs, h, hx⟩ := h
  obtain ⟨v, hv⟩ := h.get
  have hs := h.sane.1
  have hr : ¬ a.room = 0 := by omega
  refine eh_run Tryz.func34 rfl rfl rfl rfl (args1 := [.ptr A 0]) (m1 := m) (by simp) (by simp) (by simp [Tryz.f34]) (by simp [Tryz.f34]) ?_
  simp [Tryz.f34, show ca.keepRes 34 = false from rfl, arena_nil, hv, hr]
/-- May a value be there? -/
def goodM (a : ArM) (v : Val) : Bool :=
  if v.1 = 1 then isIn v.2 else if v.1 = 2 then below v.2 2 else if v.1 = 3 then below v.2 128 else if v.1 = 4 then decide (v.2 = 0) else
  if v.1 = 5 then below v.2 a.names.length else if v.1 = 6 then below v.2 65536 else if v.1 = 7 then below v.2 a.cells.length else false
/-- How long a slice is. -/
theorem len_has {t : Nat → Option Nat} {n k T e : Nat} {ag : Bool} {m m' : Mem} {x : AV} {ys : List AV} {R : TypeId} (h : Has t n k ag (.emp 0) m x ys) (hT : Tryz.prog.underlying T = some (.slice e)) : abuiltin Tryz.prog .len #[T] R [x] m' = some (int ys.length, m') := by
  rcases h with ⟨rfl, rfl⟩ | ⟨_, id, v, rfl, _⟩
  · exact alen_emp hT
  · rw [alen_sl hT]
set_option maxRecDepth 20000 in
set_option maxHeartbeats 4000000 in
theorem q41 (h : Ar X A a m) (v : Val) : EH Tryz.prog ca (.func 41) [.ptr A 0, valA v] m (.sc (.bool (goodM a v))) m := by
  obtain ⟨t, M, cs, ns, xs, h, hx⟩ := h
  obtain ⟨w, hv⟩ := h.get
  have hA := h.lt
  have n0 : A ≠ m.next := by omega
  have lc := fun m' R => len_has (T := 74) (R := R) (m' := m') h.cells Tryz.underlying74
  have ln := fun m' R => len_has (T := 85) (R := R) (m' := m') h.names Tryz.underlying85
  simp only [List.length_zipWith, h.len, Nat.min_self, List.length_map] at lc ln
  obtain ⟨k, n⟩ := v
  refine eh_run Tryz.func41 rfl rfl rfl rfl (args1 := [.ptr A 0, valA (k, n)]) (m1 := m) (by simp) (by simp) (by simp [Tryz.f41]) (by simp [Tryz.f41]) ?_
  simp only [Tryz.f41, show ca.keepRes 41 = false from rfl]
  unfold goodM
  by_cases k1 : k = 1
  · simp [k1, (q74 n).go]
  · by_cases k2 : k = 2
    · simp [k2, (q75 n _).go]
    · by_cases k3 : k = 3
      · simp [k3, (q75 n _).go]
      · by_cases k4 : k = 4
        · simp [k4]
        · by_cases k5 : k = 5
          · simp [k5]
            refine go_draw0 (by kernel_rfl) (by kernel_rfl) ?_
            simp [hv, n0, ln, (q75 n _).go]
          · by_cases k6 : k = 6
            · simp [k6, (q75 n _).go]
            · by_cases k7 : k = 7
              · simp [k7]
                refine go_draw0 (by kernel_rfl) (by kernel_rfl) ?_
                simp [hv, n0, lc, (q75 n _).go]
              · simp [k1, k2, k3, k4, k5, k6, k7]
end
end Go.Proofs.YtnhcmcfgemoehaaGreat

/- A cell in memory of its own; what a value refers to. -/
namespace Go.Proofs.YtnhcmcfgemoehaaGreat
set_option maxRecDepth 4000
open Go.V
attribute [local simp] Nat.add_assoc

/-- A slice that was made between two memories. -/
def Fresh (m m' : Mem) (x : AV) (l : List Val) : Prop := (l = [] ∧ x = .emp 1) ∨ (l ≠ [] ∧ ∃ id v, x = .sl id 0 l.length 2 true none ∧ m.next ≤ id ∧ id < m'.next ∧ m'.get id = some (.cells (flat (vals l)) false v))
theorem Fresh.okc {m m' : Mem} {x : AV} {l : List Val} (h : Fresh m m' x l) : x.okc = true ∧ x.cells = [x] := by
  rcases h with ⟨_, rfl⟩ | ⟨_, id, v, rfl, _⟩ <;> exact ⟨rfl, rfl⟩
theorem Fresh.keep {m m0 m' m2 : Mem} {x : AV} {l : List Val} (h : Fresh m m' x l) (h0 : m0.next ≤ m.next) (h1 : m'.next ≤ m2.next) (k : ∀ j, m.next ≤ j → j < m'.next → m2.get j = m'.get j) : Fresh m0 m2 x l := by
  rcases h with h | ⟨h, id, v, rfl, h2, h3, h4⟩
  · exact .inl h
  · exact .inr ⟨h, id, v, rfl, by omega, by omega, by rw [k id h2 h3]; exact h4⟩
/-- The elements of a slice are these values. -/
def El (m : Mem) (x : AV) (l : List Val) : Prop := x = .lst (vals l) ∨ (l = [] ∧ x = .emp 1) ∨ (l ≠ [] ∧ ∃ id v f, x = .sl id 0 l.length 2 true none ∧ id < m.next ∧ m.get id = some (.cells (flat (vals l)) f v))
theorem El.elems {m : Mem} {x : AV} {l : List Val} (h : El m x l) : elemsOf m x = some (vals l) := by
  rcases h with rfl | ⟨rfl, rfl⟩ | ⟨h, id, v, f, rfl, h1, h2⟩
  · rfl
  · rfl
  · simp only [elemsOf, h2]
    have := chunk_flat (k := 2) (ag := true) rfl (vals l) (vals_row l)
    rw [vals_length] at this
    rw [if_pos ⟨by rw [flat_length (vals_ok l)]; simp, rfl⟩, List.drop_zero, this]
theorem El.kp {m m' : Mem} {x : AV} {l : List Val} (h : El m x l) (k : Kp m m') : El m' x l := by
  rcases h with rfl | ⟨rfl, rfl⟩ | ⟨h, id, v, f, rfl, h1, h2⟩
  · exact .inl rfl
  · exact .inr (.inl ⟨rfl, rfl⟩)
  · exact .inr (.inr ⟨h, id, v, f, rfl, Nat.lt_of_lt_of_le h1 k.next, by rw [k.get id h1]; exact h2⟩)
theorem El.of {t : Nat → Option Nat} {n : Nat} {m : Mem} {x : AV} {l : List Val} (h : Has t n 2 true (.emp 1) m x (vals l)) : El m x l := by
  rcases h with ⟨h, rfl⟩ | ⟨h, id, v, rfl, h1, _, h2⟩
  · exact .inr (.inl ⟨(by cases l with | nil => rfl | cons a l => cases h), rfl⟩)
  · exact .inr (.inr ⟨fun e => h (by rw [e]; rfl), id, v, false, by rw [vals_length], h1, h2⟩)
theorem El.not_nil {m : Mem} {x : AV} {v : Val} {l : List Val} (h : El m x (v :: l)) {xo yo : Operand} : abin Tryz.prog .eql 66 xo yo x (.emp 0) = some (.sc (.bool false)) := by
  have : nilTest Tryz.prog 66 x (.emp 0) = some false ∧ plain x = none := by
    rcases h with rfl | ⟨h, _⟩ | ⟨h, id, w, f, rfl, _⟩
    · exact ⟨by simp [nilTest, Tryz.underlying66, vals_cons], rfl⟩
    · cases h
    · exact ⟨by simp [nilTest, Tryz.underlying66], rfl⟩
  simp [abin, this.1, this.2]
theorem run110 {m : Mem} {x : AV} {v : Val} {l : List Val} (h : El m x (v :: l)) (hb : l.length < 4096) : EH Tryz.prog cf0 (.func 110) [x] m (.sl (m.next + 1) 0 (l.length + 1) 2 true none) ((m.new [] false).new (flat (vals (v :: l))) false) := by
  refine eh_of ?_
  refine wph_go Tryz.func110 rfl rfl (by simp [Tryz.f110]) (by simp [Tryz.f110]) fun Q hQ => ?_
  simp only [Tryz.f110, show cf0.keepRes 110 = true from rfl, show cf0.keepArgs 110 = true from rfl] at hQ ⊢
  have k1 : Kp m (m.new [] false) := .new _ _ _
  have hs : srcOf (m.new [] false) x = some (vals (v :: l)) := by
    have e := (h.kp k1).elems
    rw [← e]
    rcases h with rfl | ⟨h, _⟩ | ⟨_, id, w, f, rfl, _⟩
    · rfl
    · cases h
    · rfl
  have q := aapp_full (P := Tryz.prog) (T := 66) (k := 2) (ag := true) (ag' := true) (id := m.next) (ys := vals (v :: l)) (ys' := vals (v :: l)) (m := m.new [] false) (m' := m.new [] false) (v := m.clock + 1) el66 (by simp [vals_cons]) (vals_ok _) (by simp) (by simp) (by simp; omega)
  simp [h.not_nil, abuildSlice, fillAt, zeros, hs, q]
  refine hQ _ _ _ ⟨.inr rfl, _, rfl, ?_⟩
  simp [oneOf]
theorem kp_skip {m m1 : Mem} (h : Kp m m1) : Kp m m1.skip := by
  unfold Mem.skip
  exact (h.newr _ _).kill h.next
theorem q110 {m : Mem} {x : AV} {l : List Val} (h : El m x l) (hb : l.length ≤ 4096) : wph Tryz.prog ca (.func 110) [x] m fun v m' => Kp m m' ∧ Fresh m m' v l := by
  have he := h.elems
  cases l with
  | nil =>
    have e : cloneL Tryz.prog 110 [x] m = some (.emp 1, m.skip) := by
      simp only [cloneL, he, vals_nil]
    exact ⟨_, _, eh_hook rfl e, kp_skip (.refl m), .inl ⟨rfl, rfl⟩⟩
  | cons v l =>
    have e : cloneL Tryz.prog 110 [x] m = some (.sl (m.next + 1) 0 (l.length + 1) 2 true none, (m.new [] false).new (flat (vals (v :: l))) false) := by
      simp only [cloneL, he, vals_cons]
      exact lim_eq (run110 h (by simp at hb; omega))
    exact ⟨_, _, eh_hook rfl e, by simp, .inr ⟨by simp, _, _, rfl, by omega, by simp, by simp; rfl⟩⟩
theorem byts_row (s : List UInt8) : ∀ y ∈ byts s, y.cells.length = 1 ∧ (if false then AV.agg y.cells = y else y.cells = [y]) := by
  intro y hy
  obtain ⟨x, _, rfl⟩ := List.mem_map.1 hy
  simp
theorem q111 {m : Mem} (s : List UInt8) (hb : s.length < 2 ^ 21) : EH Tryz.prog ca (.func 111) [.lst (byts s)] m (.lst (byts s)) m := by
  refine clone_lst rfl (by simp) ?_
  intro x0 l0 e0
  cases s with
  | nil => cases e0
  | cons x s =>
  refine ⟨(m.new [] false).new (flat (byts (x :: s))) false, .inr ⟨1, false, m.next + 1, m.clock + 2, eh_of ?_, by simp, by omega, by simp, rfl, byts_row _, byts_ok _⟩⟩
  refine wph_go Tryz.func111 rfl rfl (by simp [Tryz.f111]) (by simp [Tryz.f111]) fun Q hQ => ?_
  simp only [Tryz.f111, show cf0.keepRes 111 = true from rfl, show cf0.keepArgs 111 = true from rfl] at hQ ⊢
  have e1 : nilTest Tryz.prog 76 (.lst (byts (x :: s))) (.emp 0) = some false := nilTest_cons (T := 76) Tryz.underlying76
  have e2 := aapp_full (m := m.new [] false) (m' := m.new [] false) (ys := byts (x :: s)) (ys' := byts (x :: s)) (id := m.next) (v := m.clock + 1) (ag' := false) el76 (by simp [byts]) (byts_ok _) (by simp [fzx]) (by simp) (by simp at hb ⊢; omega)
  simp [abin, plain, e1, abuildSlice, zeros, fillAt, abuiltin, srcOf, elemsOf, e2]
  refine hQ _ _ _ ⟨.inr rfl, _, rfl, ?_⟩
  simp [oneOf]
theorem q64 {m : Mem} {c : CeM} {x0 : AV} (h : El m x0 c.a) (hb : c.a.length ≤ 4096) (hs : c.s.length ≤ 4096) : wph Tryz.prog ca (.func 64) [rowA c x0] m fun v m' => Kp m m' ∧ ∃ x, v = rowA c x ∧ Fresh m m' x c.a := by
  refine wph_go Tryz.func64 rfl rfl (by simp [Tryz.f64]) (by simp [Tryz.f64]) fun Q hQ => ?_
  simp only [Tryz.f64, show ca.keepRes 64 = true from rfl, show ca.keepArgs 64 = true from rfl] at hQ ⊢
  simp
  refine go_drawD (by kernel_rfl) ?_
  simp [rowA]
  refine goH_of (q110 (h.kp (by simp)) hb) ?_
  rintro v m2 ⟨k2, hf⟩
  have hn := k2.next
  simp at hn
  have g1 : m2.get m.next = some (.cells [int c.k, int c.n, x0, .lst (byts c.s)] false (m.clock + 1)) := by
    rw [k2.get m.next (by simp)]; simp
  have g2 : m2.get (m.next + 1) = some (.cells [int 0, int 0, .emp 0, .emp 0] false (m.clock + 2)) := by
    rw [k2.get (m.next + 1) (by simp)]; simp
  have ok := hf.okc
  simp [g1, (q111 c.s (by omega)).go, g2, ok]
  refine goM_of (l := [(2, 4)]) (by kernel_rfl) (?_ : List.all _ _ = true) ?_
  · simp [metAtD, metOkD, rank, verKeptD, Region.wanted, Mem.ver, g1]
  simp [g1, g2, ok]
  refine hQ _ _ _ ?_
  rw [leave_ret]
  simp [aresult, oneOf, ok]
  have kk : Kp m m2 := (by simp : Kp m ((m.new [int c.k, int c.n, x0, AV.lst (byts c.s)] false).new [AV.sc (Value.int IntKind.i64 0), AV.sc (Value.int IntKind.i64 0), AV.emp 0, AV.emp 0] false)).trans k2
  refine ⟨kk, v, rfl, hf.keep (by simp) (by simp) fun j hj _ => ?_⟩
  simp at hj
  have a1 : j ≠ m.next := by omega
  have a2 : j ≠ m.next + 1 := by omega
  simp [a1, a2]
end Go.Proofs.YtnhcmcfgemoehaaGreat

/- Whether a cell may be there. -/
namespace Go.Proofs.YtnhcmcfgemoehaaGreat
set_option maxRecDepth 4000
open Go.V
attribute [local simp] Nat.add_assoc

/-- Where the first one is that is so; -1: none. -/
def fi {α : Type} (p : α → Bool) (l : List α) : Int := match l.findIdx? p with | some i => (i : Int) | none => -1
theorem fi_some {α : Type} {p : α → Bool} {l : List α} {i : Nat} {x : α} (hx : l[i]? = some x) (h : p x = true) (hn : ∀ j y, j < i → l[j]? = some y → p y = false) : fi p l = (i : Int) := by
  obtain ⟨hi, e⟩ := List.getElem?_eq_some_iff.1 hx
  have : l.findIdx? p = some i := by
    rw [List.findIdx?_eq_some_iff_getElem]
    refine ⟨hi, by rw [e]; exact h, fun j hj => ?_⟩
    rw [hn j _ hj (List.getElem?_eq_getElem (by omega))]
    simp
  rw [fi, this]
theorem fi_none {α : Type} {p : α → Bool} {l : List α} (hn : ∀ j y, j < l.length → l[j]? = some y → p y = false) : fi p l = -1 := by
  have : l.findIdx? p = none := by
    rw [List.findIdx?_eq_none_iff]
    intro y hy
    obtain ⟨j, hj, e⟩ := List.mem_iff_getElem.1 hy
    rw [hn j y hj (by rw [List.getElem?_eq_getElem hj, e])]
  rw [fi, this]
theorem fi_any {α : Type} (p : α → Bool) (l : List α) : decide (0 ≤ fi p l) = l.any p := by
  unfold fi
  cases h : l.findIdx? p with
  | none =>
    rw [List.findIdx?_eq_none_iff] at h
    have : l.any p = false := List.any_eq_false.2 fun x hx => by simp [h x hx]
    simp [this]
  | some i =>
    rw [List.findIdx?_eq_some_iff_getElem] at h
    obtain ⟨hi, h1, _⟩ := h
    have : l.any p = true := List.any_eq_true.2 ⟨_, List.getElem_mem hi, h1⟩
    simp [this]
section
variable {X : Nat → Prop} {A B : Nat} {a : ArM} {m : Mem}
theorem q161 (h : Ar X A a m) (hB : has m B [.ptr A 0]) (v : Val) : EH Tryz.prog ca (.func 161) [valA v, .ptr B 0] m (.sc (.bool (!goodM a v))) m := by
  obtain ⟨bl, bv, be⟩ := hB
  have bn : B ≠ m.next := by omega
  have q := q41 (h.kp (m' := m.new [int v.1, int v.2] false) (by simp)) v
  refine eh_run Tryz.func161 rfl rfl rfl rfl (args1 := [valA v, .ptr B 0]) (m1 := m) (by simp [fzvs]) (by simp) (by simp [Tryz.f161]) (by simp [Tryz.f161]) ?_
  simp [Tryz.f161, show ca.keepRes 161 = false from rfl, be, bn, q.go, valA_agg]
theorem vals_at {l : List Val} {i : Nat} {v : Val} (h : l[i]? = some v) : aindexAddr Tryz.prog 66 (.lst (vals l)) (int i) = some ((valA v).cptr 0) := aindexAddr_lst Tryz.underlying66 tsize51 (by rw [vals_get, h]; rfl) (by simp)
theorem q179 (h : Ar X A a m) (hB : has m B [.ptr A 0]) (l : List Val) (hl : l.length < 2 ^ 21) : EH Tryz.prog ca (.func 179) [.lst (vals l), .fn (.func 161) [] [.ptr B 0]] m (int (fi (fun v => !goodM a v) l)) m := by
  refine eh_run Tryz.func179 rfl rfl rfl rfl (args1 := [.lst (vals l), .fn (.func 161) [] [.ptr B 0]]) (m1 := m) (by simp [fzvs]) (by simp) (by simp [Tryz.f179]) (by simp [Tryz.f179]) ?_
  simp [Tryz.f179, show ca.keepRes 179 = false from rfl]
  refine go_count 8 l.length (fun i s m' => m' = m ∧ ∀ j v, j < i → l[j]? = some v → (!goodM a v) = false) (by simp) (by omega) ⟨rfl, fun _ _ h => by omega⟩ ?_
  rintro i s m' hi e8 ⟨rfl, hno⟩ hs hw Q' hn he
  have e0 : s.at 0 = .lst (vals l) := (hs 0 (by kernel_rfl)).trans (by simp)
  have e1 : s.at 1 = .fn (.func 161) [] [.ptr B 0] := (hs 1 (by kernel_rfl)).trans (by simp)
  have e7 : s.at 7 = int l.length := (hs 7 (by kernel_rfl)).trans (by simp)
  clear hs
  simp [e8, e7]
  refine goB_split (fun h => ?_) fun h => ?_
  · have hlt : i < l.length := by simpa using h
    obtain ⟨v, hv⟩ : ∃ v, l[i]? = some v := ⟨_, List.getElem?_eq_getElem hlt⟩
    simp [e8, e0, e1, vals_at hv, (q161 ‹Ar X A a m'› hB v).go, valA_agg]
    cases hc : goodM a v with
    | false =>
      simp
      refine he _ _ _ (by simp) ?_
      simp
      exact (fi_some hv (by simp [hc]) hno).symm
    | true =>
      simp [e8, hw]
      refine hn _ _ hlt (by simp) ⟨rfl, fun j v' hj hvj => ?_⟩
      rcases Nat.lt_or_ge j i with h2 | h2
      · exact hno j v' h2 hvj
      · obtain rfl : j = i := by omega
        rw [hv] at hvj
        cases hvj
        simp [hc]
  · have hge : i = l.length := by have := of_decide_eq_false h; omega
    subst hge
    simp
    refine he _ _ _ (by simp) ?_
    simp
    exact (fi_none hno).symm
theorem q162 (h : Ar X A a m) (hB : has m B [.ptr A 0]) (l : List Val) (hl : l.length < 2 ^ 21) : EH Tryz.prog ca (.func 162) [.lst (vals l), .fn (.func 161) [] [.ptr B 0]] m (.sc (.bool (l.any fun v => !goodM a v))) m := by
  refine eh_run Tryz.func162 rfl rfl rfl rfl (args1 := [.lst (vals l), .fn (.func 161) [] [.ptr B 0]]) (m1 := m) (by simp [fzvs]) (by simp) (by simp [Tryz.f162]) (by simp [Tryz.f162]) ?_
  simp [Tryz.f162, show ca.keepRes 162 = false from rfl, (q179 h hB l hl).go]
  exact fi_any _ _
end
def hi7 (b : UInt8) : Bool := decide (128 ≤ b.toNat)
theorem q164 (b : UInt8) : Gives Tryz.prog ca 164 [.sc (.int .u8 b.toNat)] (.sc (.bool (hi7 b))) := by
  refine gives_run Tryz.func164 rfl rfl rfl rfl (by simp) (by simp [Tryz.f164]) (by simp [Tryz.f164]) fun m => ?_
  simp [Tryz.f164, show ca.keepRes 164 = false from rfl, hi7]
  omega
theorem byts_at {l : List UInt8} {i : Nat} {v : UInt8} (h : l[i]? = some v) : aindexAddr Tryz.prog 76 (.lst (byts l)) (int i) = some ((AV.sc (.int .u8 v.toNat)).cptr 0) := aindexAddr_lst Tryz.underlying76 tsize5 (by simp [byts, h]) (by simp)
theorem q180 (l : List UInt8) (hl : l.length < 2 ^ 21) : Gives Tryz.prog ca 180 [.lst (byts l), .fn (.func 164) [] []] (int (fi hi7 l)) := by
  refine gives_run Tryz.func180 rfl rfl rfl rfl (by simp [fzvs]) (by simp [Tryz.f180]) (by simp [Tryz.f180]) fun m => ?_
  simp [Tryz.f180, show ca.keepRes 180 = false from rfl]
  refine go_count 8 l.length (fun i s m' => m' = m ∧ ∀ j v, j < i → l[j]? = some v → hi7 v = false) (by simp) (by omega) ⟨rfl, fun _ _ h => by omega⟩ ?_
  rintro i s m' hi e8 ⟨rfl, hno⟩ hs hw Q' hn he
  have e0 : s.at 0 = .lst (byts l) := (hs 0 (by kernel_rfl)).trans (by simp)
  have e1 : s.at 1 = .fn (.func 164) [] [] := (hs 1 (by kernel_rfl)).trans (by simp)
  have e7 : s.at 7 = int l.length := (hs 7 (by kernel_rfl)).trans (by simp)
  clear hs
  simp [e8, e7]
  refine goB_split (fun h => ?_) fun h => ?_
  · have hlt : i < l.length := by simpa using h
    obtain ⟨v, hv⟩ : ∃ v, l[i]? = some v := ⟨_, List.getElem?_eq_getElem hlt⟩
    simp [e8, e0, e1, byts_at hv, (q164 v).go]
    cases hc : hi7 v with
    | true =>
      simp
      refine he _ _ _ (by simp) ?_
      simp
      exact (fi_some hv hc hno).symm
    | false =>
      simp [e8, hw]
      refine hn _ _ hlt (by simp) ⟨rfl, fun j v' hj hvj => ?_⟩
      rcases Nat.lt_or_ge j i with h2 | h2
      · exact hno j v' h2 hvj
      · obtain rfl : j = i := by omega
        rw [hv] at hvj
        cases hvj
        exact hc
  · have hge : i = l.length := by have := of_decide_eq_false h; omega
    subst hge
    simp
    refine he _ _ _ (by simp) ?_
    simp
    exact (fi_none hno).symm
theorem q163 (l : List UInt8) (hl : l.length < 2 ^ 21) : Gives Tryz.prog ca 163 [.lst (byts l), .fn (.func 164) [] []] (.sc (.bool (l.any hi7))) := by
  refine gives_run Tryz.func163 rfl rfl rfl rfl (by simp [fzvs]) (by simp [Tryz.f163]) (by simp [Tryz.f163]) fun m => ?_
  simp [Tryz.f163, show ca.keepRes 163 = false from rfl, (q180 l hl).go]
  exact fi_any _ _
/-- Is a cell of its kind? -/
def kindM (c : CeM) : Bool :=
  if c.k = 1 then decide (c.n = 0) && (decide (c.s.length = 0) && decide (c.a.length = 2)) else
  if c.k = 2 then decide (c.n = 0) && decide (c.s.length = 0) else
  if c.k = 3 then decide (c.n = 0) && decide (c.a.length = 0) else
  if c.k = 4 then decide (c.n = 0) && (decide (c.s.length = 0) && decide (c.a.length = 1)) else
  if c.k = 5 then decide (c.s.length = 0) && (decide (c.a.length ≤ 64) && below c.n 1024) else
  decide (5 < c.k) && (decide (c.k ≤ 11) && (decide (c.s.length + c.a.length = 0) && (decide (0 ≤ c.n) && decide (c.n ≤ 4611686018427387904))))
def fitsM (a : ArM) (c : CeM) : Bool := !decide (4096 < c.a.length) && (!decide (4096 < c.s.length) && (!(c.a.any fun v => !goodM a v) && (!c.s.any hi7 && kindM c)))
set_option maxHeartbeats 4000000 in
theorem q107 {X : Nat → Prop} {A : Nat} {a : ArM} {m : Mem} (h : Ar X A a m) (c : CeM) (ha : c.a.length < 2 ^ 21) (hs : c.s.length < 2 ^ 21) : EH Tryz.prog ca (.func 107) [.ptr A 0, ceA c] m (.sc (.bool (fitsM a c))) m := by
  refine eh_run Tryz.func107 rfl rfl rfl rfl (args1 := [.ptr A 0, ceA c]) (m1 := m) (by simp [fzvs]) (by simp) (by simp [Tryz.f107]) (by simp [Tryz.f107]) ?_
  simp only [Tryz.f107, show ca.keepRes 107 = false from rfl]
  have q1 := q162 (h.kp (m' := (m.new [.ptr A 0] false).new (ceA c).cells false) (by simp)) (B := m.next) ⟨by simp, m.clock + 1, by simp⟩ c.a ha
  simp at q1
  by_cases h1 : 4096 < c.a.length
  · have h1' : (4096 : Int) < c.a.length := by omega
    simp [h1', fitsM, h1, undefV, undef]
  have h1' : ¬ (4096 : Int) < c.a.length := by omega
  by_cases h2 : 4096 < c.s.length
  · have h2' : (4096 : Int) < c.s.length := by omega
    simp [h1', h2', fitsM, h1, h2]
  have h2' : ¬ (4096 : Int) < c.s.length := by omega
  have hfit : fitsM a c = (!(c.a.any fun v => !goodM a v) && (!c.s.any hi7 && kindM c)) := by simp [fitsM, h1, h2]
  rw [hfit]
  generalize (c.a.any fun v => !goodM a v) = b1 at q1 ⊢
  have q2 := q163 c.s hs
  generalize c.s.any hi7 = b2 at q2 ⊢
  cases b1 with
  | true =>
    simp [h1', h2', q1.go, undefV, undef]
  | false =>
  cases b2 with
  | true =>
    simp [h1', h2', q1.go, q2.go]
  | false =>
  have hk : ∀ n : Nat, ((n : Int) = 0) = (n = 0) ∧ ((n : Int) = 1) = (n = 1) ∧ ((n : Int) = 2) = (n = 2) ∧ ((n : Int) ≤ 64) = (n ≤ 64) := fun n => by
    refine ⟨propext ?_, propext ?_, propext ?_, propext ?_⟩ <;> omega
  have wl : IntKind.i64.wrap ((c.s.length : Int) + c.a.length) = (c.s.length : Int) + c.a.length := IntWalk.i64_in _ (by omega)
  have wz : ((c.s.length : Int) + c.a.length = 0) = (c.s.length + c.a.length = 0) := propext (by omega)
  simp [h1', h2', q1.go, q2.go]
  unfold kindM
  by_cases k1 : c.k = 1
  · by_cases e1 : c.n = 0
    · by_cases e2 : c.s.length = 0
      · simp [k1, e1, e2, hk]
      · simp [k1, e1, e2, hk, undefV, undef]
    · simp [k1, e1, undefV, undef]
  by_cases k2 : c.k = 2
  · by_cases e1 : c.n = 0
    · simp [k2, e1, hk]
    · simp [k2, e1, undefV, undef]
  by_cases k3 : c.k = 3
  · by_cases e1 : c.n = 0
    · simp [k3, e1, hk]
    · simp [k3, e1, undefV, undef]
  by_cases k4 : c.k = 4
  · by_cases e1 : c.n = 0
    · by_cases e2 : c.s.length = 0
      · simp [k4, e1, e2, hk]
      · simp [k4, e1, e2, hk, undefV, undef]
    · simp [k4, e1, undefV, undef]
  by_cases k5 : c.k = 5
  · by_cases e1 : c.s.length = 0
    · by_cases e2 : c.a.length ≤ 64
      · simp [k5, e1, e2, hk, (q75 c.n 1024).go]
      · simp [k5, e1, e2, hk, undefV, undef]
    · simp [k5, e1, hk, undefV, undef]
  by_cases e1 : 5 < c.k
  · by_cases e2 : c.k ≤ 11
    · by_cases e3 : c.s.length + c.a.length = 0
      · by_cases e4 : 0 ≤ c.n
        · simp [k1, k2, k3, k4, k5, e1, e2, wl, wz, e3, e4]
        · simp [k1, k2, k3, k4, k5, e1, e2, wl, wz, e3, e4, undefV, undef]
      · simp [k1, k2, k3, k4, k5, e1, e2, wl, wz, undefV, undef]
        by_cases z1 : c.s = []
        · have z2 : ¬ c.a = [] := fun z => e3 (by simp [z1, z])
          simp [z1, z2, undefV, undef]
        · simp [z1, undefV, undef]
    · simp [k1, k2, k3, k4, k5, e1, e2, undefV, undef]
  · simp [k1, k2, k3, k4, k5, e1, undefV, undef]
end Go.Proofs.YtnhcmcfgemoehaaGreat

/- A cell of an arena; how many there are. -/
namespace Go.Proofs.YtnhcmcfgemoehaaGreat
set_option maxRecDepth 4000
open Go.V
attribute [local simp] Nat.add_assoc

/-- Which cell a value refers to. -/
def ixM (a : ArM) (v : Val) : Option Nat := if v.1 = 7 ∧ goodM a v = true then some v.2.toNat else none
theorem ixM_some {a : ArM} {v : Val} {i : Nat} (h : ixM a v = some i) : v = (7, (i : Int)) ∧ ∃ c, a.cells[i]? = some c := by
  unfold ixM at h
  split at h
  · rename_i hc
    obtain ⟨k, n⟩ := v
    obtain ⟨h7, hg⟩ := hc
    simp only at h7
    subst h7
    have hb : below n a.cells.length = true := by simpa [goodM] using hg
    simp [below] at hb
    simp only [Option.some.injEq] at h
    have e : n = (i : Int) := by omega
    exact ⟨by rw [e], _, List.getElem?_eq_getElem (by omega)⟩
  · cases h
/-- The block of a slice. -/
def blk : AV → Nat | .sl id _ _ _ _ _ => id | _ => 0
def cellP (a : ArM) (cs : AV) (v : Val) : AV := match ixM a v with | some i => .ptr (blk cs) (i * 4) | none => .sc (.pointer none)
section
variable {X : Nat → Prop} {A M : Nat} {a : ArM} {m : Mem} {t : Nat → Option Nat} {cs ns : AV} {xs : List AV}
set_option maxHeartbeats 4000000 in
theorem q77 (h : ArT t A M cs ns xs a m) (hx : ∀ j, t j ≠ none → X j ∧ j < m.next) (v : Val) : EH Tryz.prog ca (.func 77) [.ptr A 0, valA v] m (cellP a cs v) m := by
  have hAr : Ar X A a m := ⟨t, M, cs, ns, xs, h, hx⟩
  have hA := h.lt
  have k1 : Kp m (m.new [int v.1, int v.2] false) := by simp
  have q1 := q34 (hAr.kp k1)
  have q2 := q41 (hAr.kp k1) v
  obtain ⟨w, hv⟩ := h.get
  have hbel : (cellP a cs v).bel m.next = true := by
    unfold cellP
    cases hi : ixM a v with
    | none => rfl
    | some i =>
      obtain ⟨_, c, hc⟩ := ixM_some hi
      obtain ⟨C, _, x, rfl, hC, _⟩ := h.at hc
      simp [blk, AV.bel, hC]
  refine eh_run Tryz.func77 rfl rfl rfl rfl (args1 := [.ptr A 0, valA v]) (m1 := m) (by simp [fzvs]) hbel (by simp [Tryz.f77]) (by simp [Tryz.f77]) ?_
  simp only [Tryz.f77, show ca.keepRes 77 = false from rfl]
  simp [q1.go]
  by_cases h7 : v.1 = 7
  rotate_left
  · have : cellP a cs v = .sc (.pointer none) := by simp [cellP, ixM, h7]
    rw [this]
    simp [h7, undefV, undef]
  obtain ⟨k, n⟩ := v
  simp only at h7
  subst h7
  have q2' : EH Tryz.prog ca (.func 41) [.ptr A 0, .agg [int 7, int n]] (m.new [int 7, int n] false) (.sc (.bool (goodM a (7, n)))) (m.new [int 7, int n] false) := q2
  simp
  cases hg : goodM a (7, n) with
  | false =>
    have : cellP a cs (7, n) = .sc (.pointer none) := by simp [cellP, ixM, hg]
    rw [this]
    rw [hg] at q2'
    simp [q2'.go]
  | true =>
    rw [hg] at q2'
    obtain ⟨i, hi⟩ : ∃ i, ixM a (7, n) = some i := ⟨n.toNat, by simp [ixM, hg]⟩
    obtain ⟨hvi, c, hc⟩ := ixM_some hi
    obtain ⟨C, vc, x, rfl, hC, htC, hgC, hxi, hzi, hrow⟩ := h.at hc
    have hil := (List.getElem?_eq_some_iff.1 hc).1
    have hix := aindexAddr_sl (P := Tryz.prog) (q := .i64) (ag := true) (c := none) (id := C) (off := 0) (len := a.cells.length) (i := i) Tryz.underlying74 tsize78 hil
    have hcp : cellP a (.sl C 0 a.cells.length 4 true none) (7, n) = .ptr C (i * 4) := by simp [cellP, hi, blk]
    rw [hcp]
    have nA : A ≠ m.next := by omega
    have hv2 : n = (i : Int) := by cases hvi; rfl
    simp [q2'.go]
    refine go_draw0 (by kernel_rfl) (by kernel_rfl) ?_
    simp [hv, nA, hv2, hix]
end
theorem Fresh.fz {m0 m m' : Mem} {x : AV} {l : List Val} (h : Fresh m m' x l) (h0 : m0.next ≤ m.next) (k : Kp m0 m') : ∃ m2, fz1 m' x = (.lst (vals l), m2) ∧ Kp m0 m2 := by
  rcases h with ⟨rfl, rfl⟩ | ⟨h, id, v, rfl, h1, h2, h3⟩
  · exact ⟨m', rfl, k⟩
  · have e := fz1_row (k := 2) (ag := true) (cap := none) (ys := vals l) rfl h3 (vals_row l) (vals_ok l)
    rw [vals_length] at e
    exact ⟨_, e, k.mark (by omega) _ _⟩
/-- A cell that is told. -/
def zeroC : CeM := ⟨0, 0, [], []⟩
def getM (a : ArM) (v : Val) : CeM × Int := match ixM a v with | some i => (a.cells.getD i zeroC, 0) | none => (zeroC, 110)
theorem eq135 {x y : Operand} {i j : Nat} : abin Tryz.prog .eql 135 x y (.ptr i j) (.sc (.pointer none)) = some (.sc (.bool false)) := by
  have : nilTest Tryz.prog 135 (.ptr i j) (.sc (.pointer none)) = some false := by
    unfold nilTest
    rw [Tryz.underlying135]
  simp [abin, plain, this]
theorem nil135 {x y : Operand} : abin Tryz.prog .eql 135 x y (.sc (.pointer none)) (.sc (.pointer none)) = some (.sc (.bool true)) := by kernel_rfl
theorem build78 : abuild Tryz.prog 78 [] = some (.agg [int 0, int 0, .emp 0, .emp 0]) := by simp [abuild, placesOf, fillAt]
section
variable {X : Nat → Prop} {A : Nat} {a : ArM} {m : Mem}
/-- No cell has more than may be. -/
def Small (a : ArM) : Prop := ∀ c ∈ a.cells, c.a.length ≤ 4096 ∧ c.s.length ≤ 4096
set_option maxHeartbeats 4000000 in
theorem q57 (hA : Ar X A a m) (hs : Small a) (v : Val) : EH Tryz.prog ca (.func 57) [.ptr A 0, valA v] m (.tup [ceA (getM a v).1, int (getM a v).2]) m := by
  refine eh_run Tryz.func57 rfl rfl rfl rfl (args1 := [.ptr A 0, valA v]) (m1 := m) (by simp [fzvs]) (by simp [AV.bel, AV.bels]) (by simp [Tryz.f57]) (by simp [Tryz.f57]) ?_
  have k1 : Kp m ((m.new [int v.1, int v.2] false).new [int 0, int 0, .emp 0, .emp 0] false) := by simp
  have q1 := q34 (hA.kp k1)
  obtain ⟨t, M, cs, ns, xs, h, hx⟩ := hA.kp k1
  have q2 := q77 h hx v
  simp only [Tryz.f57, show ca.keepRes 57 = false from rfl]
  simp [q1.go, valA_agg, q2.go]
  cases hi : ixM a v with
  | none =>
    have e1 : cellP a cs v = .sc (.pointer none) := by simp [cellP, hi]
    simp [e1, nil135, build78, getM, hi, ceA, zeroC]
  | some i =>
    obtain ⟨rfl, c, hc⟩ := ixM_some hi
    obtain ⟨C, vc, x, rfl, hC, htC, hgC, hxi, hzi, hrow⟩ := h.at hc
    have e1 : cellP a (.sl C 0 a.cells.length 4 true none) (7, (i : Int)) = .ptr C (i * 4) := by simp [cellP, hi, blk]
    obtain ⟨f1, f2⟩ := flat_at (zip_ok a.cells xs) hzi
    have hsm := hs c (List.mem_of_getElem? hc)
    simp [e1, eq135, hgC, f1, f2]
    have hget : getM a (7, (i : Int)) = (c, 0) := by simp [getM, hi, List.getD_eq_getElem?_getD, hc]
    rw [hget]
    refine goH_of (q64 (c := c) (x0 := x) (.of hrow) hsm.1 hsm.2) ?_
    rintro _ m2 ⟨k2, x2, rfl, hf⟩
    have ok := hf.okc
    have g2 : m2.get (m.next + 1) = some (.cells [int 0, int 0, .emp 0, .emp 0] false (m.clock + 2)) := by rw [k2.get (m.next + 1) (by simp)]; simp
    simp [rowA, g2]
    obtain ⟨m3, z1, z2⟩ := (hf.keep (m2 := m2.set (m.next + 1) [int c.k, int c.n, x2, .lst (byts c.s)]) (m0 := m) (by simp) (by simp) fun j hj _ => by
      simp at hj
      have : j ≠ m.next + 1 := by omega
      simp [this]).fz (m0 := m) (Nat.le_refl _) (((k1.trans k2).set (by omega) _))
    simp [fzs, z1, z2, ceA]
end
end Go.Proofs.YtnhcmcfgemoehaaGreat
