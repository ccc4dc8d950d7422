import Derived.Test.YtnhcmcfgemoehaaGreatKP5
/- An arena is looked at: what may be there, what a cell is. -/
set_option linter.unusedSimpArgs false
set_option linter.unusedVariables false
set_option linter.unusedSectionVars false
namespace Go.Proofs.YtnhcmcfgemoehaaGreat
open Go.V
attribute [local simp] Nat.add_assoc
def isIn (n : Int) : Bool := decide (-1152921504606846976 ≤ n) && decide (n ≤ 1152921504606846975)
theorem q74 (n : Int) : Gives Tryz.prog ca 74 [int n] (.sc (.bool (isIn n))) := by
  refine gives_run Tryz.func74 rfl rfl rfl rfl (by simp) (by simp [Tryz.f74]) (by simp [Tryz.f74]) fun m => ?_
  simp [Tryz.f74, show ca.keepRes 74 = false from rfl]
  by_cases h : -1152921504606846976 ≤ n
  · simp [h, isIn]
  · simp [h, isIn]
def below (n k : Int) : Bool := decide (0 ≤ n) && decide (n < k)
theorem q75 (n k : Int) : Gives Tryz.prog ca 75 [int n, int k] (.sc (.bool (below n k))) := by
  refine gives_run Tryz.func75 rfl rfl rfl rfl (by simp) (by simp [Tryz.f75]) (by simp [Tryz.f75]) fun m => ?_
  simp [Tryz.f75, show ca.keepRes 75 = false from rfl]
  by_cases h : 0 ≤ n
  · simp [h, below]
  · simp [h, below]
theorem arena_nil {x y : Operand} {i j : Nat} : abin Tryz.prog .eql 46 x y (.ptr i j) (.sc (.pointer none)) = some (.sc (.bool false)) := by
  have : nilTest Tryz.prog 46 (.ptr i j) (.sc (.pointer none)) = some false := by
    unfold nilTest
    rw [Tryz.underlying46]
  simp [abin, plain, this]
section
variable {X : Nat → Prop} {A : Nat} {a : ArM} {m : Mem}
theorem q34 (h : Ar X A a m) : EH Tryz.prog ca (.func 34) [.ptr A 0] m (.sc (.bool false)) m := by
  obtain ⟨t, M, cs, ns, xs, h, hx⟩ := h
  obtain ⟨v, hv⟩ := h.get
  have hs := h.sane.1
  have hr : ¬ a.room = 0 := by omega
  refine eh_run Tryz.func34 rfl rfl rfl rfl (args1 := [.ptr A 0]) (m1 := m) (by simp) (by simp) (by simp [Tryz.f34]) (by simp [Tryz.f34]) ?_
  simp [Tryz.f34, show ca.keepRes 34 = false from rfl, arena_nil, hv, hr]
/-- May a value be there? -/
def goodM (a : ArM) (v : Val) : Bool :=
  if v.1 = 1 then isIn v.2 else if v.1 = 2 then below v.2 2 else if v.1 = 3 then below v.2 128 else if v.1 = 4 then decide (v.2 = 0) else
  if v.1 = 5 then below v.2 a.names.length else if v.1 = 6 then below v.2 65536 else if v.1 = 7 then below v.2 a.cells.length else false
/-- How long a slice is. -/
theorem len_has {t : Nat → Option Nat} {n k T e : Nat} {ag : Bool} {m m' : Mem} {x : AV} {ys : List AV} {R : TypeId} (h : Has t n k ag (.emp 0) m x ys) (hT : Tryz.prog.underlying T = some (.slice e)) : abuiltin Tryz.prog .len #[T] R [x] m' = some (int ys.length, m') := by
  rcases h with ⟨rfl, rfl⟩ | ⟨_, id, v, rfl, _⟩
  · exact alen_emp hT
  · rw [alen_sl hT]
set_option maxRecDepth 20000 in
set_option maxHeartbeats 4000000 in
theorem q41 (h : Ar X A a m) (v : Val) : EH Tryz.prog ca (.func 41) [.ptr A 0, valA v] m (.sc (.bool (goodM a v))) m := by
  obtain ⟨t, M, cs, ns, xs, h, hx⟩ := h
  obtain ⟨w, hv⟩ := h.get
  have hA := h.lt
  have n0 : A ≠ m.next := by omega
  have lc := fun m' R => len_has (T := 74) (R := R) (m' := m') h.cells Tryz.underlying74
  have ln := fun m' R => len_has (T := 85) (R := R) (m' := m') h.names Tryz.underlying85
  simp only [List.length_zipWith, h.len, Nat.min_self, List.length_map] at lc ln
  obtain ⟨k, n⟩ := v
  refine eh_run Tryz.func41 rfl rfl rfl rfl (args1 := [.ptr A 0, valA (k, n)]) (m1 := m) (by simp) (by simp) (by simp [Tryz.f41]) (by simp [Tryz.f41]) ?_
  simp only [Tryz.f41, show ca.keepRes 41 = false from rfl]
  unfold goodM
  by_cases k1 : k = 1
  · simp [k1, (q74 n).go]
  · by_cases k2 : k = 2
    · simp [k2, (q75 n _).go]
    · by_cases k3 : k = 3
      · simp [k3, (q75 n _).go]
      · by_cases k4 : k = 4
        · simp [k4]
        · by_cases k5 : k = 5
          · simp [k5]
            refine go_draw0 (by kernel_rfl) (by kernel_rfl) ?_
            simp [hv, n0, ln, (q75 n _).go]
          · by_cases k6 : k = 6
            · simp [k6, (q75 n _).go]
            · by_cases k7 : k = 7
              · simp [k7]
                refine go_draw0 (by kernel_rfl) (by kernel_rfl) ?_
                simp [hv, n0, lc, (q75 n _).go]
              · simp [k1, k2, k3, k4, k5, k6, k7]
end
end Go.Proofs.YtnhcmcfgemoehaaGreat
namespace Go.Proofs.YtnhcmcfgemoehaaGreat
set_option maxRecDepth 4000
open Go.V
attribute [local simp] Nat.add_assoc
/-- A slice that was made between two memories. -/
def Fresh (m m' : Mem) (x : AV) (l : List Val) : Prop := (l = [] ∧ x = .emp 1) ∨ (l ≠ [] ∧ ∃ id v, x = .sl id 0 l.length 2 true none ∧ m.next ≤ id ∧ id < m'.next ∧ m'.get id = some (.cells (flat (vals l)) false v))
theorem Fresh.okc {m m' : Mem} {x : AV} {l : List Val} (h : Fresh m m' x l) : x.okc = true ∧ x.cells = [x] := by
  rcases h with ⟨_, rfl⟩ | ⟨_, id, v, rfl, _⟩ <;> exact ⟨rfl, rfl⟩
theorem Fresh.keep {m m0 m' m2 : Mem} {x : AV} {l : List Val} (h : Fresh m m' x l) (h0 : m0.next ≤ m.next) (h1 : m'.next ≤ m2.next) (k : ∀ j, m.next ≤ j → j < m'.next → m2.get j = m'.get j) : Fresh m0 m2 x l := by
  rcases h with h | ⟨h, id, v, rfl, h2, h3, h4⟩
  · exact .inl h
  · exact .inr ⟨h, id, v, rfl, by omega, by omega, by rw [k id h2 h3]; exact h4⟩
/-- The elements of a slice are these values. -/
def El (m : Mem) (x : AV) (l : List Val) : Prop := x = .lst (vals l) ∨ (l = [] ∧ x = .emp 1) ∨ (l ≠ [] ∧ ∃ id v f, x = .sl id 0 l.length 2 true none ∧ id < m.next ∧ m.get id = some (.cells (flat (vals l)) f v))
theorem El.elems {m : Mem} {x : AV} {l : List Val} (h : El m x l) : elemsOf m x = some (vals l) := by
  rcases h with rfl | ⟨rfl, rfl⟩ | ⟨h, id, v, f, rfl, h1, h2⟩
  · rfl
  · rfl
  · simp only [elemsOf, h2]
    have := chunk_flat (k := 2) (ag := true) rfl (vals l) (vals_row l)
    rw [vals_length] at this
    rw [if_pos ⟨by rw [flat_length (vals_ok l)]; simp, rfl⟩, List.drop_zero, this]
theorem El.kp {m m' : Mem} {x : AV} {l : List Val} (h : El m x l) (k : Kp m m') : El m' x l := by
  rcases h with rfl | ⟨rfl, rfl⟩ | ⟨h, id, v, f, rfl, h1, h2⟩
  · exact .inl rfl
  · exact .inr (.inl ⟨rfl, rfl⟩)
  · exact .inr (.inr ⟨h, id, v, f, rfl, Nat.lt_of_lt_of_le h1 k.next, by rw [k.get id h1]; exact h2⟩)
theorem El.of {t : Nat → Option Nat} {n : Nat} {m : Mem} {x : AV} {l : List Val} (h : Has t n 2 true (.emp 1) m x (vals l)) : El m x l := by
  rcases h with ⟨h, rfl⟩ | ⟨h, id, v, rfl, h1, _, h2⟩
  · exact .inr (.inl ⟨(by cases l with | nil => rfl | cons a l => cases h), rfl⟩)
  · exact .inr (.inr ⟨fun e => h (by rw [e]; rfl), id, v, false, by rw [vals_length], h1, h2⟩)
theorem El.not_nil {m : Mem} {x : AV} {v : Val} {l : List Val} (h : El m x (v :: l)) {xo yo : Operand} : abin Tryz.prog .eql 66 xo yo x (.emp 0) = some (.sc (.bool false)) := by
  have : nilTest Tryz.prog 66 x (.emp 0) = some false ∧ plain x = none := by
    rcases h with rfl | ⟨h, _⟩ | ⟨h, id, w, f, rfl, _⟩
    · exact ⟨by simp [nilTest, Tryz.underlying66, vals_cons], rfl⟩
    · cases h
    · exact ⟨by simp [nilTest, Tryz.underlying66], rfl⟩
  simp [abin, this.1, this.2]
theorem run110 {m : Mem} {x : AV} {v : Val} {l : List Val} (h : El m x (v :: l)) (hb : l.length < 4096) : EH Tryz.prog cf0 (.func 110) [x] m (.sl (m.next + 1) 0 (l.length + 1) 2 true none) ((m.new [] false).new (flat (vals (v :: l))) false) := by
  refine eh_of ?_
  refine wph_go Tryz.func110 rfl rfl (by simp [Tryz.f110]) (by simp [Tryz.f110]) fun Q hQ => ?_
  simp only [Tryz.f110, show cf0.keepRes 110 = true from rfl, show cf0.keepArgs 110 = true from rfl] at hQ ⊢
  have k1 : Kp m (m.new [] false) := .new _ _ _
  have hs : srcOf (m.new [] false) x = some (vals (v :: l)) := by
    have e := (h.kp k1).elems
    rw [← e]
    rcases h with rfl | ⟨h, _⟩ | ⟨_, id, w, f, rfl, _⟩
    · rfl
    · cases h
    · rfl
  have q := aapp_full (P := Tryz.prog) (T := 66) (k := 2) (ag := true) (ag' := true) (id := m.next) (ys := vals (v :: l)) (ys' := vals (v :: l)) (m := m.new [] false) (m' := m.new [] false) (v := m.clock + 1) el66 (by simp [vals_cons]) (vals_ok _) (by simp) (by simp) (by simp; omega)
  simp [h.not_nil, abuildSlice, fillAt, zeros, hs, q]
  refine hQ _ _ _ ⟨.inr rfl, _, rfl, ?_⟩
  simp [oneOf]
theorem kp_skip {m m1 : Mem} (h : Kp m m1) : Kp m m1.skip := by
  unfold Mem.skip
  exact (h.newr _ _).kill h.next
theorem q110 {m : Mem} {x : AV} {l : List Val} (h : El m x l) (hb : l.length ≤ 4096) : wph Tryz.prog ca (.func 110) [x] m fun v m' => Kp m m' ∧ Fresh m m' v l := by
  have he := h.elems
  cases l with
  | nil =>
    have e : cloneL Tryz.prog 110 [x] m = some (.emp 1, m.skip) := by
      simp only [cloneL, he, vals_nil]
    exact ⟨_, _, eh_hook rfl e, kp_skip (.refl m), .inl ⟨rfl, rfl⟩⟩
  | cons v l =>
    have e : cloneL Tryz.prog 110 [x] m = some (.sl (m.next + 1) 0 (l.length + 1) 2 true none, (m.new [] false).new (flat (vals (v :: l))) false) := by
      simp only [cloneL, he, vals_cons]
      exact lim_eq (run110 h (by simp at hb; omega))
    exact ⟨_, _, eh_hook rfl e, by simp, .inr ⟨by simp, _, _, rfl, by omega, by simp, by simp; rfl⟩⟩
theorem byts_row (s : List UInt8) : ∀ y ∈ byts s, y.cells.length = 1 ∧ (if false then AV.agg y.cells = y else y.cells = [y]) := by
  intro y hy
  obtain ⟨x, _, rfl⟩ := List.mem_map.1 hy
  simp
theorem q111 {m : Mem} (s : List UInt8) (hb : s.length < 2 ^ 21) : EH Tryz.prog ca (.func 111) [.lst (byts s)] m (.lst (byts s)) m := by
  refine clone_lst rfl (by simp) ?_
  intro x0 l0 e0
  cases s with
  | nil => cases e0
  | cons x s =>
  refine ⟨(m.new [] false).new (flat (byts (x :: s))) false, .inr ⟨1, false, m.next + 1, m.clock + 2, eh_of ?_, by simp, by omega, by simp, rfl, byts_row _, byts_ok _⟩⟩
  refine wph_go Tryz.func111 rfl rfl (by simp [Tryz.f111]) (by simp [Tryz.f111]) fun Q hQ => ?_
  simp only [Tryz.f111, show cf0.keepRes 111 = true from rfl, show cf0.keepArgs 111 = true from rfl] at hQ ⊢
  have e1 : nilTest Tryz.prog 76 (.lst (byts (x :: s))) (.emp 0) = some false := nilTest_cons (T := 76) Tryz.underlying76
  have e2 := aapp_full (m := m.new [] false) (m' := m.new [] false) (ys := byts (x :: s)) (ys' := byts (x :: s)) (id := m.next) (v := m.clock + 1) (ag' := false) el76 (by simp [byts]) (byts_ok _) (by simp [fzx]) (by simp) (by simp at hb ⊢; omega)
  simp [abin, plain, e1, abuildSlice, zeros, fillAt, abuiltin, srcOf, elemsOf, e2]
  refine hQ _ _ _ ⟨.inr rfl, _, rfl, ?_⟩
  simp [oneOf]
theorem q64 {m : Mem} {c : CeM} {x0 : AV} (h : El m x0 c.a) (hb : c.a.length ≤ 4096) (hs : c.s.length ≤ 4096) : wph Tryz.prog ca (.func 64) [rowA c x0] m fun v m' => Kp m m' ∧ ∃ x, v = rowA c x ∧ Fresh m m' x c.a := by
  refine wph_go Tryz.func64 rfl rfl (by simp [Tryz.f64]) (by simp [Tryz.f64]) fun Q hQ => ?_
  simp only [Tryz.f64, show ca.keepRes 64 = true from rfl, show ca.keepArgs 64 = true from rfl] at hQ ⊢
  simp
  refine go_drawD (by kernel_rfl) ?_
  simp [rowA]
  refine goH_of (q110 (h.kp (by simp)) hb) ?_
  rintro v m2 ⟨k2, hf⟩
  have hn := k2.next
  simp at hn
  have g1 : m2.get m.next = some (.cells [int c.k, int c.n, x0, .lst (byts c.s)] false (m.clock + 1)) := by
    rw [k2.get m.next (by simp)]; simp
  have g2 : m2.get (m.next + 1) = some (.cells [int 0, int 0, .emp 0, .emp 0] false (m.clock + 2)) := by
    rw [k2.get (m.next + 1) (by simp)]; simp
  have ok := hf.okc
  simp [g1, (q111 c.s (by omega)).go, g2, ok]
  refine goM_of (l := [(2, 4)]) (by kernel_rfl) (?_ : List.all _ _ = true) ?_
  · simp [metAtD, metOkD, rank, verKeptD, Region.wanted, Mem.ver, g1]
  simp [g1, g2, ok]
  refine hQ _ _ _ ?_
  rw [leave_ret]
  simp [aresult, oneOf, ok]
  have kk : Kp m m2 := (by simp : Kp m ((m.new [int c.k, int c.n, x0, AV.lst (byts c.s)] false).new [AV.sc (Value.int IntKind.i64 0), AV.sc (Value.int IntKind.i64 0), AV.emp 0, AV.emp 0] false)).trans k2
  refine ⟨kk, v, rfl, hf.keep (by simp) (by simp) fun j hj _ => ?_⟩
  simp at hj
  have a1 : j ≠ m.next := by omega
  have a2 : j ≠ m.next + 1 := by omega
  simp [a1, a2]
end Go.Proofs.YtnhcmcfgemoehaaGreat
namespace Go.Proofs.YtnhcmcfgemoehaaGreat
set_option maxRecDepth 4000
open Go.V
attribute [local simp] Nat.add_assoc
/-- Where the first one is that is so; -1: none. -/
def fi {α : Type} (p : α → Bool) (l : List α) : Int := match l.findIdx? p with | some i => (i : Int) | none => -1
theorem fi_some {α : Type} {p : α → Bool} {l : List α} {i : Nat} {x : α} (hx : l[i]? = some x) (h : p x = true) (hn : ∀ j y, j < i → l[j]? = some y → p y = false) : fi p l = (i : Int) := by
  obtain ⟨hi, e⟩ := List.getElem?_eq_some_iff.1 hx
  have : l.findIdx? p = some i := by
    rw [List.findIdx?_eq_some_iff_getElem]
    refine ⟨hi, by rw [e]; exact h, fun j hj => ?_⟩
    rw [hn j _ hj (List.getElem?_eq_getElem (by omega))]
    simp
  rw [fi, this]
theorem fi_none {α : Type} {p : α → Bool} {l : List α} (hn : ∀ j y, j < l.length → l[j]? = some y → p y = false) : fi p l = -1 := by
  have : l.findIdx? p = none := by
    rw [List.findIdx?_eq_none_iff]
    intro y hy
    obtain ⟨j, hj, e⟩ := List.mem_iff_getElem.1 hy
    rw [hn j y hj (by rw [List.getElem?_eq_getElem hj, e])]
  rw [fi, this]
theorem fi_any {α : Type} (p : α → Bool) (l : List α) : decide (0 ≤ fi p l) = l.any p := by
  unfold fi
  cases h : l.findIdx? p with
  | none =>
    rw [List.findIdx?_eq_none_iff] at h
    have : l.any p = false := List.any_eq_false.2 fun x hx => by simp [h x hx]
    simp [this]
  | some i =>
    rw [List.findIdx?_eq_some_iff_getElem] at h
    obtain ⟨hi, h1, _⟩ := h
    have : l.any p = true := List.any_eq_true.2 ⟨_, List.getElem_mem hi, h1⟩
    simp [this]
section
variable {X : Nat → Prop} {A B : Nat} {a : ArM} {m : Mem}
theorem q161 (h : Ar X A a m) (hB : has m B [.ptr A 0]) (v : Val) : EH Tryz.prog ca (.func 161) [valA v, .ptr B 0] m (.sc (.bool (!goodM a v))) m := by
  obtain ⟨bl, bv, be⟩ := hB
  have bn : B ≠ m.next := by omega
  have q := q41 (h.kp (m' := m.new [int v.1, int v.2] false) (by simp)) v
  refine eh_run Tryz.func161 rfl rfl rfl rfl (args1 := [valA v, .ptr B 0]) (m1 := m) (by simp [fzvs]) (by simp) (by simp [Tryz.f161]) (by simp [Tryz.f161]) ?_
  simp [Tryz.f161, show ca.keepRes 161 = false from rfl, be, bn, q.go, valA_agg]
theorem vals_at {l : List Val} {i : Nat} {v : Val} (h : l[i]? = some v) : aindexAddr Tryz.prog 66 (.lst (vals l)) (int i) = some ((valA v).cptr 0) := aindexAddr_lst Tryz.underlying66 tsize51 (by rw [vals_get, h]; rfl) (by simp)
theorem q179 (h : Ar X A a m) (hB : has m B [.ptr A 0]) (l : List Val) (hl : l.length < 2 ^ 21) : EH Tryz.prog ca (.func 179) [.lst (vals l), .fn (.func 161) [] [.ptr B 0]] m (int (fi (fun v => !goodM a v) l)) m := by
  refine eh_run Tryz.func179 rfl rfl rfl rfl (args1 := [.lst (vals l), .fn (.func 161) [] [.ptr B 0]]) (m1 := m) (by simp [fzvs]) (by simp) (by simp [Tryz.f179]) (by simp [Tryz.f179]) ?_
  simp [Tryz.f179, show ca.keepRes 179 = false from rfl]
  refine go_count 8 l.length (fun i s m' => m' = m ∧ ∀ j v, j < i → l[j]? = some v → (!goodM a v) = false) (by simp) (by omega) ⟨rfl, fun _ _ h => by omega⟩ ?_
  rintro i s m' hi e8 ⟨rfl, hno⟩ hs hw Q' hn he
  have e0 : s.at 0 = .lst (vals l) := (hs 0 (by kernel_rfl)).trans (by simp)
  have e1 : s.at 1 = .fn (.func 161) [] [.ptr B 0] := (hs 1 (by kernel_rfl)).trans (by simp)
  have e7 : s.at 7 = int l.length := (hs 7 (by kernel_rfl)).trans (by simp)
  clear hs
  simp [e8, e7]
  refine goB_split (fun h => ?_) fun h => ?_
  · have hlt : i < l.length := by simpa using h
    obtain ⟨v, hv⟩ : ∃ v, l[i]? = some v := ⟨_, List.getElem?_eq_getElem hlt⟩
    simp [e8, e0, e1, vals_at hv, (q161 ‹Ar X A a m'› hB v).go, valA_agg]
    cases hc : goodM a v with
    | false =>
      simp
      refine he _ _ _ (by simp) ?_
      simp
      exact (fi_some hv (by simp [hc]) hno).symm
    | true =>
      simp [e8, hw]
      refine hn _ _ hlt (by simp) ⟨rfl, fun j v' hj hvj => ?_⟩
      rcases Nat.lt_or_ge j i with h2 | h2
      · exact hno j v' h2 hvj
      · obtain rfl : j = i := by omega
        rw [hv] at hvj
        cases hvj
        simp [hc]
  · have hge : i = l.length := by have := of_decide_eq_false h; omega
    subst hge
    simp
    refine he _ _ _ (by simp) ?_
    simp
    exact (fi_none hno).symm
theorem q162 (h : Ar X A a m) (hB : has m B [.ptr A 0]) (l : List Val) (hl : l.length < 2 ^ 21) : EH Tryz.prog ca (.func 162) [.lst (vals l), .fn (.func 161) [] [.ptr B 0]] m (.sc (.bool (l.any fun v => !goodM a v))) m := by
  refine eh_run Tryz.func162 rfl rfl rfl rfl (args1 := [.lst (vals l), .fn (.func 161) [] [.ptr B 0]]) (m1 := m) (by simp [fzvs]) (by simp) (by simp [Tryz.f162]) (by simp [Tryz.f162]) ?_
  simp [Tryz.f162, show ca.keepRes 162 = false from rfl, (q179 h hB l hl).go]
  exact fi_any _ _
end
def hi7 (b : UInt8) : Bool := decide (128 ≤ b.toNat)
theorem q164 (b : UInt8) : Gives Tryz.prog ca 164 [.sc (.int .u8 b.toNat)] (.sc (.bool (hi7 b))) := by
  refine gives_run Tryz.func164 rfl rfl rfl rfl (by simp) (by simp [Tryz.f164]) (by simp [Tryz.f164]) fun m => ?_
  simp [Tryz.f164, show ca.keepRes 164 = false from rfl, hi7]
  omega
theorem byts_at {l : List UInt8} {i : Nat} {v : UInt8} (h : l[i]? = some v) : aindexAddr Tryz.prog 76 (.lst (byts l)) (int i) = some ((AV.sc (.int .u8 v.toNat)).cptr 0) := aindexAddr_lst Tryz.underlying76 tsize5 (by simp [byts, h]) (by simp)
theorem q180 (l : List UInt8) (hl : l.length < 2 ^ 21) : Gives Tryz.prog ca 180 [.lst (byts l), .fn (.func 164) [] []] (int (fi hi7 l)) := by
  refine gives_run Tryz.func180 rfl rfl rfl rfl (by simp [fzvs]) (by simp [Tryz.f180]) (by simp [Tryz.f180]) fun m => ?_
  simp [Tryz.f180, show ca.keepRes 180 = false from rfl]
  refine go_count 8 l.length (fun i s m' => m' = m ∧ ∀ j v, j < i → l[j]? = some v → hi7 v = false) (by simp) (by omega) ⟨rfl, fun _ _ h => by omega⟩ ?_
  rintro i s m' hi e8 ⟨rfl, hno⟩ hs hw Q' hn he
  have e0 : s.at 0 = .lst (byts l) := (hs 0 (by kernel_rfl)).trans (by simp)
  have e1 : s.at 1 = .fn (.func 164) [] [] := (hs 1 (by kernel_rfl)).trans (by simp)
  have e7 : s.at 7 = int l.length := (hs 7 (by kernel_rfl)).trans (by simp)
  clear hs
  simp [e8, e7]
  refine goB_split (fun h => ?_) fun h => ?_
  · have hlt : i < l.length := by simpa using h
    obtain ⟨v, hv⟩ : ∃ v, l[i]? = some v := ⟨_, List.getElem?_eq_getElem hlt⟩
    simp [e8, e0, e1, byts_at hv, (q164 v).go]
    cases hc : hi7 v with
    | true =>
      simp
      refine he _ _ _ (by simp) ?_
      simp
      exact (fi_some hv hc hno).symm
    | false =>
      simp [e8, hw]
      refine hn _ _ hlt (by simp) ⟨rfl, fun j v' hj hvj => ?_⟩
      rcases Nat.lt_or_ge j i with h2 | h2
      · exact hno j v' h2 hvj
      · obtain rfl : j = i := by omega
        rw [hv] at hvj
        cases hvj
        exact hc
  · have hge : i = l.length := by have := of_decide_eq_false h; omega
    subst hge
    simp
    refine he _ _ _ (by simp) ?_
    simp
    exact (fi_none hno).symm
theorem q163 (l : List UInt8) (hl : l.length < 2 ^ 21) : Gives Tryz.prog ca 163 [.lst (byts l), .fn (.func 164) [] []] (.sc (.bool (l.any hi7))) := by
  refine gives_run Tryz.func163 rfl rfl rfl rfl (by simp [fzvs]) (by simp [Tryz.f163]) (by simp [Tryz.f163]) fun m => ?_
  simp [Tryz.f163, show ca.keepRes 163 = false from rfl, (q180 l hl).go]
  exact fi_any _ _
/-- Is a cell of its kind? -/
def kindM (c : CeM) : Bool :=
  if c.k = 1 then decide (c.n = 0) && (decide (c.s.length = 0) && decide (c.a.length = 2)) else
  if c.k = 2 then decide (c.n = 0) && decide (c.s.length = 0) else
  if c.k = 3 then decide (c.n = 0) && decide (c.a.length = 0) else
  if c.k = 4 then decide (c.n = 0) && (decide (c.s.length = 0) && decide (c.a.length = 1)) else
  if c.k = 5 then decide (c.s.length = 0) && (decide (c.a.length ≤ 64) && below c.n 1024) else
  decide (5 < c.k) && (decide (c.k ≤ 11) && (decide (c.s.length + c.a.length = 0) && (decide (0 ≤ c.n) && decide (c.n ≤ 4611686018427387904))))
def fitsM (a : ArM) (c : CeM) : Bool := !decide (4096 < c.a.length) && (!decide (4096 < c.s.length) && (!(c.a.any fun v => !goodM a v) && (!c.s.any hi7 && kindM c)))
set_option maxHeartbeats 4000000 in
theorem q107 {X : Nat → Prop} {A : Nat} {a : ArM} {m : Mem} (h : Ar X A a m) (c : CeM) (ha : c.a.length < 2 ^ 21) (hs : c.s.length < 2 ^ 21) : EH Tryz.prog ca (.func 107) [.ptr A 0, ceA c] m (.sc (.bool (fitsM a c))) m := by
  refine eh_run Tryz.func107 rfl rfl rfl rfl (args1 := [.ptr A 0, ceA c]) (m1 := m) (by simp [fzvs]) (by simp) (by simp [Tryz.f107]) (by simp [Tryz.f107]) ?_
  simp only [Tryz.f107, show ca.keepRes 107 = false from rfl]
  have q1 := q162 (h.kp (m' := (m.new [.ptr A 0] false).new (ceA c).cells false) (by simp)) (B := m.next) ⟨by simp, m.clock + 1, by simp⟩ c.a ha
  simp at q1
  by_cases h1 : 4096 < c.a.length
  · have h1' : (4096 : Int) < c.a.length := by omega
    simp [h1', fitsM, h1, undefV, undef]
  have h1' : ¬ (4096 : Int) < c.a.length := by omega
  by_cases h2 : 4096 < c.s.length
  · have h2' : (4096 : Int) < c.s.length := by omega
    simp [h1', h2', fitsM, h1, h2]
  have h2' : ¬ (4096 : Int) < c.s.length := by omega
  have hfit : fitsM a c = (!(c.a.any fun v => !goodM a v) && (!c.s.any hi7 && kindM c)) := by simp [fitsM, h1, h2]
  rw [hfit]
  generalize (c.a.any fun v => !goodM a v) = b1 at q1 ⊢
  have q2 := q163 c.s hs
  generalize c.s.any hi7 = b2 at q2 ⊢
  cases b1 with
  | true =>
    simp [h1', h2', q1.go, undefV, undef]
  | false =>
  cases b2 with
  | true =>
    simp [h1', h2', q1.go, q2.go]
  | false =>
  have hk : ∀ n : Nat, ((n : Int) = 0) = (n = 0) ∧ ((n : Int) = 1) = (n = 1) ∧ ((n : Int) = 2) = (n = 2) ∧ ((n : Int) ≤ 64) = (n ≤ 64) := fun n => by
    refine ⟨propext ?_, propext ?_, propext ?_, propext ?_⟩ <;> omega
  have wl : IntKind.i64.wrap ((c.s.length : Int) + c.a.length) = (c.s.length : Int) + c.a.length := IntWalk.i64_in _ (by omega)
  have wz : ((c.s.length : Int) + c.a.length = 0) = (c.s.length + c.a.length = 0) := propext (by omega)
  simp [h1', h2', q1.go, q2.go]
  unfold kindM
  by_cases k1 : c.k = 1
  · by_cases e1 : c.n = 0
    · by_cases e2 : c.s.length = 0
      · simp [k1, e1, e2, hk]
      · simp [k1, e1, e2, hk, undefV, undef]
    · simp [k1, e1, undefV, undef]
  by_cases k2 : c.k = 2
  · by_cases e1 : c.n = 0
    · simp [k2, e1, hk]
    · simp [k2, e1, undefV, undef]
  by_cases k3 : c.k = 3
  · by_cases e1 : c.n = 0
    · simp [k3, e1, hk]
    · simp [k3, e1, undefV, undef]
  by_cases k4 : c.k = 4
  · by_cases e1 : c.n = 0
    · by_cases e2 : c.s.length = 0
      · simp [k4, e1, e2, hk]
      · simp [k4, e1, e2, hk, undefV, undef]
    · simp [k4, e1, undefV, undef]
  by_cases k5 : c.k = 5
  · by_cases e1 : c.s.length = 0
    · by_cases e2 : c.a.length ≤ 64
      · simp [k5, e1, e2, hk, (q75 c.n 1024).go]
      · simp [k5, e1, e2, hk, undefV, undef]
    · simp [k5, e1, hk, undefV, undef]
  by_cases e1 : 5 < c.k
  · by_cases e2 : c.k ≤ 11
    · by_cases e3 : c.s.length + c.a.length = 0
      · by_cases e4 : 0 ≤ c.n
        · simp [k1, k2, k3, k4, k5, e1, e2, wl, wz, e3, e4]
        · simp [k1, k2, k3, k4, k5, e1, e2, wl, wz, e3, e4, undefV, undef]
      · simp [k1, k2, k3, k4, k5, e1, e2, wl, wz, undefV, undef]
        by_cases z1 : c.s = []
        · have z2 : ¬ c.a = [] := fun z => e3 (by simp [z1, z])
          simp [z1, z2, undefV, undef]
        · simp [z1, undefV, undef]
    · simp [k1, k2, k3, k4, k5, e1, e2, undefV, undef]
  · simp [k1, k2, k3, k4, k5, e1, undefV, undef]
end Go.Proofs.YtnhcmcfgemoehaaGreat
namespace Go.Proofs.YtnhcmcfgemoehaaGreat
set_option maxRecDepth 4000
open Go.V
attribute [local simp] Nat.add_assoc
/-- Which cell a value refers to. -/
def ixM (a : ArM) (v : Val) : Option Nat := if v.1 = 7 ∧ goodM a v = true then some v.2.toNat else none
theorem ixM_some {a : ArM} {v : Val} {i : Nat} (h : ixM a v = some i) : v = (7, (i : Int)) ∧ ∃ c, a.cells[i]? = some c := by
  unfold ixM at h
  split at h
  · rename_i hc
    obtain ⟨k, n⟩ := v
    obtain ⟨h7, hg⟩ := hc
    simp only at h7
    subst h7
    have hb : below n a.cells.length = true := by simpa [goodM] using hg
    simp [below] at hb
    simp only [Option.some.injEq] at h
    have e : n = (i : Int) := by omega
    exact ⟨by rw [e], _, List.getElem?_eq_getElem (by omega)⟩
  · cases h
/-- The block of a slice. -/
def blk : AV → Nat | .sl id _ _ _ _ _ => id | _ => 0
def cellP (a : ArM) (cs : AV) (v : Val) : AV := match ixM a v with | some i => .ptr (blk cs) (i * 4) | none => .sc (.pointer none)
section
variable {X : Nat → Prop} {A M : Nat} {a : ArM} {m : Mem} {t : Nat → Option Nat} {cs ns : AV} {xs : List AV}
set_option maxHeartbeats 4000000 in
theorem q77 (h : ArT t A M cs ns xs a m) (hx : ∀ j, t j ≠ none → X j ∧ j < m.next) (v : Val) : EH Tryz.prog ca (.func 77) [.ptr A 0, valA v] m (cellP a cs v) m := by
  have hAr : Ar X A a m := ⟨t, M, cs, ns, xs, h, hx⟩
  have hA := h.lt
  have k1 : Kp m (m.new [int v.1, int v.2] false) := by simp
  have q1 := q34 (hAr.kp k1)
  have q2 := q41 (hAr.kp k1) v
  obtain ⟨w, hv⟩ := h.get
  have hbel : (cellP a cs v).bel m.next = true := by
    unfold cellP
    cases hi : ixM a v with
    | none => rfl
    | some i =>
      obtain ⟨_, c, hc⟩ := ixM_some hi
      obtain ⟨C, _, x, rfl, hC, _⟩ := h.at hc
      simp [blk, AV.bel, hC]
  refine eh_run Tryz.func77 rfl rfl rfl rfl (args1 := [.ptr A 0, valA v]) (m1 := m) (by simp [fzvs]) hbel (by simp [Tryz.f77]) (by simp [Tryz.f77]) ?_
  simp only [Tryz.f77, show ca.keepRes 77 = false from rfl]
  simp [q1.go]
  by_cases h7 : v.1 = 7
  rotate_left
  · have : cellP a cs v = .sc (.pointer none) := by simp [cellP, ixM, h7]
    rw [this]
    simp [h7, undefV, undef]
  obtain ⟨k, n⟩ := v
  simp only at h7
  subst h7
  have q2' : EH Tryz.prog ca (.func 41) [.ptr A 0, .agg [int 7, int n]] (m.new [int 7, int n] false) (.sc (.bool (goodM a (7, n)))) (m.new [int 7, int n] false) := q2
  simp
  cases hg : goodM a (7, n) with
  | false =>
    have : cellP a cs (7, n) = .sc (.pointer none) := by simp [cellP, ixM, hg]
    rw [this]
    rw [hg] at q2'
    simp [q2'.go]
  | true =>
    rw [hg] at q2'
    obtain ⟨i, hi⟩ : ∃ i, ixM a (7, n) = some i := ⟨n.toNat, by simp [ixM, hg]⟩
    obtain ⟨hvi, c, hc⟩ := ixM_some hi
    obtain ⟨C, vc, x, rfl, hC, htC, hgC, hxi, hzi, hrow⟩ := h.at hc
    have hil := (List.getElem?_eq_some_iff.1 hc).1
    have hix := aindexAddr_sl (P := Tryz.prog) (q := .i64) (ag := true) (c := none) (id := C) (off := 0) (len := a.cells.length) (i := i) Tryz.underlying74 tsize78 hil
    have hcp : cellP a (.sl C 0 a.cells.length 4 true none) (7, n) = .ptr C (i * 4) := by simp [cellP, hi, blk]
    rw [hcp]
    have nA : A ≠ m.next := by omega
    have hv2 : n = (i : Int) := by cases hvi; rfl
    simp [q2'.go]
    refine go_draw0 (by kernel_rfl) (by kernel_rfl) ?_
    simp [hv, nA, hv2, hix]
end
theorem Fresh.fz {m0 m m' : Mem} {x : AV} {l : List Val} (h : Fresh m m' x l) (h0 : m0.next ≤ m.next) (k : Kp m0 m') : ∃ m2, fz1 m' x = (.lst (vals l), m2) ∧ Kp m0 m2 := by
  rcases h with ⟨rfl, rfl⟩ | ⟨h, id, v, rfl, h1, h2, h3⟩
  · exact ⟨m', rfl, k⟩
  · have e := fz1_row (k := 2) (ag := true) (cap := none) (ys := vals l) rfl h3 (vals_row l) (vals_ok l)
    rw [vals_length] at e
    exact ⟨_, e, k.mark (by omega) _ _⟩
/-- A cell that is told. -/
def zeroC : CeM := ⟨0, 0, [], []⟩
def getM (a : ArM) (v : Val) : CeM × Int := match ixM a v with | some i => (a.cells.getD i zeroC, 0) | none => (zeroC, 110)
theorem eq135 {x y : Operand} {i j : Nat} : abin Tryz.prog .eql 135 x y (.ptr i j) (.sc (.pointer none)) = some (.sc (.bool false)) := by
  have : nilTest Tryz.prog 135 (.ptr i j) (.sc (.pointer none)) = some false := by
    unfold nilTest
    rw [Tryz.underlying135]
  simp [abin, plain, this]
theorem nil135 {x y : Operand} : abin Tryz.prog .eql 135 x y (.sc (.pointer none)) (.sc (.pointer none)) = some (.sc (.bool true)) := by kernel_rfl
theorem build78 : abuild Tryz.prog 78 [] = some (.agg [int 0, int 0, .emp 0, .emp 0]) := by simp [abuild, placesOf, fillAt]
section
variable {X : Nat → Prop} {A : Nat} {a : ArM} {m : Mem}
/-- No cell has more than may be. -/
def Small (a : ArM) : Prop := ∀ c ∈ a.cells, c.a.length ≤ 4096 ∧ c.s.length ≤ 4096
set_option maxHeartbeats 4000000 in
theorem q57 (hA : Ar X A a m) (hs : Small a) (v : Val) : EH Tryz.prog ca (.func 57) [.ptr A 0, valA v] m (.tup [ceA (getM a v).1, int (getM a v).2]) m := by
  refine eh_run Tryz.func57 rfl rfl rfl rfl (args1 := [.ptr A 0, valA v]) (m1 := m) (by simp [fzvs]) (by simp [AV.bel, AV.bels]) (by simp [Tryz.f57]) (by simp [Tryz.f57]) ?_
  have k1 : Kp m ((m.new [int v.1, int v.2] false).new [int 0, int 0, .emp 0, .emp 0] false) := by simp
  have q1 := q34 (hA.kp k1)
  obtain ⟨t, M, cs, ns, xs, h, hx⟩ := hA.kp k1
  have q2 := q77 h hx v
  simp only [Tryz.f57, show ca.keepRes 57 = false from rfl]
  simp [q1.go, valA_agg, q2.go]
  cases hi : ixM a v with
  | none =>
    have e1 : cellP a cs v = .sc (.pointer none) := by simp [cellP, hi]
    simp [e1, nil135, build78, getM, hi, ceA, zeroC]
  | some i =>
    obtain ⟨rfl, c, hc⟩ := ixM_some hi
    obtain ⟨C, vc, x, rfl, hC, htC, hgC, hxi, hzi, hrow⟩ := h.at hc
    have e1 : cellP a (.sl C 0 a.cells.length 4 true none) (7, (i : Int)) = .ptr C (i * 4) := by simp [cellP, hi, blk]
    obtain ⟨f1, f2⟩ := flat_at (zip_ok a.cells xs) hzi
    have hsm := hs c (List.mem_of_getElem? hc)
    simp [e1, eq135, hgC, f1, f2]
    have hget : getM a (7, (i : Int)) = (c, 0) := by simp [getM, hi, List.getD_eq_getElem?_getD, hc]
    rw [hget]
    refine goH_of (q64 (c := c) (x0 := x) (.of hrow) hsm.1 hsm.2) ?_
    rintro _ m2 ⟨k2, x2, rfl, hf⟩
    have ok := hf.okc
    have g2 : m2.get (m.next + 1) = some (.cells [int 0, int 0, .emp 0, .emp 0] false (m.clock + 2)) := by rw [k2.get (m.next + 1) (by simp)]; simp
    simp [rowA, g2]
    obtain ⟨m3, z1, z2⟩ := (hf.keep (m2 := m2.set (m.next + 1) [int c.k, int c.n, x2, .lst (byts c.s)]) (m0 := m) (by simp) (by simp) fun j hj _ => by
      simp at hj
      have : j ≠ m.next + 1 := by omega
      simp [this]).fz (m0 := m) (Nat.le_refl _) (((k1.trans k2).set (by omega) _))
    simp [fzs, z1, z2, ceA]
end
end Go.Proofs.YtnhcmcfgemoehaaGreat

/- A new arena, a new cell. -/
set_option linter.unusedSimpArgs false
set_option linter.unusedVariables false
set_option linter.unusedSectionVars false
namespace Go.Proofs.YtnhcmcfgemoehaaGreat
set_option maxRecDepth 4000
open Go.V
attribute [local simp] Nat.add_assoc
theorem q20 {m : Mem} {n : Int} (h1 : 1 ≤ n) (h2 : n ≤ 65536) : EH Tryz.prog ca (.func 20) [int n] m (.tup [.ptr (m.next + 1) 0, int 0]) (m.newMap.new [int n, .emp 0, .emp 0, .mp m.next] false) := by
  have a1 : ¬ n < 1 := by omega
  have a2 : ¬ 65536 < n := by omega
  refine eh_of ?_
  refine wph_go Tryz.func20 rfl rfl (by simp [Tryz.f20]) (by simp [Tryz.f20]) fun Q hQ => ?_
  simp only [Tryz.f20, show ca.keepRes 20 = false from rfl, show ca.keepArgs 20 = false from rfl] at hQ ⊢
  simp [a1, a2, amakeMap_none tmap89, abuild, placesOf, fillAt]
  refine hQ _ _ _ ?_
  simp
theorem ar_new {m : Mem} {n : Int} (h1 : 1 ≤ n) (h2 : n ≤ 65536) : Ar (fun j => m.next ≤ j) (m.next + 1) ⟨n, [], []⟩ (m.newMap.new [int n, .emp 0, .emp 0, .mp m.next] false) := by
  refine ⟨fun j => if j = m.next + 1 then some 0 else if j = m.next then some 3 else none, m.next, .emp 0, .emp 0, [], ⟨by simp, by simp, ⟨_, by simp; rfl⟩, by simp, by simp, ⟨_, by simp [symE]; rfl⟩, .inl ⟨rfl, rfl⟩, .inl ⟨rfl, rfl⟩, rfl, fun i c x h => by simp at h, h1, h2, by simp; omega, by simp⟩, fun j hj => ?_⟩
  dsimp only at hj
  split at hj
  · rename_i e; subst e; simp
  · split at hj
    · rename_i e; subst e; simp
    · exact absurd rfl hj
def pushM (a : ArM) (c : CeM) : ArM := ⟨a.room, a.cells ++ [c], a.names⟩
def allocM (a : ArM) (c : CeM) : ArM × Val × Int := if fitsM a c = true then (if a.room ≤ a.cells.length then (a, (0, 0), 111) else (pushM a c, (7, (a.cells.length : Int)), 0)) else (a, (0, 0), 110)
theorem zip_snoc {c : CeM} {x : AV} : ∀ (l : List CeM) (xs : List AV), xs.length = l.length → List.zipWith rowA (l ++ [c]) (xs ++ [x]) = List.zipWith rowA l xs ++ [rowA c x] := by
  intro l xs h
  rw [List.zipWith_append h.symm]
  rfl
/-- A cell more. -/
theorem ar_push {X : Nat → Prop} {A M N : Nat} {a : ArM} {c : CeM} {m m' : Mem} {t : Nat → Option Nat} {cs ns x : AV} {xs : List AV} (h : ArT t A M cs ns xs a m) (hx : ∀ j, t j ≠ none → X j ∧ j < m.next)
    (k : KpC (fun j => j = A ∨ owns cs j) m m') (hN : m.next ≤ N) (hN2 : N < m'.next) (hgN : ∃ v, m'.get N = some (.cells (flat (List.zipWith rowA a.cells xs ++ [rowA c x])) false v)) (hgA : ∃ v, m'.get A = some (.cells [int a.room, .sl N 0 (a.cells.length + 1) 4 true none, ns, .mp M] false v))
    (hf : Fresh m m' x c.a) (hxN : ¬ owns x N) (hr : (a.cells.length : Int) < a.room) : Up X A (pushM a c) m m' := by
  obtain ⟨lt, ta, ⟨v, get⟩, ml, tm, ⟨v2, map⟩, cells, names, len, row, sane⟩ := h
  have hC : ∀ j, owns cs j → t j = some 1 := by
    intro j hj
    rcases cells with ⟨_, rfl⟩ | ⟨_, C, w, rfl, _, h2, _⟩
    · exact hj.elim
    · have : C = j := hj
      rw [← this]; exact h2
  have tc : ∀ j n, j < m.next → t j = some n → n ≠ 0 → n ≠ 1 → m'.get j = m.get j ∧ (m'.loop j = m.loop j ∧ m'.map j = m.map j) := by
    intro j n hj ht h0 h1
    have hn : ¬ (j = A ∨ owns cs j) := by
      rintro (rfl | h)
      · rw [ta] at ht; cases ht; exact h0 rfl
      · rw [hC j h] at ht; cases ht; exact h1 rfl
    exact ⟨k.get j hj hn, k.x j hj hn⟩
  have kn := k.next
  have told : ∀ j, j < m.next → (if j < m.next then t j else if j < m'.next then (if j = N then some 1 else some (4 + a.cells.length)) else none) = t j := fun j hj => if_pos hj
  refine ⟨fun j => X j ∨ m.next ≤ j, ⟨fun j => if j < m.next then t j else if j < m'.next then (if j = N then some 1 else some (4 + a.cells.length)) else none, M, .sl N 0 (a.cells.length + 1) 4 true none, ns, xs ++ [x], ⟨by omega, (told A lt).trans ta, hgA, by omega, (told M ml).trans tm, ⟨v2, by rw [(tc M 3 ml tm (by omega) (by omega)).2.2]; exact map⟩, ?_, ?_, by simp [pushM, len], ?_, ?_⟩, ?_⟩, ?_, fun j h => h⟩
  · obtain ⟨w, hw⟩ := hgN
    refine .inr ⟨by simp [pushM, zip_snoc _ _ len], N, w, by simp [pushM, zip_snoc _ _ len, len], hN2, ?_, by simp only [pushM, zip_snoc _ _ len]; exact hw⟩
    have : ¬ N < m.next := by omega
    simp [this, hN2]
  · refine names.mono kn fun j hj ht => ⟨(tc j 2 hj ht (by omega) (by omega)).1, (told j hj).trans ht⟩
  · intro i c' x' hc' hx'
    simp only [pushM] at hc'
    rcases Nat.lt_or_ge i a.cells.length with hi | hi
    · rw [List.getElem?_append_left hi] at hc'
      rw [List.getElem?_append_left (by omega)] at hx'
      refine (row i c' x' hc' hx').mono kn fun j hj ht => ⟨(tc j (4 + i) hj ht (by omega) (by omega)).1, (told j hj).trans ht⟩
    · have hlen := (List.getElem?_eq_some_iff.1 hc').1
      simp at hlen
      obtain rfl : i = a.cells.length := by omega
      rw [List.getElem?_append_right (by omega)] at hc'
      rw [List.getElem?_append_right (by omega), len] at hx'
      simp at hc' hx'
      subst hc'
      subst hx'
      rcases hf with ⟨e1, e2⟩ | ⟨h, id, w, rfl, h1, h2, h3⟩
      · exact .inl ⟨by rw [e1]; rfl, e2⟩
      · refine .inr ⟨by cases hca : c.a with | nil => exact absurd hca h | cons y l => simp [vals_cons], id, w, by simp, h2, ?_, h3⟩
        have a1 : ¬ id < m.next := by omega
        have a2 : id ≠ N := fun e => hxN e
        simp [a1, h2, a2]
  · obtain ⟨s1, s2, s3, s4⟩ := sane
    exact ⟨s1, s2, by simp [pushM]; omega, s4⟩
  · intro j hj
    dsimp only at hj
    by_cases h1 : j < m.next
    · rw [if_pos h1] at hj
      exact ⟨.inl (hx j hj).1, by omega⟩
    · rw [if_neg h1] at hj
      by_cases h2 : j < m'.next
      · exact ⟨.inr (by omega), h2⟩
      · rw [if_neg h2] at hj
        exact absurd rfl hj
  · refine k.mono fun j hj => ?_
    rcases hj with rfl | hj
    · exact (hx j (by rw [ta]; simp)).1
    · exact (hx j (by rw [hC j hj]; simp)).1
theorem Has.acc {t : Nat → Option Nat} {n k : Nat} {ag : Bool} {m : Mem} {x : AV} {ys : List AV} (h : Has t n k ag (.emp 0) m x ys) : Acc Mem.empty m k ag ys x := by
  rcases h with h | ⟨h, id, v, h1, h2, _, h3⟩
  · exact .inl h
  · exact .inr ⟨h, id, v, h1, Nat.zero_le _, h2, h3⟩
theorem build51 : abuild Tryz.prog 51 [] = some (.agg [int 0, int 0]) := by simp [abuild, placesOf, fillAt]
theorem build51b (x y : Int) : abuild Tryz.prog 51 [(0, int x), (1, int y)] = some (valA (x, y)) := by simp [abuild, placesOf, fillAt, valA]
set_option maxHeartbeats 4000000 in
theorem q60 {X : Nat → Prop} {A : Nat} {a : ArM} {m : Mem} (hA : Ar X A a m) (c : CeM) (ha : c.a.length < 2 ^ 21) (hs : c.s.length < 2 ^ 21) : wph Tryz.prog ca (.func 60) [.ptr A 0, ceA c] m fun v m' => v = .tup [valA (allocM a c).2.1, int (allocM a c).2.2] ∧ Up X A (allocM a c).1 m m' := by
  refine wph_go Tryz.func60 rfl rfl (by simp [Tryz.f60]) (by simp [Tryz.f60]) fun Q hQ => ?_
  simp only [Tryz.f60, show ca.keepRes 60 = false from rfl, show ca.keepArgs 60 = false from rfl] at hQ ⊢
  have k1 : Kp m ((m.new (ceA c).cells false).new [int 0, int 0] false) := by simp
  have q1 := q34 (hA.kp k1)
  have q2 := q107 (hA.kp k1) c ha hs
  have hA1 := hA.kp k1
  simp only [ceA_cells] at k1 q1 q2 hA1
  have ecA : AV.agg [int c.k, int c.n, .lst (vals c.a), .lst (byts c.s)] = ceA c := rfl
  simp [q1.go, ecA, q2.go]
  unfold allocM at hQ
  cases hfit : fitsM a c with
  | false =>
    rw [hfit] at hQ
    simp [build51]
    refine hQ _ _ _ ?_
    rw [leave_ret]
    simp [aresult, oneOf, valA]
    exact Up.kp hA (by simp)
  | true =>
    rw [hfit] at hQ
    obtain ⟨t, M, cs, ns, xs, h0, hx0⟩ := id hA
    have h := h0.kc (Y := fun _ => False) (.of (.of k1)) fun _ _ _ _ h => h
    have hx : ∀ j, t j ≠ none → X j ∧ j < m.next := hx0
    have ownC : ∀ j, owns cs j → j < m.next ∧ t j = some 1 := by
      intro j hj
      rcases h0.cells with ⟨_, rfl⟩ | ⟨_, C, u, rfl, hc1, hc2, _⟩
      · exact hj.elim
      · have e : C = j := hj
        subst e
        exact ⟨hc1, hc2⟩
    obtain ⟨w, hv⟩ := h.get
    have hAlt := h.lt
    have lc := fun m' R => len_has (T := 74) (R := R) (m' := m') h.cells Tryz.underlying74
    simp only [List.length_zipWith, h.len, Nat.min_self] at lc
    simp
    refine go_draw0 (by kernel_rfl) (by kernel_rfl) ?_
    simp [hv, lc]
    refine goB_split (fun hr => ?_) fun hr => ?_
    · have hr' : a.room ≤ a.cells.length := by simpa using hr
      simp [build51]
      refine hQ _ _ _ ?_
      rw [leave_ret]
      simp [aresult, oneOf, valA, hr']
      exact Up.kp hA (by simp)
    · have hr' : ¬ a.room ≤ a.cells.length := by simpa using hr
      rw [if_pos rfl, if_neg hr'] at hQ
      have hcs : c.a.length ≤ 4096 ∧ c.s.length ≤ 4096 := by
        have := hfit
        simp [fitsM] at this
        omega
      have nA : A ≠ m.next := by have := hA.lt; omega
      have nA1 : A ≠ m.next + 1 := by have := hA.lt; omega
      simp
      refine go_drawD (by kernel_rfl) ?_
      simp [hv]
      refine goH_of (q64 (c := c) (x0 := .lst (vals c.a)) (.inl rfl) hcs.1 hcs.2) ?_
      rintro _ m2 ⟨k2, x2, rfl, hf⟩
      have hv2 := (k2.get A (by have := hA.lt; simp; omega)).trans hv
      have n2 := k2.next
      simp at n2
      have hsrc := src_one (m := m2.new (rowA c x2).cells false) (id := m2.next) (c := some 1) (k := 4) (ag := true) (x := rowA c x2) (w := m2.clock + 1) (f := false) rfl (by simp) (by simp) (rowA_agg c x2)
      obtain ⟨m3, p1, p2, ⟨w3, p3⟩, p4, p5⟩ := acc_app2 (T := 74) ((h.cells.acc.kp k2).kp (.new m2 (rowA c x2).cells false)) (zip_ok _ _) el74 (zs := [rowA c x2]) (zs' := [rowA c x2]) (List.cons_ne_nil _ _) (by simp [okAll_cons, okAll_nil]) (by simp) (.refl _) (by have := h.sane; simp [h.len]; omega)
      simp only [rowA_cells] at hsrc p1 p2 p3 p4 p5
      have nA2 : A < m2.next := by have := hA.lt; omega
      have nA3 : A ≠ m2.next := by omega
      have wl : IntKind.i64.wrap ((a.cells.length : Int) + 1 - 1) = (a.cells.length : Int) := by rw [IntWalk.i64_in _ (by have := h.sane; omega)]; omega
      have nown : ¬ owns cs A := fun hh => by
        have := (ownC A hh).2
        rw [h.ta] at this
        cases this
      have hb3 : m3.get (m.next + 1) = some (.cells [int 0, int 0] false (m.clock + 2)) := by
        rw [p4 (m.next + 1) (by simp; omega) (fun hh => by have := (ownC _ hh).1; omega)]
        have : m.next + 1 ≠ m2.next := by omega
        simp [this]
        rw [k2.get (m.next + 1) (by simp)]
        simp
      have hv3 : m3.get A = some (.cells [int a.room, cs, ns, .mp M] false w) := by
        rw [p4 A (by simp; omega) nown]
        have : A ≠ m2.next := by omega
        simp [this]
        exact hv2
      simp [rowA, abuildSlice, zeros, fillAt]
      simp [rowA] at hsrc p1
      simp [abuiltin, hsrc, p1, hv3]
      refine goM_of (l := [(4, 6), (4, 7)]) (by kernel_rfl) (?_ : List.all _ _ = true) ?_
      · simp [metAtD, metOkD, rank, verKeptD, Region.wanted, Mem.ver, hv, hv2, nA, nA1, nA3]
      have nA4 := Ne.symm nA1
      simp [hv3, alen_sl Tryz.underlying74, h.len, wl, build51b, hb3, nA1, nA4]
      refine hQ _ _ _ ?_
      rw [leave_ret]
      have wl2 : IntKind.i64.wrap (a.cells.length : Int) = (a.cells.length : Int) := IntWalk.i64_in _ (by have := h.sane; omega)
      simp [aresult, oneOf, wl2]
      refine ⟨rfl, ?_⟩
      have p5n : m2.next + 1 < m3.next := by rw [p2]; simp
      have kc : KpC (fun j => j = A ∨ owns cs j) m ((m3.set A [int a.room, AV.sl (m2.next + 1) 0 (a.cells.length + 1) 4 true none, ns, AV.mp M]).set (m.next + 1) [int 7, int a.cells.length]) := by
        refine ⟨by simp; omega, fun j hj hn => ?_, fun j hj hn => ?_⟩
        · have a1 : j ≠ A := fun e => hn (.inl e)
          have a2 : ¬ owns cs j := fun e => hn (.inr e)
          have a3 : j ≠ m.next + 1 := by omega
          have a4 : j ≠ m2.next := by omega
          have a5 : j ≠ m.next := by omega
          have := p4 j (by simp; omega) a2
          simp [a4] at this
          simp [a1, a3, this]
          rw [k2.get j (by simp; omega)]
          simp [a3, a5]
        · have b1 := p5 j (by simp; omega)
          have b2 := k2.x j (by simp; omega)
          simp at b1 b2
          simp
          exact ⟨b1.1.trans b2.1, b1.2.trans b2.2⟩
      refine ar_push (N := m2.next + 1) (x := x2) h0 hx0 kc (by omega) (by simp; omega) ⟨w3, ?_⟩ ⟨m3.clock + 1, ?_⟩ (hf.keep (by simp) (by simp; omega) fun j hj1 hj2 => ?_) (fun hh => ?_) (by omega)
      · have b1 : m2.next + 1 ≠ A := by omega
        have b2 : m2.next ≠ m.next := by omega
        simp [b1, b2]
        simpa using p3
      · simp [nA1]
      · simp at hj1
        have b1 : j ≠ A := by have := hA.lt; omega
        have b2 : j ≠ m.next + 1 := by omega
        have b3 : j ≠ m2.next := by omega
        have := p4 j (by simp; omega) (fun hh => by have := (ownC _ hh).1; omega)
        simp [b3] at this
        simp [b1, b2, this]
      · rcases hf with ⟨_, rfl⟩ | ⟨_, id, u, rfl, _, hid, _⟩
        · exact hh
        · have e : id = m2.next + 1 := hh
          omega
end Go.Proofs.YtnhcmcfgemoehaaGreat
namespace Go.Proofs.YtnhcmcfgemoehaaGreat
set_option maxRecDepth 4000
open Go.V
attribute [local simp] Nat.add_assoc
def nameM (a : ArM) (s : List UInt8) : ArM := ⟨a.room, a.cells, a.names ++ [s]⟩
def symM (a : ArM) (s : List UInt8) : ArM × Val × Int :=
  if Sym s = true then (match a.names.findIdx? fun x => decide (x = s) with
    | some i => (a, (5, (i : Int)), 0)
    | none => if 4096 ≤ a.names.length then (a, (0, 0), 111) else (nameM a s, (5, (a.names.length : Int)), 0)) else (a, (0, 0), 110)
theorem symE_keys : ∀ (l : List (List UInt8)) (i : Nat), (symE i l).map (·.1) = l.map fun s => Value.string ⟨⟨s⟩⟩
  | [], _ => rfl
  | s :: l, i => by simp [symE, symE_keys l (i + 1)]
theorem symE_get : ∀ (l : List (List UInt8)) (i k : Nat) (s : List UInt8), l[k]? = some s → (symE i l)[k]? = some (.string ⟨⟨s⟩⟩, int ((i + k : Nat) : Int), i + k)
  | [], _, k, _, h => by simp at h
  | x :: l, i, 0, s, h => by simp at h; subst h; simp [symE]
  | x :: l, i, k + 1, s, h => by
    have := symE_get l (i + 1) k s (by simpa using h)
    simp [symE, this]
    omega
theorem symE_snoc : ∀ (l : List (List UInt8)) (i : Nat) (s : List UInt8), symE i (l ++ [s]) = symE i l ++ [(.string ⟨⟨s⟩⟩, int ((i + l.length : Nat) : Int), i + l.length)]
  | [], i, s => by simp [symE]
  | x :: l, i, s => by
    simp [symE, symE_snoc l (i + 1) s]
    omega
theorem ar_name {X : Nat → Prop} {A M N : Nat} {a : ArM} {s : List UInt8} {m m' : Mem} {t : Nat → Option Nat} {cs ns : AV} {xs : List AV} (h : ArT t A M cs ns xs a m) (hx : ∀ j, t j ≠ none → X j ∧ j < m.next)
    (k : KpC (fun j => j = A ∨ j = M ∨ owns ns j) m m') (hN : m.next ≤ N) (hN2 : N < m'.next) (hgN : ∃ v, m'.get N = some (.cells (flat ((a.names ++ [s]).map strA)) false v)) (hgA : ∃ v, m'.get A = some (.cells [int a.room, cs, .sl N 0 (a.names.length + 1) 1 false none, .mp M] false v))
    (hM : ∃ v, m'.map M = some ⟨symE 0 (a.names ++ [s]), a.names.length + 1, v⟩) (hl : a.names.length < 4096) : Up X A (nameM a s) m m' := by
  obtain ⟨lt, ta, ⟨v, get⟩, ml, tm, ⟨v2, map⟩, cells, names, len, row, sane⟩ := h
  have hC : ∀ j, owns ns j → t j = some 2 := by
    intro j hj
    rcases names with ⟨_, rfl⟩ | ⟨_, C, w, rfl, _, h2, _⟩
    · exact hj.elim
    · have : C = j := hj
      rw [← this]; exact h2
  have tc : ∀ j n, j < m.next → t j = some n → n ≠ 0 → n ≠ 2 → n ≠ 3 → m'.get j = m.get j := by
    intro j n hj ht h0 h1 h3
    refine k.get j hj ?_
    rintro (rfl | rfl | h)
    · rw [ta] at ht; cases ht; exact h0 rfl
    · rw [tm] at ht; cases ht; exact h3 rfl
    · rw [hC j h] at ht; cases ht; exact h1 rfl
  have kn := k.next
  have told : ∀ j, j < m.next → (if j < m.next then t j else if j = N then some 2 else none) = t j := fun j hj => if_pos hj
  refine ⟨fun j => X j ∨ m.next ≤ j, ⟨fun j => if j < m.next then t j else if j = N then some 2 else none, M, cs, .sl N 0 (a.names.length + 1) 1 false none, xs, ⟨by omega, (told A lt).trans ta, hgA, by omega, (told M ml).trans tm, by simpa [nameM] using hM, ?_, ?_, len, ?_, ?_⟩, ?_⟩, ?_, fun j h => h⟩
  · exact cells.mono kn fun j hj ht => ⟨tc j 1 hj ht (by omega) (by omega) (by omega), (told j hj).trans ht⟩
  · obtain ⟨w, hw⟩ := hgN
    have : ¬ N < m.next := by omega
    exact .inr ⟨by simp [nameM], N, w, by simp [nameM], hN2, by simp [this], hw⟩
  · intro i c x hc hx'
    exact (row i c x hc hx').mono kn fun j hj ht => ⟨tc j (4 + i) hj ht (by omega) (by omega) (by omega), (told j hj).trans ht⟩
  · obtain ⟨s1, s2, s3, s4⟩ := sane
    exact ⟨s1, s2, s3, by simp [nameM]; omega⟩
  · intro j hj
    dsimp only at hj
    by_cases h1 : j < m.next
    · rw [if_pos h1] at hj
      exact ⟨.inl (hx j hj).1, by omega⟩
    · rw [if_neg h1] at hj
      by_cases h2 : j = N
      · subst h2; exact ⟨.inr hN, hN2⟩
      · rw [if_neg h2] at hj
        exact absurd rfl hj
  · refine k.mono fun j hj => ?_
    rcases hj with rfl | rfl | hj
    · exact (hx j (by rw [ta]; simp)).1
    · exact (hx j (by rw [tm]; simp)).1
    · exact (hx j (by rw [hC j hj]; simp)).1
theorem okAll_str (l : List (List UInt8)) : okAll 1 (l.map strA) = true := by
  induction l with
  | nil => rfl
  | cons s l ih => rw [List.map_cons, okAll_cons, ih]; simp
set_option maxHeartbeats 4000000 in
theorem q59 {X : Nat → Prop} {A : Nat} {a : ArM} {m : Mem} (hA : Ar X A a m) (s : List UInt8) (hs : s.length < 2 ^ 62) : wph Tryz.prog ca (.func 59) [.ptr A 0, strA s] m fun v m' => v = .tup [valA (symM a s).2.1, int (symM a s).2.2] ∧ Up X A (symM a s).1 m m' := by
  refine wph_go Tryz.func59 rfl rfl (by simp [Tryz.f59]) (by simp [Tryz.f59]) fun Q hQ => ?_
  simp only [Tryz.f59, show ca.keepRes 59 = false from rfl, show ca.keepArgs 59 = false from rfl] at hQ ⊢
  have k1 : Kp m (m.new [int 0, int 0] false) := by simp
  have q1 := q34 (hA.kp k1)
  have q2 := ca_gives (g12 s hs)
  simp [q1.go, q2.go]
  unfold symM at hQ
  cases hsy : Sym s with
  | false =>
    rw [hsy] at hQ
    simp [build51]
    refine hQ _ _ _ ?_
    rw [leave_ret]
    simp [aresult, oneOf, valA]
    exact Up.kp hA (by simp)
  | true =>
    rw [hsy, if_pos rfl] at hQ
    obtain ⟨t, M, cs, ns, xs, h0, hx0⟩ := id hA
    have h := h0.kc (Y := fun _ => False) (.of (.of k1)) fun _ _ _ _ h => h
    obtain ⟨w, hv⟩ := h.get
    obtain ⟨w2, hmap⟩ := h.map
    have hl := alookup_str (P := Tryz.prog) (ok := true) tmap89 Tryz.underlying9 hmap (symE_keys a.names 0) s
    have nA : A ≠ m.next := by have := hA.lt; omega
    have hAlt := hA.lt
    simp [hv]
    cases hf : a.names.findIdx? fun x => decide (x = s) with
    | some i =>
      rw [hf] at hl hQ
      have hi : i < a.names.length := by
        rw [List.findIdx?_eq_some_iff_getElem] at hf
        exact hf.1
      have hg := symE_get a.names 0 i _ (List.getElem?_eq_getElem hi)
      simp only [hg, Nat.zero_add] at hl
      have wi : IntKind.i64.wrap (i : Int) = (i : Int) := IntWalk.i64_in _ (by have := h.sane; omega)
      simp [hl, build51b, wi]
      refine hQ _ _ _ ?_
      rw [leave_ret]
      simp [aresult, oneOf]
      exact ⟨rfl, Up.kp hA (by simp)⟩
    | none =>
      rw [hf] at hl hQ
      simp only [tzero3, Option.map_some] at hl
      have ln := fun m' R => len_has (T := 85) (R := R) (m' := m') h.names Tryz.underlying85
      simp only [List.length_map] at ln
      simp [hl, hv, ln]
      refine goB_split (fun hr => ?_) fun hr => ?_
      · have hr' : 4096 ≤ a.names.length := by have := of_decide_eq_true hr; omega
        dsimp only at hQ
        rw [if_pos hr'] at hQ
        simp [build51]
        refine hQ _ _ _ ?_
        rw [leave_ret]
        simp [aresult, oneOf]
        exact ⟨rfl, Up.kp hA (by simp)⟩
      · have hr' : ¬ 4096 ≤ a.names.length := by have := of_decide_eq_false hr; omega
        dsimp only at hQ
        rw [if_neg hr'] at hQ
        have hu := amapUpdate_new (P := Tryz.prog) tmap89 Tryz.underlying9 hmap (symE_keys a.names 0) hf (int a.names.length)
        have ownC : ∀ j, owns ns j → j < m.next ∧ t j = some 2 := by
          intro j hj
          rcases h0.names with ⟨_, rfl⟩ | ⟨_, C, u, rfl, hc1, hc2, _⟩
          · exact hj.elim
          · have e : C = j := hj
            subst e
            exact ⟨hc1, hc2⟩
        have nM : M ≠ A := fun e => by have q := h0.tm; rw [e, h0.ta] at q; cases q
        have nown : ∀ j, owns ns j → ¬ j = M := fun j hj e => by have q := (ownC j hj).2; rw [e, h0.tm] at q; cases q
        have nownA : ¬ owns ns A := fun hh => by have q := (ownC A hh).2; rw [h0.ta] at q; cases q
        obtain ⟨M1, hM1⟩ : ∃ M1, M1 = (m.new [int 0, int 0] false).setMap M (symE 0 a.names ++ [(.string ⟨⟨s⟩⟩, int a.names.length, a.names.length)]) (a.names.length + 1) := ⟨_, rfl⟩
        have g1 : ∀ j, M1.get j = (m.new [int 0, int 0] false).get j := fun j => by rw [hM1]; simp
        have n1 : M1.next = m.next + 1 := by rw [hM1]; simp
        have kM : KpC (fun j => j = M) m M1 := ⟨by omega, fun j hj _ => by rw [g1, Mem.get_new, if_neg (by omega)], fun j hj hn => by rw [hM1]; simp [show j ≠ M from hn, Ne.symm (show j ≠ M from hn)]⟩
        have hvA : M1.get A = some (.cells [int a.room, cs, ns, .mp M] false w) := by rw [g1]; exact hv
        have hsrc := src_one (m := M1.new (strA s).cells false) (id := M1.next) (c := some 1) (k := 1) (ag := false) (x := strA s) (w := M1.clock + 1) (f := false) rfl (by simp) (by simp) (by simp)
        obtain ⟨m3, p1, p2, ⟨w3, p3⟩, p4, p5⟩ := acc_app2 (T := 85) ((acc_keptC h0.names.acc kM nown).kp (.new M1 (strA s).cells false)) (okAll_str _) el85 (zs := [strA s]) (zs' := [strA s]) (List.cons_ne_nil _ _) (by simp [okAll_cons, okAll_nil]) (by simp) (.refl _) (by simp; omega)
        have hv3 : m3.get A = some (.cells [int a.room, cs, ns, .mp M] false w) := by
          rw [p4 A (by simp; omega) nownA]
          have : A ≠ M1.next := by omega
          simp [this]
          exact hvA
        simp [hv, hu, abuildSlice, zeros, fillAt]
        rw [← hM1]
        simp [n1] at hsrc p1
        have wl : IntKind.i64.wrap (a.names.length : Int) = (a.names.length : Int) := IntWalk.i64_in _ (by omega)
        have nA4 : m.next ≠ A := Ne.symm nA
        have hb3 : m3.get m.next = some (.cells [int 0, int 0] false (m.clock + 1)) := by
          rw [p4 m.next (by simp; omega) (fun hh => by have := (ownC _ hh).1; omega)]
          have : m.next ≠ M1.next := by omega
          simp [this, g1]
        simp [abuiltin, hsrc, p1, hv3, build51b, wl, hb3, nA4, nA]
        refine hQ _ _ _ ?_
        rw [leave_ret]
        simp [aresult, oneOf, wl]
        refine ⟨rfl, ?_⟩
        simp at p2 p3
        refine ar_name (N := m.next + 2) h0 hx0 (⟨by simp; omega, fun j hj hn => ?_, fun j hj hn => ?_⟩ : KpC (fun j => j = A ∨ j = M ∨ owns ns j) m _) (by omega) (by simp; omega) ⟨w3, ?_⟩ ⟨m3.clock + 1, ?_⟩ ?_ (by omega)
        · have a1 : j ≠ A := fun e => hn (.inl e)
          have a2 : ¬ owns ns j := fun e => hn (.inr (.inr e))
          have a3 : j ≠ m.next := by omega
          have := p4 j (by simp; omega) a2
          simp [show j ≠ M1.next by omega, g1, a3] at this
          simp [a1, a3, this]
        · have a2 : j ≠ M := fun e => hn (.inr (.inl e))
          have b1 := p5 j (by simp; omega)
          have b2 := kM.x j hj a2
          simp at b1 b2
          simp
          exact ⟨b1.1.trans b2.1, b1.2.trans b2.2⟩
        · have b1 : m.next + 2 ≠ A := by omega
          simp [b1]
          rw [n1] at p3
          simpa using p3
        · simp [nA]
        · have b1 := p5 M (by have := h0.ml; simp; omega)
          simp at b1
          refine ⟨?_, ?_⟩
          rotate_left
          · simp [b1.2]
            rw [hM1]
            simp [symE_snoc]
            rfl
end Go.Proofs.YtnhcmcfgemoehaaGreat

/- Going through a list from its end. -/
set_option linter.unusedSimpArgs false
set_option linter.unusedVariables false
set_option linter.unusedSectionVars false
namespace Go.Proofs.YtnhcmcfgemoehaaGreat
set_option maxRecDepth 4000
open Go.V
attribute [local simp] Nat.add_assoc
set_option maxHeartbeats 4000000 in
theorem back108 {J : Nat → Mem → Prop} {lo db : Nat} (l : List Dat) (hl : l.length < 2 ^ 21)
    (hJ : ∀ k x m, l[k]? = some x → J (k + 1) m → wph Tryz.prog ca (.yield lo) [int k, enc x] m fun v m' => v = .sc (.bool true) ∧ J k m')
    (hb : ∀ k m, J k m → has m db [.lst (encs l)]) (m : Mem) (h : J l.length m) : wph Tryz.prog ca (.func 108) [.yl lo, .ptr db 0] m fun v m' => v = .tup [] ∧ J 0 m' := by
  refine wph_go Tryz.func108 rfl rfl (by simp [Tryz.f108]) (by simp [Tryz.f108]) fun Q hQ => ?_
  simp only [Tryz.f108, show ca.keepRes 108 = false from rfl, show ca.keepArgs 108 = false from rfl] at hQ ⊢
  obtain ⟨bl, bv, be⟩ := hb _ _ h
  have w0 : IntKind.i64.wrap ((l.length : Int) - 1) = (l.length : Int) - 1 := IntWalk.i64_in _ (by omega)
  simp [be, w0]
  refine go_loop (fun k s m' => k ≤ l.length ∧ s.at 3 = int ((k : Int) - 1) ∧ s.at 0 = .yl lo ∧ s.at 1 = .ptr db 0 ∧ J k m') l.length ⟨Nat.le_refl _, by simp, by simp, by simp, h⟩ ?_
  rintro k s m' ⟨hk, e3, e0, e1, hJk⟩ Q' hn he
  obtain ⟨bl, bv, be⟩ := hb _ _ hJk
  simp [e3]
  cases k with
  | zero =>
    simp
    refine he _ _ _ (by simp) ?_
    simp
    exact hQ _ _ _ (by rw [leave_none (.inl rfl)]; exact ⟨rfl, hJk⟩)
  | succ k =>
    obtain ⟨x, hx⟩ : ∃ x, l[k]? = some x := ⟨_, List.getElem?_eq_getElem (by omega)⟩
    have hx' : (encs l)[k]? = some (enc x) := by rw [encs_get, hx]; rfl
    have e3' : s.at 3 = int (k : Int) := by rw [e3]; congr 3; omega
    have ek : ((k : Int) + 1 - 1) = (k : Int) := by omega
    have hix := aindexAddr_lst (P := Tryz.prog) (q := .i64) Tryz.underlying43 tsize56 hx' (enc_cells_length x)
    have h0 : (0 : Int) ≤ k := by omega
    have w1 : IntKind.i64.wrap ((k : Int) - 1) = (k : Int) - 1 := IntWalk.i64_in _ (by omega)
    have h1 : (1 : Int) ≤ (k : Int) + 1 := by omega
    simp [e0, e1, e3', be, hix, ek, h1]
    refine goH_of (hJ k x m' hx hJk) ?_
    rintro v m2 ⟨rfl, hJ2⟩
    simp [e3', w1]
    refine hn k _ _ (by omega) ⟨by omega, by simp, by simp [e0], by simp [e1], hJ2⟩
end Go.Proofs.YtnhcmcfgemoehaaGreat
namespace Go.V
variable {P : Program}
theorem findNow_int {q : IntKind} {k : Int} : ∀ (ks : List Int) (i : Nat), Instr.findNow (.int q) (.int .i64 k) (ks.map fun x => ⟨.int .i64 x, undef, 0⟩) i = some ((ks.findIdx? fun x => decide (x = k)).map fun j => (j + i, undef))
  | [], i => rfl
  | x :: ks, i => by
    simp only [List.map_cons, Instr.findNow, List.findIdx?_cons]
    have h : Instr.sameNow (.int q) (.int .i64 k) (.int .i64 x) = some (decide (x = k)) := by
      show some _ = _
      congr 1
      rw [Bool.eq_iff_iff]
      simp only [decide_eq_true_eq]
      constructor
      · intro h; first | exact (by simpa using h : k = x).symm | exact (by simpa using h)
      · intro h; subst h; simp
    rw [h]
    by_cases e : x = k
    · simp [e]
    · simp only [e, decide_false, findNow_int ks (i + 1)]
      cases ks.findIdx? fun x => decide (x = k) with
      | none => simp
      | some j => simp; omega
theorem afind_int {T : TypeId} {q : IntKind} (hT : P.underlying T = some (.int q)) (k : Int) (ks : List Int) : afind P T (.int .i64 k) (ks.map fun x => .int .i64 x) = some (ks.findIdx? fun x => decide (x = k)) := by
  have e : (ks.map fun x => Value.int .i64 x).map (fun x => (⟨x, undef, 0⟩ : MapEntry)) = ks.map fun x => ⟨.int .i64 x, undef, 0⟩ := by rw [List.map_map]; rfl
  unfold afind
  rw [hT]
  dsimp only
  rw [e, findNow_int]
  cases ks.findIdx? fun x => decide (x = k) <;> simp
theorem akey_int {T : TypeId} {q : IntKind} (hT : P.underlying T = some (.int q)) (e : Bool) (k : Int) : akey P T e (.sc (.int .i64 k)) = some (.int .i64 k) := by
  have h : pureRun P (Instr.checkKey e 10000 T (.int .i64 k)) = some () := by
    rw [show (10000 : Nat) = 9999 + 1 from rfl]
    unfold Instr.checkKey
    rw [pureRun_bind, pureRun_underlying hT]
    rfl
  unfold akey
  simp [plain, h]
theorem alookup_int {t kt et : TypeId} {q : IntKind} (h : tmap P t = some (kt, et)) (hk : P.underlying kt = some (.int q)) {m : Mem} {id : Nat} {M : AMap} (hM : m.map id = some M) {ks : List Int} (hs : M.es.map (·.1) = ks.map fun x => .int .i64 x) (k : Int) (ok : Bool) :
    alookup P t (.mp id) (.sc (.int .i64 k)) ok m = (match ks.findIdx? fun x => decide (x = k) with
      | some i => (match M.es[i]? with | some (_, v, _) => some (if ok then .tup [v, .sc (.bool true)] else v) | Option.none => Option.none)
      | Option.none => (tzero P et).map fun z => if ok then .tup [z, .sc (.bool false)] else z) := by
  unfold alookup amapOf
  simp only [h, hM, Option.map_some, akey_int hk, hs, afind_int hk]
  cases ks.findIdx? fun x => decide (x = k) <;> rfl
theorem amapUpdate_newI {t kt et : TypeId} {q : IntKind} (h : tmap P t = some (kt, et)) (hk : P.underlying kt = some (.int q)) {m : Mem} {id : Nat} {M : AMap} (hM : m.map id = some M) {ks : List Int} (hs : M.es.map (·.1) = ks.map fun x => .int .i64 x) {k : Int} (hn : (ks.findIdx? fun x => decide (x = k)) = none) (v : AV) :
    amapUpdate P t (.mp id) (.sc (.int .i64 k)) v m = some (m.setMap id (M.es ++ [(.int .i64 k, v, M.ck)]) (M.ck + 1)) := by
  unfold amapUpdate
  simp only [h, hM, akey_int hk, hs, afind_int hk, hn]
end Go.V

/- The halves of what was put together: the plain law. -/
set_option linter.unusedSimpArgs false
set_option linter.unusedVariables false
set_option linter.unusedSectionVars false
namespace Go.Proofs.YtnhcmcfgemoehaaGreat
set_option maxRecDepth 4000
mutual
theorem eqb_refl : ∀ d : Dat, eqb d d = true
  | .mk K N S M L T => by simp [eqb, eqbs_refl L, eqbs_refl T]
theorem eqbs_refl : ∀ l : List Dat, eqbs l l = true
  | [] => by simp [eqbs]
  | d :: l => by simp [eqbs, eqb_refl d, eqbs_refl l]
end
theorem good_mk {K N : Int} {S : List UInt8} {M : List Int} {L T : List Dat} (h : good (.mk K N S M L T) = true) : alone (.mk K N S M L T) = true ∧ goods L = true ∧ goods T = true := by
  rw [good] at h
  simpa using h
end Go.Proofs.YtnhcmcfgemoehaaGreat

/- The value of a datum. -/
set_option linter.unusedSimpArgs false
set_option linter.unusedVariables false
set_option linter.unusedSectionVars false
namespace Go.Proofs.YtnhcmcfgemoehaaGreat
set_option maxRecDepth 4000
open Go.V
attribute [local simp] Nat.add_assoc
mutual
/-- The value of a datum, and what becomes of the arena. -/
def makeM : Dat → ArM → ArM × Val × Int
  | .mk K N S _ L T, a =>
    if K = 1 ∨ K = 2 ∨ K = 3 then (a, (K, N), 0) else if K = 5 then symM a S else if K = 4 then allocM a ⟨3, 0, [], S⟩ else
    if K = 8 then (if (vecM L a).2.2 ≠ 0 then ((vecM L a).1, (0, 0), (vecM L a).2.2) else allocM (vecM L a).1 ⟨2, 0, (vecM L a).2.1, []⟩) else
    if (lstM L (if K = 7 then tailM T a else (a, (4, 0), 0))).2.2 ≠ 0 then ((lstM L (if K = 7 then tailM T a else (a, (4, 0), 0))).1, (0, 0), (lstM L (if K = 7 then tailM T a else (a, (4, 0), 0))).2.2) else lstM L (if K = 7 then tailM T a else (a, (4, 0), 0))
def vecM : List Dat → ArM → ArM × List Val × Int
  | [], a => (a, [], 0)
  | d :: l, a => if (makeM d a).2.2 ≠ 0 then ((makeM d a).1, [], (makeM d a).2.2) else ((vecM l (makeM d a).1).1, (makeM d a).2.1 :: (vecM l (makeM d a).1).2.1, (vecM l (makeM d a).1).2.2)
def tailM : List Dat → ArM → ArM × Val × Int
  | [], a => (a, (4, 0), 0)
  | d :: _, a => makeM d a
def lstM : List Dat → ArM × Val × Int → ArM × Val × Int
  | [], r => r
  | d :: l, r => if (lstM l r).2.2 ≠ 0 then lstM l r else if (makeM d (lstM l r).1).2.2 ≠ 0 then ((makeM d (lstM l r).1).1, (lstM l r).2.1, (makeM d (lstM l r).1).2.2) else allocM (makeM d (lstM l r).1).1 ⟨1, 0, [(makeM d (lstM l r).1).2.1, (lstM l r).2.1], []⟩
end
theorem vecM_app : ∀ (l r : List Dat) (a : ArM), (vecM l a).2.2 = 0 → vecM (l ++ r) a = ((vecM r (vecM l a).1).1, (vecM l a).2.1 ++ (vecM r (vecM l a).1).2.1, (vecM r (vecM l a).1).2.2)
  | [], r, a, _ => by simp [vecM]
  | d :: l, r, a, h => by
    rw [vecM] at h
    split at h
    · rename_i h1; exact absurd h h1
    · rename_i h1
      have := vecM_app l r (makeM d a).1 h
      simp [vecM, h1, this]
theorem Ar.cut {X : Nat → Prop} {A : Nat} {a : ArM} {m : Mem} (h : Ar X A a m) : Ar (fun j => X j ∧ j < m.next) A a m := h.mono fun j hj hx => ⟨hx, hj⟩
theorem Up.less {X : Nat → Prop} {A : Nat} {a : ArM} {m m' : Mem} (h : Up (fun j => X j ∧ j < m.next) A a m m') : Up X A a m m' := by
  obtain ⟨X', h1, h2, h3⟩ := h
  exact ⟨X', h1, h2.mono fun j h => h.1, fun j hj => (h3 j hj).imp (fun h => h.1) id⟩
theorem Up.out {X : Nat → Prop} {A : Nat} {a : ArM} {m m' : Mem} (h : Up X A a m m') : ∃ X', Ar X' A a m' ∧ KpC X m m' ∧ ∀ j, X' j → (X j ∨ m.next ≤ j) ∧ j < m'.next := by
  obtain ⟨X', h1, h2, h3⟩ := h
  exact ⟨_, h1.cut, h2, fun j hj => ⟨h3 j hj.1, hj.2⟩⟩
/-- A slice of values of one's own, as it is handed on. -/
theorem fz_cell {m0 m : Mem} {A : Nat} {k : Int} {l : List Val} {x : AV} (h : Acc m0 m 2 true (vals l) x) : ∃ m', fzvs m [.ptr A 0, .agg [int k, int 0, x, .emp 0]] = ([.ptr A 0, ceA ⟨k, 0, l, []⟩], m') ∧ KpC (owns x) m m' := by
  have lv : Lv m0 m 2 true (vals l) x := by
    rcases h with ⟨h1, h2⟩ | ⟨h, id, w, h1, h2, h3, h4⟩
    · exact .inl ⟨0, by omega, h1, h2⟩
    · exact .inr (.inr ⟨id, w, none, h1, h2, h3, h4⟩)
  obtain ⟨m', e1, e2⟩ := lv.fz rfl (vals_row l) (vals_ok l)
  refine ⟨m', ?_, e2⟩
  simp [fzvs, fzv, fzs, e1, ceA]
theorem goods_in : ∀ {l : List Dat} {x : Dat}, goods l = true → x ∈ l → good x = true
  | z :: l, x, h, hx => by
    rw [goods] at h
    simp at h
    rcases List.mem_cons.1 hx with rfl | hx
    · exact h.1
    · exact goods_in h.2 hx
/-- After a call, a box of one's own is written. -/
theorem up_box {X0 X1 : Nat → Prop} {A B : Nat} {a' : ArM} {m m4 m5 : Mem} (k : Kp m m4) (kc : KpC X0 m4 m5) (hA5 : Ar X1 A a' m5) (hX : ∀ j, X1 j → X0 j ∨ m4.next ≤ j) (hX0 : ∀ j, X0 j → j < m.next) (hB : m.next ≤ B) (hB4 : B < m4.next) (cs : List AV) : Up X0 A a' m (m5.set B cs) := by
  refine ⟨X1, hA5.kc (kc_set B cs m5) fun j hj e => ?_, KpC.cut (((KpC.of (.of k)).trans (kc.mono fun j h => .inl h)).trans ((kc_set B cs m5).mono fun j h => .inr (by omega))), fun j hj => (hX j hj).imp id fun h => by have := k.next; omega⟩
  have e : j = B := e
  subst e
  rcases hX j hj with h | h
  · have := hX0 j h; omega
  · omega
theorem fzr_val (m : Mem) (v : Val) (e : Int) : fzr m (.tup [.agg [int v.1, int v.2], int e]) = (.tup [valA v, int e], m) := by
  rw [valA_agg]
  simp [fzr, fzvs]
theorem q61 (l : List Dat) (m : Mem) : EH Tryz.prog ca (.func 61) [.lst (encs l)] m (.fn (.func 108) [] [.ptr m.next 0]) (m.new [.lst (encs l)] false) := by
  refine eh_of (wph_go Tryz.func61 rfl rfl (by simp [Tryz.f61]) (by simp [Tryz.f61]) fun Q hQ => ?_)
  simp only [Tryz.f61, show ca.keepRes 61 = false from rfl, show ca.keepArgs 61 = false from rfl] at hQ ⊢
  simp
  exact hQ _ _ _ ⟨.inr rfl, _, rfl, by simp [oneOf]⟩
/-- What is so while a list's values are made. -/
def LInv (X : Nat → Prop) (A V E db lo : Nat) (m M5 : Mem) (r : ArM × Val × Int) (mm : Mem) : Prop :=
  ∃ X1, Ar X1 A r.1 mm ∧ (∀ j, X1 j → ((X j ∧ j < m.next) ∨ M5.next ≤ j) ∧ j < mm.next ∧ j ≠ db ∧ j ≠ lo) ∧ KpC (fun j => (X j ∧ j < m.next) ∨ M5.next ≤ j ∨ j = V ∨ j = E) M5 mm ∧ (∃ w, mm.get V = some (.cells [int r.2.1.1, int r.2.1.2] false w)) ∧ ∃ w, mm.get E = some (.cells [int r.2.2] false w)
/-- Two values as a cell's, as it is handed on. -/
theorem fz_two {m : Mem} {A id w : Nat} {k : Int} {x y : Val} (h : m.get id = some (.cells [int x.1, int x.2, int y.1, int y.2] false w)) : fzvs m [.ptr A 0, .agg [int k, int 0, .sl id 0 2 2 true (some 2), .emp 0]] = ([.ptr A 0, ceA ⟨k, 0, [x, y], []⟩], m.mark id (flat (vals [x, y])) w) := by
  have e := fz1_row (m := m) (id := id) (k := 2) (ag := true) (cap := some 2) (ys := vals [x, y]) (v := w) (f := false) rfl (by simpa [vals, flat_cons, flat_nil] using h) (vals_row _) (vals_ok _)
  rw [vals_length] at e
  simp at e
  simp [fzvs, fzv, fzs, e, ceA]
theorem kc_loop (lo : Nat) (st : LoopState) (p : Option Code) (c : LCode) (m : Mem) : KpC (fun j => j = lo) m (m.setLoop lo st p c) := ⟨by simp, fun id hi hx => by simp, fun id hi hx => by
  have : id ≠ lo := hx
  simp [this]⟩
theorem kc_mark (i w : Nat) (cs : List AV) (m : Mem) : KpC (fun j => j = i) m (m.mark i cs w) := ⟨by simp, fun id hi hx => by
  have : id ≠ i := hx
  simp [this], fun id hi hx => by simp⟩
theorem linv_step {X X2 X3 : Nat → Prop} {A V E db lo : Nat} {m M5 mm mf : Mem} {r : ArM × Val × Int} {l : AV} (hX2 : ∀ j, X2 j → ((X j ∧ j < m.next) ∨ M5.next ≤ j) ∧ j < mm.next ∧ j ≠ db ∧ j ≠ lo) (kc : KpC (fun j => (X j ∧ j < m.next) ∨ M5.next ≤ j ∨ j = V ∨ j = E) M5 mm) (hdb : has mm db [l])
    (hM : M5.next ≤ mm.next) (hlt : lo < mm.next) (hlo : M5.next ≤ lo) (h1 : db < lo) (h2 : db ≠ V) (h3 : db ≠ E) (km : KpC (fun j => X2 j ∨ j = V ∨ j = E ∨ j = lo) mm mf) (hA : Ar X3 A r.1 mf) (hX3 : ∀ j, X3 j → (X2 j ∨ mm.next ≤ j) ∧ j < mf.next) (gV : ∃ w, mf.get V = some (.cells [int r.2.1.1, int r.2.1.2] false w)) (gE : ∃ w, mf.get E = some (.cells [int r.2.2] false w)) : LInv X A V E db lo m M5 r mf ∧ has mf db [l] := by
  refine ⟨⟨X3, hA, fun j h => ?_, kc.trans (km.mono fun j h => ?_), gV, gE⟩, hdb.kc km ?_⟩
  · obtain ⟨q1, q2⟩ := hX3 j h
    rcases q1 with q1 | q1
    · exact ⟨(hX2 j q1).1, q2, (hX2 j q1).2.2⟩
    · exact ⟨.inr (by omega), q2, by omega, by omega⟩
  · rcases h with h | h | h | h
    · exact (hX2 j h).1.imp id .inl
    · exact .inr (.inr (.inl h))
    · exact .inr (.inr (.inr h))
    · exact .inr (.inl (by omega))
  · rintro (h | h | h | h)
    · exact (hX2 db h).2.2.1 rfl
    · exact h2 h
    · exact h3 h
    · omega
def MakeK (X : Nat → Prop) (A : Nat) (d : Dat) (a : ArM) (m : Mem) (v : AV) (m' : Mem) : Prop := v = .tup [valA (makeM d a).2.1, int (makeM d a).2.2] ∧ Up X A (makeM d a).1 m m'
set_option maxHeartbeats 8000000 in
theorem q36 {A : Nat} : ∀ (n : Nat) (d : Dat), d.size ≤ n → d.fits → good d = true → ∀ (X : Nat → Prop) (a : ArM) (m : Mem), Ar X A a m → wph Tryz.prog ca (.func 36) [.ptr A 0, enc d] m (MakeK X A d a m)
  | 0, d, hs, _, _ => by cases d; simp [Dat.size] at hs
  | n + 1, d, hs, hf, hg => by
    intro X a m hA
    have ih := q36 (A := A) n
    refine wph_go Tryz.func36 rfl rfl (by simp [Tryz.f36]) (by simp [Tryz.f36]) fun Q hQ => ?_
    simp only [Tryz.f36, show ca.keepRes 36 = false from rfl, show ca.keepArgs 36 = false from rfl] at hQ ⊢
    obtain ⟨K, N, S, M, L, T⟩ := d
    have ft := alone_fits hf
    obtain ⟨hal, hgL, hgT⟩ := good_mk hg
    rw [Dat.fits] at hf
    rw [Dat.size] at hs
    have hAlt := hA.lt
    obtain ⟨m1, hm1⟩ : ∃ m1, m1 = (((m.new [.ptr A 0] false).new [int K, int N, .sc (.string ⟨⟨S⟩⟩), .lst (M.map int), .lst (encs L), .lst (encs T)] false).new [int 0, int 0] false).newMap := ⟨_, rfl⟩
    obtain ⟨v1, hmp⟩ : ∃ v, m1.map (m.next + 3) = some ⟨[], 0, v⟩ := ⟨_, by rw [hm1]; simp; rfl⟩
    have hu1 := amapUpdate_newI (P := Tryz.prog) tmap119 Tryz.underlying3 hmp (ks := []) rfl (k := 1) rfl (int 1)
    obtain ⟨m2, hm2⟩ : ∃ m2, m2 = m1.setMap (m.next + 3) ([] ++ [(.int .i64 1, int 1, 0)]) (0 + 1) := ⟨_, rfl⟩
    obtain ⟨v2, hmp2⟩ : ∃ v, m2.map (m.next + 3) = some ⟨[(.int .i64 1, int 1, 0)], 1, v⟩ := ⟨_, by rw [hm2]; simp; rfl⟩
    have hu2 := amapUpdate_newI (P := Tryz.prog) tmap119 Tryz.underlying3 hmp2 (ks := [1]) rfl (k := 2) rfl (int 2)
    obtain ⟨m3, hm3⟩ : ∃ m3, m3 = m2.setMap (m.next + 3) ([(.int .i64 1, int 1, 0)] ++ [(.int .i64 2, int 2, 1)]) (1 + 1) := ⟨_, rfl⟩
    obtain ⟨v3, hmp3⟩ : ∃ v, m3.map (m.next + 3) = some ⟨[(.int .i64 1, int 1, 0), (.int .i64 2, int 2, 1)], 2, v⟩ := ⟨_, by rw [hm3]; simp; rfl⟩
    have hu3 := amapUpdate_newI (P := Tryz.prog) tmap119 Tryz.underlying3 hmp3 (ks := [1, 2]) rfl (k := 3) rfl (int 3)
    obtain ⟨m4, hm4⟩ : ∃ m4, m4 = m3.setMap (m.next + 3) ([(.int .i64 1, int 1, 0), (.int .i64 2, int 2, 1)] ++ [(.int .i64 3, int 3, 2)]) (2 + 1) := ⟨_, rfl⟩
    obtain ⟨v4, hmp4⟩ : ∃ v, m4.map (m.next + 3) = some ⟨[(.int .i64 1, int 1, 0), (.int .i64 2, int 2, 1), (.int .i64 3, int 3, 2)], 3, v⟩ := ⟨_, by rw [hm4]; simp; rfl⟩
    have hl := alookup_int (P := Tryz.prog) (ok := true) tmap119 Tryz.underlying3 hmp4 (ks := [1, 2, 3]) rfl K
    rw [← hm2] at hu1
    rw [← hm3] at hu2
    rw [← hm4] at hu3
    have k4 : Kp m m4 := by
      rw [hm4, hm3, hm2, hm1]
      simp
    have g4 : ∀ j, m4.get j = m1.get j := fun j => by rw [hm4, hm3, hm2]; simp
    have n4 : m4.next = m.next + 4 := by rw [hm4, hm3, hm2, hm1]; simp
    have b0 : has m4 m.next [.ptr A 0] := ⟨by omega, m.clock + 1, by rw [g4, hm1]; simp⟩
    have b1 : has m4 (m.next + 1) [int K, int N, .sc (.string ⟨⟨S⟩⟩), .lst (M.map int), .lst (encs L), .lst (encs T)] := ⟨by omega, m.clock + 2, by rw [g4, hm1]; simp⟩
    have b2 : has m4 (m.next + 2) [int 0, int 0] := ⟨by omega, m.clock + 3, by rw [g4, hm1]; simp⟩
    clear hm2 hm3 hm4 hmp hmp2 hmp3
    simp [enc, amakeMap_none tmap119]
    rw [← hm1]
    clear hm1
    obtain ⟨_, x0, e0⟩ := b0
    obtain ⟨_, x1, e1⟩ := b1
    obtain ⟨_, x2, e2⟩ := b2
    have fin : ∀ (s' : Sl) (m' : Mem) (v : Val) (e : Int) (a' : ArM), s'.at 4 = .ptr (m.next + 2) 0 → s'.at 5 = int e → (∃ w, m'.get (m.next + 2) = some (.cells [int v.1, int v.2] false w)) → makeM (.mk K N S M L T) a = (a', v, e) → Up X A a' m m' → Q .ret s' m' := by
      intro s' m' v e a' h4 h5 ⟨w, hg⟩ hm hu
      refine hQ _ _ _ ?_
      rw [leave_ret]
      refine ⟨_, by simp [aresult, h4, h5, hg, aload, partOf]; rfl, ?_⟩
      unfold MakeK
      rw [hm]
      simp only [Bool.false_eq_true, if_false, oneOf, fzr_val]
      exact ⟨trivial, hu⟩
    have hA4 := hA.cut.kp k4
    have hlt2 : m.next + 2 < m4.next := by omega
    simp [hu1, hu2, hu3, e1]
    by_cases k123 : K = 1 ∨ K = 2 ∨ K = 3
    · have hl' : alookup Tryz.prog 119 (.mp (m.next + 3)) (int K) true m4 = some (.tup [int K, .sc (.bool true)]) := by
        rcases k123 with rfl | rfl | rfl <;> (rw [hl]; rfl)
      simp [hl', e1, e2, build51b]
      refine fin _ _ (K, N) 0 a (by simp) (by simp) ⟨_, by simp; rfl⟩ (by rw [makeM, if_pos k123]) (Up.kp hA (k4.set (by omega) _))
    · have hl' : alookup Tryz.prog 119 (.mp (m.next + 3)) (int K) true m4 = some (.tup [int 0, .sc (.bool false)]) := by
        have hfi : ([1, 2, 3] : List Int).findIdx? (fun x => decide (x = K)) = none := by
          rw [List.findIdx?_eq_none_iff]
          intro x hx
          simp at hx
          simp
          omega
        rw [hl, hfi]
        simp
      simp [hl', e1]
      by_cases k5 : K = 5
      · simp [k5, e0, e1]
        refine goH_of (q59 hA4 S (by have := ft.s; omega)) ?_
        rintro _ m5 ⟨rfl, X1, hA5, kc5, hX5⟩
        have e5 := (kc5.get (m.next + 2) hlt2 (fun h => by omega)).trans e2
        simp [e5]
        refine fin _ _ (symM a S).2.1 (symM a S).2.2 (symM a S).1 (by simp) (by simp) ⟨_, by simp; rfl⟩ (by rw [makeM, if_neg k123, if_pos k5]) ?_
        exact (up_box k4 kc5 hA5 hX5 (fun j h => h.2) (by omega) hlt2 _).less
      by_cases k4' : K = 4
      · simp [k5, k4', e0, e1, abuild, placesOf, fillAt]
        refine goH_of (wph_fz (args := [.ptr A 0, ceA ⟨3, 0, [], S⟩]) (m := m4) Tryz.func60 rfl rfl rfl (by simp [fzvs, fzs, fz1, ceA, byts]) (by simp [fzvs]) (q60 hA4 ⟨3, 0, [], S⟩ (by simp) (by have := ft.s; simpa using this))) ?_
        rintro _ m5 ⟨rfl, X1, hA5, kc5, hX5⟩
        have e5 := (kc5.get (m.next + 2) hlt2 (fun h => by omega)).trans e2
        simp [e5]
        refine fin _ _ (allocM a ⟨3, 0, [], S⟩).2.1 (allocM a ⟨3, 0, [], S⟩).2.2 (allocM a ⟨3, 0, [], S⟩).1 (by simp) (by simp) ⟨_, by simp; rfl⟩ (by rw [makeM, if_neg k123, if_neg k5, if_pos k4']) ?_
        exact (up_box k4 kc5 hA5 hX5 (fun j h => h.2) (by omega) hlt2 _).less
      by_cases k8 : K = 8
      · simp [k5, k4', k8, e0, e1]
        have hmk : makeM (.mk K N S M L T) a = (if (vecM L a).2.2 ≠ 0 then ((vecM L a).1, (0, 0), (vecM L a).2.2) else allocM (vecM L a).1 ⟨2, 0, (vecM L a).2.1, []⟩) := by rw [makeM, if_neg k123, if_neg k5, if_neg k4', if_pos k8]
        refine go_count 58 L.length (fun i s' m' => ∃ a' vs X1, vecM (L.take i) a = (a', vs, 0) ∧ Ar X1 A a' m' ∧ (∀ j, X1 j → ((X j ∧ j < m.next) ∨ m4.next ≤ j) ∧ j < m'.next) ∧ KpC (fun j => (X j ∧ j < m.next) ∨ m4.next ≤ j) m4 m' ∧ Acc m4 m' 2 true (vals vs) (s'.at 9) ∧ vs.length ≤ i ∧ ∀ j, owns (s'.at 9) j → ¬ X1 j) (by simp) (by have := ft.l; omega) ⟨a, [], _, by simp [vecM], hA4, fun j h => ⟨.inl h, by omega⟩, .refl _ _, .inl ⟨rfl, by simp⟩, by simp, fun j hj => by simp at hj; exact (owns_emp.1 hj).elim⟩ ?_
        rintro i s' m' hi e58 ⟨a', vs, X1, hvec, hA', hX1, kc', hacc, hvl, hdis⟩ hsame hw Q' hn he
        have d2 : s'.at 2 = .ptr m.next 0 := (hsame 2 (by kernel_rfl)).trans (by simp)
        have d4 : s'.at 4 = .ptr (m.next + 2) 0 := (hsame 4 (by kernel_rfl)).trans (by simp)
        have d56 : s'.at 56 = .lst (encs L) := (hsame 56 (by kernel_rfl)).trans (by simp)
        have d57 : s'.at 57 = int L.length := (hsame 57 (by kernel_rfl)).trans (by simp)
        clear hsame
        have n' := kc'.next
        have g0 := (kc'.get m.next (by omega) (fun h => by omega)).trans e0
        have g2 := (kc'.get (m.next + 2) (by omega) (fun h => by omega)).trans e2
        simp [e58, d57]
        refine goB_split (fun h => ?_) fun h => ?_
        · have hlt : i < L.length := by simpa using h
          obtain ⟨x, hx⟩ : ∃ x, L[i]? = some x := ⟨_, List.getElem?_eq_getElem hlt⟩
          have hx' : (encs L)[i]? = some (enc x) := by rw [encs_get, hx]; rfl
          have hxL := List.mem_of_getElem? hx
          have hsz := size_mem hxL
          have hix := aindexAddr_lst (P := Tryz.prog) (q := .i64) Tryz.underlying43 tsize56 hx' (enc_cells_length x)
          have zd : List.drop 6 zeroCells = [] := rfl
          have n0 : m.next ≠ m'.next := by omega
          simp [e58, d56, hix, d2, g0, n0, zd]
          obtain ⟨M2, hM2⟩ : ∃ M2, M2 = (m'.new zeroCells false).set m'.next (enc x).cells := ⟨_, rfl⟩
          have kM : Kp m' M2 := by rw [hM2]; simp
          have nM : M2.next = m'.next + 1 := by rw [hM2]; simp
          rw [← hM2]
          refine goH_of (ih x (by omega) (fits_mem hf.2.1 hxL) (goods_in hgL hxL) X1 a' M2 (hA'.kp kM)) ?_
          rintro _ m5 ⟨rfl, hup⟩
          obtain ⟨X2, hA5, kc5, hX5⟩ := hup.out
          have n5 := kc5.next
          have g05 := (kc5.get m.next (by omega) (fun h => by have := hX1 _ h; omega)).trans ((kM.get m.next (by omega)).trans g0)
          have g25 := (kc5.get (m.next + 2) (by omega) (fun h => by have := hX1 _ h; omega)).trans ((kM.get (m.next + 2) (by omega)).trans g2)
          have kct : KpC (fun j => (X j ∧ j < m.next) ∨ m4.next ≤ j) m4 m5 := (kc'.trans (.of (.of kM))).trans (kc5.mono fun j h => (hX1 j h).1)
          have htk : vecM (L.take (i + 1)) a = vecM (L.take i ++ [x]) a := by
            obtain ⟨h1, h2⟩ := List.getElem?_eq_some_iff.1 hx
            rw [List.take_succ_eq_append_getElem h1, h2]
          rw [vecM_app _ _ _ (by rw [hvec])] at htk
          simp only [hvec] at htk
          have hall : L = L.take i ++ x :: L.drop (i + 1) := by
            obtain ⟨h1, h2⟩ := List.getElem?_eq_some_iff.1 hx
            rw [← h2, List.getElem_cons_drop, List.take_append_drop]
          have hvA := vecM_app (L.take i) (x :: L.drop (i + 1)) a (by rw [hvec])
          rw [← hall] at hvA
          simp only [hvec] at hvA
          by_cases hz : (makeM x a').2.2 = 0
          · have hmx : makeM x a' = ((makeM x a').1, (makeM x a').2.1, 0) := by rw [← hz]
            obtain ⟨M5, hM5⟩ : ∃ M5, M5 = (m5.new [int 0, int 0] false).set m5.next [int (makeM x a').2.1.1, int (makeM x a').2.1.2] := ⟨_, rfl⟩
            have k5' : Kp m5 M5 := by rw [hM5]; simp
            have n6 : M5.next = m5.next + 1 := by rw [hM5]; simp
            have hac5 : Acc m4 M5 2 true (vals vs) (s'.at 9) := (acc_keptC (hacc.kp kM) kc5 hdis).kp k5'
            have hsrc := src_one (m := M5.new (valA (makeM x a').2.1).cells false) (id := M5.next) (c := some 1) (k := 2) (ag := true) (x := valA (makeM x a').2.1) (w := M5.clock + 1) (f := false) rfl (by simp) (by simp) (by simp [valA])
            obtain ⟨v3, m6, p1, p2, p3, p4⟩ := acc_any (T := 66) (m := M5.new (valA (makeM x a').2.1).cells false) (zs := [valA (makeM x a').2.1]) (hac5.kp (.new _ _ _)) (by simp; omega) (vals_ok _) el66 (by simp [okAll_cons, okAll_nil]) (by simp [fzx, fzvs]) (by have := ft.l; simp; omega)
            have n7 := p3.next
            simp at n7
            simp only [valA_cells] at hsrc p1 p3 p4
            simp [hz]
            rw [← hM5]
            simp [abuildSlice, zeros, fillAt, abuiltin, hsrc, p1, e58, hw]
            have hX2l : ∀ j, X2 j → j < m5.next := fun j h => (hX5 j h).2
            have own9 : ∀ j, owns (s'.at 9) j → j < m'.next := fun j h => (acc_lt hacc j h).2
            have dis2 : ∀ j, owns (s'.at 9) j → ¬ X2 j := fun j h h2 => by
              rcases (hX5 j h2).1 with h3 | h3
              · exact hdis j h h3
              · have := own9 j h; omega
            refine hn _ _ hlt (by simp) ⟨(makeM x a').1, vs ++ [(makeM x a').2.1], X2, by rw [htk]; simp [vecM, hz], ?_, fun j h => ⟨?_, ?_⟩, ?_, ?_, by simp; omega, fun j hj h2 => ?_⟩
            · refine (hA5.kp (k5'.trans (.new _ _ _))).kc p3 fun j h h2 => absurd h (dis2 j h2)
            · rcases (hX5 j h).1 with h3 | h3
              · exact (hX1 j h3).1
              · exact .inr (by omega)
            · have := hX2l j h; omega
            · refine (kct.trans (.of (.of (k5'.trans (.new _ _ _))))).trans (p3.mono fun j h => .inr ?_)
              exact (acc_lt hacc j h).1
            · rw [vals_append, vals_cons, vals_nil]
              simpa using p2
            · simp at hj
              rcases p4 j hj with h3 | h3
              · exact dis2 j h3 h2
              · have := hX2l j h2; simp at h3; omega
          · have hvz : vecM L a = ((makeM x a').1, vs, (makeM x a').2.2) := by rw [hvA]; simp [vecM, hz]
            have n25 : m.next + 2 ≠ m5.next := by omega
            have d13 : ∀ e : Int, int e = int e := fun _ => rfl
            simp [hz, build51, d4, g25, n25]
            refine he _ _ _ (by simp) ?_
            simp
            refine fin _ _ (0, 0) (makeM x a').2.2 (makeM x a').1 (by simp [d4]) (by simp) ⟨_, by simp; rfl⟩ (by rw [hmk, hvz]; simp [hz]) ?_
            refine (up_box (m5 := (m5.new [int 0, int 0] false).set m5.next [int (makeM x a').2.1.1, int (makeM x a').2.1.2]) k4 (kct.cut.trans (.of (.of (by simp)))) (hA5.kp (by simp)) (fun j h => ?_) (fun j h => h.2) (by omega) hlt2 _).less
            rcases (hX5 j h).1 with h3 | h3
            · exact (hX1 j h3).1
            · exact .inr (by omega)
        · have hge : i = L.length := by have := of_decide_eq_false h; omega
          subst hge
          simp
          refine he _ _ _ (by simp) ?_
          rw [List.take_length] at hvec
          obtain ⟨x9, hx9⟩ : ∃ x9, x9 = s'.at 9 := ⟨_, rfl⟩
          rw [← hx9] at hacc hdis
          have hxc : x9.okc = true ∧ x9.cells = [x9] := by
            rcases hacc with ⟨_, rfl⟩ | ⟨_, id, w, rfl, _⟩ <;> exact ⟨rfl, rfl⟩
          obtain ⟨m6, hz6, kc6⟩ := fz_cell (A := A) (k := 2) hacc
          have hA6 : Ar X1 A a' m6 := hA'.kc kc6 fun j h h2 => absurd h (hdis j h2)
          have n6 := kc6.next
          simp [d2, g0, ← hx9, abuild, placesOf, fillAt, hxc]
          refine goH_of (wph_fz Tryz.func60 rfl rfl rfl hz6 (by simp [fzvs]) (q60 hA6 ⟨2, 0, vs, []⟩ (by have := ft.l; simp; omega) (by simp))) ?_
          rintro _ m7 ⟨rfl, hup⟩
          obtain ⟨X2, hA7, kc7, hX7⟩ := hup.out
          have g26 := (kc6.get (m.next + 2) (by omega) (fun h => by have := (acc_lt hacc _ h).1; omega)).trans g2
          have g27 := (kc7.get (m.next + 2) (by omega) (fun h => by have := hX1 _ h; omega)).trans g26
          simp [d4, g27]
          refine fin _ _ (allocM a' ⟨2, 0, vs, []⟩).2.1 (allocM a' ⟨2, 0, vs, []⟩).2.2 (allocM a' ⟨2, 0, vs, []⟩).1 (by simp [d4]) (by simp) ⟨_, by simp; rfl⟩ (by rw [hmk, hvec]; simp) ?_
          have kall : KpC (fun j => (X j ∧ j < m.next) ∨ m4.next ≤ j) m4 m7 := (kc'.trans (kc6.mono fun j h => .inr (acc_lt hacc j h).1)).trans (kc7.mono fun j h => (hX1 j h).1)
          refine (up_box k4 kall.cut hA7 (fun j h => ?_) (fun j h => h.2) (by omega) hlt2 _).less
          rcases (hX7 j h).1 with h3 | h3
          · exact (hX1 j h3).1
          · exact .inr (by omega)
      have hmk : makeM (.mk K N S M L T) a = (if (lstM L (if K = 7 then tailM T a else (a, (4, 0), 0))).2.2 ≠ 0 then ((lstM L (if K = 7 then tailM T a else (a, (4, 0), 0))).1, (0, 0), (lstM L (if K = 7 then tailM T a else (a, (4, 0), 0))).2.2) else lstM L (if K = 7 then tailM T a else (a, (4, 0), 0))) := by rw [makeM, if_neg k123, if_neg k5, if_neg k4', if_neg k8]
      have q1 : m.next ≠ m4.next := by omega
      have q2 : m.next + 1 ≠ m4.next := by omega
      have q3 : m.next ≠ m4.next + 1 := by omega
      simp [k5, k4', k8, e0, e1, abuild, placesOf, fillAt, q1, q2, q3]
      obtain ⟨M5, hM5⟩ : ∃ M5, M5 = (((m4.new [int 0, int 0] false).new [int 0] false).set m4.next [int 4, int 0]).set (m4.next + 1) [int 0] := ⟨_, rfl⟩
      have kM5 : Kp m4 M5 := by rw [hM5]; simp
      have nM5 : M5.next = m4.next + 2 := by rw [hM5]; simp
      have gV : M5.get m4.next = some (.cells [int 4, int 0] false (m4.clock + 3)) := by rw [hM5]; simp
      have gE : M5.get (m4.next + 1) = some (.cells [int 0] false (m4.clock + 4)) := by rw [hM5]; simp
      have f0 := (kM5.get m.next (by omega)).trans e0
      have f1 := (kM5.get (m.next + 1) (by omega)).trans e1
      have f2 := (kM5.get (m.next + 2) (by omega)).trans e2
      have hA5 := hA4.kp kM5
      rw [← hM5]
      obtain ⟨r0, hr0⟩ : ∃ r0, r0 = (if K = 7 then tailM T a else (a, (4, 0), 0)) := ⟨_, rfl⟩
      rw [← hr0] at hmk
      refine goB_cut (fun s2 m2 => s2.at 2 = .ptr m.next 0 ∧ s2.at 3 = .ptr (m.next + 1) 0 ∧ s2.at 4 = .ptr (m.next + 2) 0 ∧ s2.at 14 = .ptr m4.next 0 ∧ s2.at 15 = .ptr (m4.next + 1) 0 ∧ LInv X A m4.next (m4.next + 1) m2.next m2.next m M5 r0 m2) (fun hk7 k' hk' => ?_) (fun hk7 k' hk' => ?_) ?_
      · have h7 : K = 7 := of_decide_eq_true hk7
        subst h7
        rw [if_pos rfl] at hr0
        obtain ⟨t, rfl⟩ : ∃ t, T = [t] := by
          rcases T with _ | ⟨t, _ | ⟨t2, T2⟩⟩
          · simp [alone] at hal
          · exact ⟨t, rfl⟩
          · simp [alone] at hal
        rw [tailM] at hr0
        have hszt := size_mem (by simp : t ∈ [t])
        have hix := aindexAddr_lst0 (P := Tryz.prog) (T := 43) (q := .i64) (x := enc t) (l := []) Tryz.underlying43 tsize56 (by simp)
        simp only [encs] at f1
        refine go_draw0 (by kernel_rfl) (by kernel_rfl) ?_
        simp [f0, f1, encs, hix]
        refine goH_of (ih t (by simp [sizes] at hszt hs; omega) (fits_mem hf.2.2 (by simp)) (goods_in hgT (by simp)) _ a M5 hA5) ?_
        rintro _ m6 ⟨rfl, hup⟩
        obtain ⟨X1, hA6, kc6, hX6⟩ := hup.out
        have n6 := kc6.next
        have gV6 := (kc6.get m4.next (by omega) (fun h => by omega)).trans gV
        have gE6 := (kc6.get (m4.next + 1) (by omega) (fun h => by omega)).trans gE
        have q4 : m4.next + 1 ≠ m4.next := by omega
        simp [gV6, gE6]
        refine hk' _ _ ⟨by simp, by simp, by simp, by simp, by simp, ?_⟩
        rw [hr0]
        have hB : ∀ j, X1 j → j ≠ m4.next ∧ j ≠ m4.next + 1 ∧ ((X j ∧ j < m.next) ∨ M5.next ≤ j) ∧ j < m6.next := fun j h => by
          rcases (hX6 j h).1 with h3 | h3
          · exact ⟨by omega, by omega, .inl h3, (hX6 j h).2⟩
          · exact ⟨by omega, by omega, .inr h3, (hX6 j h).2⟩
        refine ⟨X1, (hA6.kc (kc_set m4.next _ _) fun j h e => absurd e (hB j h).1).kc (kc_set (m4.next + 1) _ _) fun j h e => absurd e (hB j h).2.1, fun j h => ⟨(hB j h).2.2.1, by simpa using (hB j h).2.2.2, ?_, ?_⟩, ?_, ⟨m6.clock + 1, by simp⟩, ⟨m6.clock + 2, by simp⟩⟩
        · have := (hB j h).2.2.2; simp; omega
        · have := (hB j h).2.2.2; simp; omega
        · exact ((kc6.mono fun j h => .inl h).trans ((kc_set m4.next _ _).mono fun j h => .inr (.inr (.inl h)))).trans ((kc_set (m4.next + 1) _ _).mono fun j h => .inr (.inr (.inr h)))
      · have h7 : ¬ K = 7 := of_decide_eq_false hk7
        rw [if_neg h7] at hr0
        simp
        refine hk' _ _ ⟨by simp, by simp, by simp, by simp, by simp, ?_⟩
        rw [hr0]
        exact ⟨_, hA5, fun j h => ⟨.inl h, by omega, by omega, by omega⟩, .refl _ _, ⟨_, gV⟩, ⟨_, gE⟩⟩
      · rintro s2 m2 ⟨d2, d3, d4, d14, d15, X1, hA2, hX1, kc2, ⟨wV, gV2⟩, ⟨wE, gE2⟩⟩
        have n2 := kc2.next
        have own : ∀ j, m.next ≤ j → j < m4.next → ¬ ((X j ∧ j < m.next) ∨ M5.next ≤ j ∨ j = m4.next ∨ j = m4.next + 1) := fun j h1 h2 h => by omega
        have h0 := (kc2.get m.next (by omega) (own _ (by omega) (by omega))).trans f0
        have h1 := (kc2.get (m.next + 1) (by omega) (own _ (by omega) (by omega))).trans f1
        have h2 := (kc2.get (m.next + 2) (by omega) (own _ (by omega) (by omega))).trans f2
        simp [d3, h1, (q61 L m2).go]
        refine go_range (f := 108) (a := []) (b := [.ptr m2.next 0]) (by simp) (by kernel_rfl) ?_
        simp only [List.nil_append, List.singleton_append]
        generalize hcd : LCode.mk _ _ _ _ _ = c
        refine wph_mono (back108 (J := fun k mm => LInv X A m4.next (m4.next + 1) m2.next (m2.next + 1) m M5 (lstM (L.drop k) r0) mm ∧ has mm m2.next [.lst (encs L)] ∧ ∃ ver, mm.loop (m2.next + 1) = some ⟨.ready, none, c, ver⟩ ∧ m2.next + 1 < mm.next) L ft.l ?_ (fun k mm h => h.2.1) _ ?_) ?_
        · rintro k x mm hx ⟨⟨X2, hA7, hX2, kc7, ⟨uV, hV⟩, ⟨uE, hE⟩⟩, ⟨dbl, dbv, dbe⟩, ver, hloop, hlt⟩
          have hid : (m2.new [AV.lst (encs L)] false).next = m2.next + 1 := by simp
          rw [hid]
          refine wph_round hloop (by rw [← hcd]; rfl) ?_
          have c1 := congrArg LCode.assign hcd
          have c2 := congrArg LCode.body hcd
          have c3 := congrArg LCode.N hcd
          have c4 := congrArg LCode.s hcd
          have c5 := congrArg LCode.ps hcd
          dsimp only at c1 c2 c3 c4 c5
          simp only [← c1, ← c2, ← c3, ← c4, ← c5]
          have nn := kc7.next
          have h0' := (kc7.get m.next (by omega) (own _ (by omega) (by omega))).trans f0
          have zd : List.drop 6 zeroCells = [] := rfl
          have w1 : m4.next + 1 ≠ mm.next := by omega
          have w2 : m4.next + 1 ≠ mm.next + 1 := by omega
          have w3 : m.next ≠ mm.next := by omega
          have w4 : m.next ≠ mm.next + 1 := by omega
          have w5 : m4.next ≠ mm.next := by omega
          have w6 : m4.next ≠ mm.next + 1 := by omega
          have hstep : lstM (L.drop k) r0 = lstM (x :: L.drop (k + 1)) r0 := by
            obtain ⟨h1, h2⟩ := List.getElem?_eq_some_iff.1 hx
            rw [← h2, List.getElem_cons_drop]
          rw [hstep, lstM]
          generalize lstM (L.drop (k + 1)) r0 = r at hA7 hV hE ⊢
          simp [Sl.puts, hloop, d2, d14, d15, hE, w1, w2, w5, zd]
          by_cases hr : r.2.2 = 0
          rotate_left
          · simp [hr, hE, w1, w2, w5, d15]
            have km0 : KpC (fun j => j = m2.next + 1) mm (((((mm.new zeroCells false).set mm.next (enc x).cells).setLoop (m2.next + 1) .busy none c).new [int 0, int 0] false).setLoop (m2.next + 1) .ready none c) := ⟨by simp, fun id hi hx => by
              have a1 : id ≠ mm.next := by omega
              have a2 : id ≠ mm.next + 1 := by omega
              simp [a1, a2], fun id hi hx => by
              have a1 : id ≠ m2.next + 1 := hx
              simp [a1]⟩
            obtain ⟨r1, r2⟩ := linv_step (r := r) (V := m4.next) (E := m4.next + 1) hX2 kc7 ⟨dbl, dbv, dbe⟩ (by omega) hlt (by omega) (by omega) (by omega) (by omega) (km0.mono fun j h => .inr (.inr (.inr h))) (hA7.kc km0 fun j h e => absurd e (hX2 j h).2.2.2) (fun j h => ⟨.inl h, by have := (hX2 j h).2.1; simp; omega⟩) ⟨uV, by simp [w5, w6, hV]⟩ ⟨uE, by simp [w1, w2, w5, hE]⟩
            exact ⟨r1, r2, by omega⟩
          · simp [hr, d2, h0', w3, w4]
            obtain ⟨Mb, hMb⟩ : ∃ Mb, Mb = (((mm.new zeroCells false).set mm.next (enc x).cells).setLoop (m2.next + 1) .busy none c).new [int 0, int 0] false := ⟨_, rfl⟩
            have kb : KpC (fun j => j = m2.next + 1) mm Mb := by
              rw [hMb]
              exact ⟨by simp, fun id hi hx => by
                have a1 : id ≠ mm.next := by omega
                have a2 : id ≠ mm.next + 1 := by omega
                simp [a1, a2], fun id hi hx => by
                have a1 : id ≠ m2.next + 1 := hx
                simp [a1]⟩
            have nb : Mb.next = mm.next + 2 := by rw [hMb]; simp
            have hAb : Ar X2 A r.1 Mb := hA7.kc kb fun j h e => absurd e (hX2 j h).2.2.2
            have gbE : Mb.get (m4.next + 1) = some (.cells [int r.2.2] false uE) := by rw [hMb]; simp [w1, w2, w5, hE]
            have gbV : Mb.get m4.next = some (.cells [int r.2.1.1, int r.2.1.2] false uV) := by rw [hMb]; simp [w5, w6, hV]
            obtain ⟨uF, gbF⟩ : ∃ w, Mb.get (mm.next + 1) = some (.cells [int 0, int 0] false w) := ⟨_, by rw [hMb]; simp; rfl⟩
            obtain ⟨uL, lbL⟩ : ∃ w, Mb.loop (m2.next + 1) = some ⟨.busy, none, c, w⟩ := ⟨_, by rw [hMb]; simp; rfl⟩
            rw [← hMb]
            clear hMb
            have hxL := List.mem_of_getElem? hx
            have hszx := size_mem hxL
            have nX2 : ∀ j, m.next ≤ j → j < M5.next → ¬ X2 j := fun j q1 q2 h => by have := (hX2 j h).1; omega
            refine goH_of (ih x (by omega) (fits_mem hf.2.1 hxL) (goods_in hgL hxL) X2 r.1 Mb hAb) ?_
            rintro _ m6 ⟨rfl, hup⟩
            obtain ⟨X3, hA6, kc6, hX6⟩ := hup.out
            have n6 := kc6.next
            have g6E := (kc6.get (m4.next + 1) (by omega) (nX2 _ (by omega) (by omega))).trans gbE
            have g6V := (kc6.get m4.next (by omega) (nX2 _ (by omega) (by omega))).trans gbV
            have g6F := (kc6.get (mm.next + 1) (by omega) (fun h => by have := (hX2 _ h).2.1; omega)).trans gbF
            have l6 := (kc6.x (m2.next + 1) (by omega) (fun h => (hX2 _ h).2.2.2 rfl)).1.trans lbL
            have z1 : m4.next ≠ mm.next := by omega
            have z2 : mm.next ≠ m4.next := by omega
            have z3 : m4.next ≠ mm.next + 1 := by omega
            have z4 : mm.next + 1 ≠ m4.next := by omega
            simp [g6F, g6E, z1, z2, z3, z4, d15]
            by_cases hz : (makeM x r.1).2.2 = 0
            rotate_left
            · simp [hz, l6]
              have hX3 : ∀ j, X3 j → (X2 j ∨ mm.next + 2 ≤ j) ∧ j < m6.next := fun j h => ⟨(hX6 j h).1.imp id fun h => by omega, (hX6 j h).2⟩
              have hne : ∀ j, X3 j → j ≠ mm.next + 1 ∧ j ≠ m4.next + 1 ∧ j ≠ m2.next + 1 := fun j h => by
                rcases (hX3 j h).1 with q | q
                · have q1 := hX2 j q
                  exact ⟨by omega, fun e => nX2 _ (by omega) (by omega) (e ▸ q), q1.2.2.2⟩
                · omega
              have ks : KpC (fun j => (X2 j ∨ j = m4.next ∨ j = m4.next + 1 ∨ j = m2.next + 1) ∨ mm.next ≤ j) mm (((m6.set (mm.next + 1) [int (makeM x r.1).2.1.1, int (makeM x r.1).2.1.2]).set (m4.next + 1) [int (makeM x r.1).2.2]).setLoop (m2.next + 1) .ready none c) :=
                ((((kb.mono fun j h => .inl (.inr (.inr (.inr h)))).trans (kc6.mono fun j h => .inl (.inl h))).trans ((kc_set (mm.next + 1) _ _).mono fun j h => .inr (by omega))).trans ((kc_set (m4.next + 1) _ _).mono fun j h => .inl (.inr (.inr (.inl h))))).trans ((kc_loop (m2.next + 1) _ _ _ _).mono fun j h => .inl (.inr (.inr (.inr h))))
              obtain ⟨r1, r2⟩ := linv_step (r := ((makeM x r.1).1, r.2.1, (makeM x r.1).2.2)) (V := m4.next) (E := m4.next + 1) hX2 kc7 ⟨dbl, dbv, dbe⟩ (by omega) hlt (by omega) (by omega) (by omega) (by omega) ks.cut (((hA6.kc (kc_set (mm.next + 1) _ _) fun j h e => absurd e (hne j h).1).kc (kc_set (m4.next + 1) _ _) fun j h e => absurd e (hne j h).2.1).kc (kc_loop (m2.next + 1) _ _ _ _) fun j h e => absurd e (hne j h).2.2) (fun j h => ⟨(hX3 j h).1.imp id fun h => by omega, by have := (hX3 j h).2; simp; omega⟩) ⟨uV, by simp [z1, z2, z3, z4, g6V]⟩ ⟨m6.clock + 2, by simp⟩
              exact ⟨r1, r2, by omega⟩
            · have z5 : m.next ≠ m4.next + 1 := by omega
              have g60 := (kc6.get m.next (by omega) (nX2 _ (by omega) (by omega))).trans ((kb.get m.next (by omega) (by omega)).trans h0')
              simp [hz, d2, d14, g60, w4, z5, z1, z2, z3, z4, g6V, abuildSlice, zeros, fillAt, abuild, placesOf]
              have hX3 : ∀ j, X3 j → (X2 j ∨ mm.next + 2 ≤ j) ∧ j < m6.next := fun j h => ⟨(hX6 j h).1.imp id fun h => by omega, (hX6 j h).2⟩
              have hne : ∀ j, X3 j → j ≠ mm.next + 1 ∧ j ≠ m4.next + 1 ∧ j ≠ m2.next + 1 ∧ j ≠ m4.next := fun j h => by
                rcases (hX3 j h).1 with q | q
                · have q1 := hX2 j q
                  exact ⟨by omega, fun e => nX2 _ (by omega) (by omega) (e ▸ q), q1.2.2.2, fun e => nX2 _ (by omega) (by omega) (e ▸ q)⟩
                · omega
              obtain ⟨M7, hM7⟩ : ∃ M7, M7 = (((m6.set (mm.next + 1) [int (makeM x r.1).2.1.1, int (makeM x r.1).2.1.2]).set (m4.next + 1) [int 0]).new [int (makeM x r.1).2.1.1, int (makeM x r.1).2.1.2, int r.2.1.1, int r.2.1.2] false) := ⟨_, rfl⟩
              have ks7 : KpC (fun j => j = mm.next + 1 ∨ j = m4.next + 1) m6 M7 := by
                rw [hM7]
                exact (((kc_set (mm.next + 1) _ _).mono fun j h => .inl h).trans ((kc_set (m4.next + 1) _ _).mono fun j h => .inr h)).trans (.of (.of (.new _ _ _)))
              have n7 : M7.next = m6.next + 1 := by rw [hM7]; simp
              have hA7' : Ar X3 A (makeM x r.1).1 M7 := hA6.kc ks7 fun j h e => by have := hne j h; omega
              obtain ⟨w7, g7⟩ : ∃ w, M7.get m6.next = some (.cells [int (makeM x r.1).2.1.1, int (makeM x r.1).2.1.2, int r.2.1.1, int r.2.1.2] false w) := ⟨_, by rw [hM7]; simp; rfl⟩
              obtain ⟨u7E, g7E⟩ : ∃ w, M7.get (m4.next + 1) = some (.cells [int 0] false w) := ⟨m6.clock + 2, by
                have a1 : m4.next + 1 ≠ m6.next := by omega
                rw [hM7]; simp [a1]⟩
              have l7 : M7.loop (m2.next + 1) = some ⟨.busy, none, c, uL⟩ := by rw [hM7]; simp; exact l6
              rw [← hM7]
              clear hM7
              have hA8 : Ar X3 A (makeM x r.1).1 (M7.mark m6.next (flat (vals [(makeM x r.1).2.1, r.2.1])) w7) := hA7'.kc (kc_mark m6.next _ _ _) fun j h e => by have := (hX3 j h).2; omega
              refine goH_of (wph_fz Tryz.func60 rfl rfl rfl (fz_two (x := (makeM x r.1).2.1) (y := r.2.1) g7) (by simp [fzvs]) (q60 hA8 ⟨1, 0, [(makeM x r.1).2.1, r.2.1], []⟩ (by simp) (by simp))) ?_
              rintro _ m9 ⟨rfl, hup⟩
              obtain ⟨X4, hA9, kc9, hX9⟩ := hup.out
              have n9 := kc9.next
              simp [n7] at n9
              have nX3 : ∀ j, m.next ≤ j → j < M5.next → ¬ X3 j := fun j q1 q2 h => by
                rcases (hX3 j h).1 with q | q
                · exact nX2 j q1 q2 q
                · omega
              have kall : KpC (fun j => (X2 j ∨ j = m4.next ∨ j = m4.next + 1 ∨ j = m2.next + 1) ∨ mm.next ≤ j) mm m9 :=
                ((((kb.mono fun j h => .inl (.inr (.inr (.inr h)))).trans (kc6.mono fun j h => .inl (.inl h))).trans (ks7.mono fun j h => h.elim (fun h => .inr (by omega)) fun h => .inl (.inr (.inr (.inl h))))).trans ((kc_mark m6.next _ _ _).mono fun j h => .inr (by omega))).trans (kc9.mono fun j h => (hX3 j h).1.imp .inl fun h => by omega)
              have g9V : m9.get m4.next = some (.cells [int r.2.1.1, int r.2.1.2] false uV) := by
                rw [kc9.get m4.next (by simp; omega) (nX3 _ (by omega) (by omega))]
                have a1 : m4.next ≠ m6.next := by omega
                simp [a1]
                rw [ks7.get m4.next (by omega) (by omega)]
                exact g6V
              have g9E : m9.get (m4.next + 1) = some (.cells [int 0] false u7E) := by
                rw [kc9.get (m4.next + 1) (by simp; omega) (nX3 _ (by omega) (by omega))]
                have a1 : m4.next + 1 ≠ m6.next := by omega
                simp [a1]
                exact g7E
              have l9 : m9.loop (m2.next + 1) = some ⟨.busy, none, c, uL⟩ := by
                rw [(kc9.x (m2.next + 1) (by simp; omega) (fun h => (hne _ h).2.2.1 rfl)).1]
                simp
                exact l7
              simp [d14, d15, g9V, g9E, l9]
              have hX4 : ∀ j, X4 j → (X2 j ∨ mm.next + 2 ≤ j) ∧ j < m9.next := fun j h => by
                refine ⟨?_, (hX9 j h).2⟩
                rcases (hX9 j h).1 with q | q
                · exact (hX3 j q).1
                · simp at q; exact .inr (by omega)
              have hne4 : ∀ j, X4 j → j ≠ m4.next + 1 ∧ j ≠ m2.next + 1 ∧ j ≠ m4.next := fun j h => by
                rcases (hX4 j h).1 with q | q
                · exact ⟨fun e => nX2 _ (by omega) (by omega) (e ▸ q), (hX2 j q).2.2.2, fun e => nX2 _ (by omega) (by omega) (e ▸ q)⟩
                · omega
              obtain ⟨al, hal2⟩ : ∃ al, al = allocM (makeM x r.1).1 ⟨1, 0, [(makeM x r.1).2.1, r.2.1], []⟩ := ⟨_, rfl⟩
              rw [← hal2] at hA9 ⊢
              have ks : KpC (fun j => (X2 j ∨ j = m4.next ∨ j = m4.next + 1 ∨ j = m2.next + 1) ∨ mm.next ≤ j) mm (((m9.set m4.next [int al.2.1.1, int al.2.1.2]).set (m4.next + 1) [int al.2.2]).setLoop (m2.next + 1) .ready none c) :=
                ((kall.trans ((kc_set m4.next _ _).mono fun j h => .inl (.inr (.inl h)))).trans ((kc_set (m4.next + 1) _ _).mono fun j h => .inl (.inr (.inr (.inl h))))).trans ((kc_loop (m2.next + 1) _ _ _ _).mono fun j h => .inl (.inr (.inr (.inr h))))
              obtain ⟨r1, r2⟩ := linv_step (r := al) (V := m4.next) (E := m4.next + 1) hX2 kc7 ⟨dbl, dbv, dbe⟩ (by omega) hlt (by omega) (by omega) (by omega) (by omega) ks.cut (((hA9.kc (kc_set m4.next _ _) fun j h e => absurd e (hne4 j h).2.2).kc (kc_set (m4.next + 1) _ _) fun j h e => absurd e (hne4 j h).1).kc (kc_loop (m2.next + 1) _ _ _ _) fun j h e => absurd e (hne4 j h).2.1) (fun j h => ⟨(hX4 j h).1.imp id fun h => by omega, by have := (hX4 j h).2; simp; omega⟩) ⟨m9.clock + 1, by simp⟩ ⟨m9.clock + 2, by simp⟩
              exact ⟨r1, r2, by omega⟩
        · rw [List.drop_length, lstM]
          have w5 : m4.next ≠ m2.next := by omega
          have w6 : m4.next + 1 ≠ m2.next := by omega
          refine ⟨⟨X1, hA2.kp (by simp), fun j h => ⟨(hX1 j h).1, ?_, (hX1 j h).2.2.1, ?_⟩, kc2.trans (.of (.of (by simp))), ⟨wV, by simp [w5, gV2]⟩, ⟨wE, by simp [w6, gE2]⟩⟩, ⟨by simp, _, by simp; rfl⟩, _, by simp; rfl, by simp⟩
          · have := (hX1 j h).2.1; simp; omega
          · have := (hX1 j h).2.1; omega
        · rintro v mm ⟨rfl, ⟨X2, hA7, hX2, kc7, ⟨uV, hV⟩, ⟨uE, hE⟩⟩, _, ver, hloop, hlt⟩
          rw [List.drop_zero] at hA7 hV hE
          have nn := kc7.next
          have h2' := (kc7.get (m.next + 2) (by omega) (own _ (by omega) (by omega))).trans f2
          have kfin : KpC (fun j => X j ∧ j < m.next) m4 (mm.killLoop (m2.next + 1)) := by
            have a1 : KpC (fun j => (X j ∧ j < m.next) ∨ m4.next ≤ j) m4 mm := (KpC.of (.of kM5)).trans (kc7.mono fun j h => h.imp id fun h => by omega)
            have a2 : KpC (fun j => (X j ∧ j < m.next) ∨ m4.next ≤ j) mm (mm.killLoop (m2.next + 1)) := ⟨by simp, fun id hi hx => by simp, fun id hi hx => by
              have : id ≠ m2.next + 1 := fun e => hx (.inr (by omega))
              simp [this]⟩
            exact (a1.trans a2).cut
          have hA8 : Ar X2 A (lstM L r0).1 (mm.killLoop (m2.next + 1)) := hA7.kc (Y := fun j => j = m2.next + 1) ⟨by simp, fun id hi hx => by simp, fun id hi hx => by
            have : id ≠ m2.next + 1 := hx
            simp [this]⟩ fun j h e => absurd e (hX2 j h).2.2.2
          have hX8 : ∀ j, X2 j → (X j ∧ j < m.next) ∨ m4.next ≤ j := fun j h => (hX2 j h).1.imp id fun h => by omega
          refine ⟨_, .normal, by simpa using hloop, by simp, rfl, ?_⟩
          by_cases hz : (lstM L r0).2.2 = 0
          · simp [d15, d14, d4, hE, hV, hz, h2']
            refine fin _ _ (lstM L r0).2.1 0 (lstM L r0).1 (by simp [d4]) (by simp) ⟨_, by simp; rfl⟩ (by rw [hmk, if_neg (by simp [hz]), ← hz]) ?_
            exact (up_box k4 kfin hA8 hX8 (fun j h => h.2) (by omega) hlt2 _).less
          · simp [d15, d14, d4, hE, hV, hz]
            refine go_drawD (by kernel_rfl) ?_
            simp [d15, d14, d4, hE, hV, hz, h2', build51]
            have w7 : m4.next + 1 ≠ m.next + 2 := by omega
            have w8 : m4.next ≠ m.next + 1 := by omega
            refine goM_of (l := [(1, 2)]) (by kernel_rfl) (?_ : List.all _ _ = true) ?_
            · simp [metAtD, metOkD, rank, verKeptD, Region.wanted, Mem.ver, hE, w7, Ne.symm w7, w8]
            simp [d4]
            refine fin _ _ (0, 0) (lstM L r0).2.2 (lstM L r0).1 (by simp [d4]) (by simp) ⟨_, by simp; rfl⟩ (by rw [hmk, if_pos hz]) ?_
            exact (up_box k4 kfin hA8 hX8 (fun j h => h.2) (by omega) hlt2 _).less
end Go.Proofs.YtnhcmcfgemoehaaGreat

/- The value of any datum; how many cells and symbols there are. -/
set_option linter.unusedSimpArgs false
set_option linter.unusedVariables false
set_option linter.unusedSectionVars false
namespace Go.Proofs.YtnhcmcfgemoehaaGreat
set_option maxRecDepth 4000
open Go.V
attribute [local simp] Nat.add_assoc
def ofM (d : Dat) (a : ArM) : ArM × Val × Int := if chk d = 0 then makeM d a else (a, (0, 0), chk d)
set_option maxHeartbeats 4000000 in
theorem q21 {X : Nat → Prop} {A : Nat} {a : ArM} {m : Mem} (hA : Ar X A a m) (d : Dat) (hd : d.fits) : wph Tryz.prog ca (.func 21) [.ptr A 0, enc d] m fun v m' => v = .tup [valA (ofM d a).2.1, int (ofM d a).2.2] ∧ Up X A (ofM d a).1 m m' := by
  refine wph_go Tryz.func21 rfl rfl (by simp [Tryz.f21]) (by simp [Tryz.f21]) fun Q hQ => ?_
  simp only [Tryz.f21, show ca.keepRes 21 = false from rfl, show ca.keepArgs 21 = false from rfl] at hQ ⊢
  have k1 : Kp m ((m.new (enc d).cells false).new [int 0, int 0] false) := by simp
  have q1 := q34 (hA.kp k1)
  have fin : ∀ (s' : Sl) (m' : Mem) (v : Val) (e : Int) (a' : ArM), s'.at 4 = .ptr (m.next + 1) 0 → s'.at 5 = int e → (∃ w, m'.get (m.next + 1) = some (.cells [int v.1, int v.2] false w)) → ofM d a = (a', v, e) → Up X A a' m m' → Q .ret s' m' := by
    intro s' m' v e a' h4 h5 ⟨w, hg⟩ hm hu
    refine hQ _ _ _ ?_
    rw [leave_ret]
    refine ⟨_, by simp [aresult, h4, h5, hg, aload, partOf]; rfl, ?_⟩
    rw [hm]
    simp only [Bool.false_eq_true, if_false, oneOf, fzr_val]
    exact ⟨trivial, hu⟩
  simp [q1.go, (ca_gives (g14 d hd)).go]
  by_cases hc : chk d = 0
  · simp [hc]
    refine goH_of (q36 d.size d (Nat.le_refl _) hd (chk_good hc).1 _ a _ (hA.cut.kp k1)) ?_
    rintro _ m5 ⟨rfl, hup⟩
    obtain ⟨X1, hA5, kc5, hX5⟩ := hup.out
    have g5 : m5.get (m.next + 1) = some (.cells [int 0, int 0] false (m.clock + 2)) := by
      rw [kc5.get (m.next + 1) (by simp) (fun h => by omega)]
      simp
    simp [g5]
    refine fin _ _ (makeM d a).2.1 (makeM d a).2.2 (makeM d a).1 (by simp) (by simp) ⟨_, by simp; rfl⟩ (by rw [ofM, if_pos hc]) ?_
    exact (up_box k1 kc5 hA5 (fun j h => (hX5 j h).1) (fun j h => h.2) (by omega) (by simp) _).less
  · simp [hc, build51]
    refine fin _ _ (0, 0) (chk d) a (by simp) (by simp) ⟨_, by simp; rfl⟩ (by rw [ofM, if_neg hc]) (Up.kp hA (by simp))
theorem q55 {X : Nat → Prop} {A : Nat} {a : ArM} {m : Mem} (hA : Ar X A a m) : EH Tryz.prog ca (.func 55) [.ptr A 0] m (.tup [int a.cells.length, int a.names.length]) m := by
  refine eh_run Tryz.func55 rfl rfl rfl rfl (args1 := [.ptr A 0]) (m1 := m) (by simp [fzvs]) (by simp [AV.bel, AV.bels]) (by simp [Tryz.f55]) (by simp [Tryz.f55]) ?_
  have q1 := q34 hA
  obtain ⟨t, M, cs, ns, xs, h, hx⟩ := hA
  obtain ⟨w, hv⟩ := h.get
  have lc := fun m' R => len_has (T := 74) (R := R) (m' := m') h.cells Tryz.underlying74
  have ln := fun m' R => len_has (T := 85) (R := R) (m' := m') h.names Tryz.underlying85
  simp only [List.length_zipWith, h.len, Nat.min_self, List.length_map] at lc ln
  simp only [Tryz.f55, show ca.keepRes 55 = false from rfl]
  simp [q1.go]
  refine go_draw0 (by kernel_rfl) (by kernel_rfl) ?_
  simp [hv, lc, ln]
end Go.Proofs.YtnhcmcfgemoehaaGreat

/- Whether two values are alike. -/
set_option linter.unusedSimpArgs false
set_option linter.unusedVariables false
set_option linter.unusedSectionVars false
namespace Go.Proofs.YtnhcmcfgemoehaaGreat
set_option maxRecDepth 4000
open Go.V
attribute [local simp] Nat.add_assoc
theorem two51 : Two Tryz.prog 51 3 2 := ⟨⟨_, _, Tryz.underlying51, by decide, by decide, rfl, rfl, rfl, rfl⟩, tagg3, tagg2, by kernel_rfl, by kernel_rfl⟩
theorem val_eq {xo yo : Operand} (v w : Val) : abin Tryz.prog .eql 51 xo yo (valA v) (valA w) = some (.sc (.bool (decide (v = w)))) := by
  have := (abin_two (xo := xo) (yo := yo) two51 (x1 := .int .i64 v.1) (y1 := .int .i64 w.1) (x2 := .int .i64 v.2) (y2 := .int .i64 w.2) (b1 := decide (v.1 = w.1)) (b2 := decide (v.2 = w.2)) (fun d => by rw [equalIn_int Tryz.underlying3]) (fun d => by rw [equalIn_int Tryz.underlying2])).1
  have e : decide (v = w) = (decide (v.1 = w.1) && decide (v.2 = w.2)) := by
    obtain ⟨a, b⟩ := v
    obtain ⟨c, d⟩ := w
    simp [Prod.ext_iff]
  rw [e]
  exact this
mutual
/-- Whether two values are alike, with so much left to look at. -/
def eqM (a : ArM) : Nat → Int → Val → Val → Bool × Int
  | 0, left, _, _ => (false, left)
  | n + 1, left, x, y =>
    if left - 1 < 0 then (false, left - 1) else if x = y then (true, left - 1) else
    match ixM a x, ixM a y with
    | some i, some j => if (a.cells.getD i zeroC).k ≠ (a.cells.getD j zeroC).k ∨ 3 < (a.cells.getD i zeroC).k ∨ (a.cells.getD i zeroC).s ≠ (a.cells.getD j zeroC).s then (false, left - 1) else
      if (a.cells.getD i zeroC).a.length ≠ (a.cells.getD j zeroC).a.length then (false, left - 1) else eqsM a n (left - 1) (a.cells.getD i zeroC).a (a.cells.getD j zeroC).a
    | _, _ => (false, left - 1)
def eqsM (a : ArM) : Nat → Int → List Val → List Val → Bool × Int
  | n, left, x :: xs, y :: ys => if (eqM a n left x y).1 = true then eqsM a n (eqM a n left x y).2 xs ys else (false, (eqM a n left x y).2)
  | _, left, _, _ => (true, left)
end
/-- No more is left than was. -/
theorem eqs_le {a : ArM} {n : Nat} (ih : ∀ left x y, 0 ≤ left → (eqM a n left x y).2 ≤ left ∧ -1 ≤ (eqM a n left x y).2 ∧ ((eqM a n left x y).1 = true → 0 ≤ (eqM a n left x y).2)) : ∀ (xs ys : List Val) (left : Int), 0 ≤ left → (eqsM a n left xs ys).2 ≤ left ∧ -1 ≤ (eqsM a n left xs ys).2 ∧ ((eqsM a n left xs ys).1 = true → 0 ≤ (eqsM a n left xs ys).2)
  | [], ys, left, h => by rw [eqsM]; exact ⟨Int.le_refl _, by omega, fun _ => h⟩; simp
  | x :: xs, [], left, h => by rw [eqsM]; exact ⟨Int.le_refl _, by omega, fun _ => h⟩; simp
  | x :: xs, y :: ys, left, h => by
    obtain ⟨h1, h2, h3⟩ := ih left x y h
    rw [eqsM]
    split
    · rename_i hc
      have := eqs_le ih xs ys (eqM a n left x y).2 (h3 hc)
      exact ⟨by omega, this.2⟩
    · exact ⟨h1, h2, by simp⟩
theorem eq_le (a : ArM) : ∀ (n : Nat) (left : Int) (x y : Val), 0 ≤ left → (eqM a n left x y).2 ≤ left ∧ -1 ≤ (eqM a n left x y).2 ∧ ((eqM a n left x y).1 = true → 0 ≤ (eqM a n left x y).2)
  | 0, left, x, y, h => by rw [eqM]; exact ⟨Int.le_refl _, by omega, by simp⟩
  | n + 1, left, x, y, h => by
    rw [eqM]
    split
    · exact ⟨by dsimp only; omega, by dsimp only; omega, by simp⟩
    split
    · exact ⟨by dsimp only; omega, by dsimp only; omega, fun _ => by dsimp only; omega⟩
    split
    · split
      · exact ⟨by dsimp only; omega, by dsimp only; omega, by simp⟩
      split
      · exact ⟨by dsimp only; omega, by dsimp only; omega, by simp⟩
      have := eqs_le (n := n) (fun l x y h => eq_le a n l x y h) (a.cells.getD ‹_› zeroC).a (a.cells.getD ‹_› zeroC).a (left - 1) (by omega)
      rename_i i j _ _ _ _
      have := eqs_le (n := n) (fun l x y h => eq_le a n l x y h) (a.cells.getD i zeroC).a (a.cells.getD j zeroC).a (left - 1) (by omega)
      exact ⟨by omega, this.2⟩
    · exact ⟨by dsimp only; omega, by dsimp only; omega, by simp⟩
theorem q76 {A L v : Nat} {left : Int} {m : Mem} (h : m.get L = some (.cells [.ptr A 0, int left] false v)) (h1 : 0 ≤ left) (h2 : left ≤ 1024) : EH Tryz.prog ca (.func 76) [.ptr L 0] m (.sc (.bool (decide (0 ≤ left - 1)))) (m.set L [.ptr A 0, int (left - 1)]) := by
  refine eh_of ?_
  refine wph_go Tryz.func76 rfl rfl (by simp [Tryz.f76]) (by simp [Tryz.f76]) fun Q hQ => ?_
  simp only [Tryz.f76, show ca.keepRes 76 = false from rfl, show ca.keepArgs 76 = false from rfl] at hQ ⊢
  have hw : IntKind.i64.wrap (left - 1) = left - 1 := IntWalk.i64_in _ (by omega)
  simp [h, hw]
  refine hQ _ _ _ ?_
  simp
theorem El.kc {m m' : Mem} {x : AV} {l : List Val} {Y : Nat → Prop} (h : El m x l) (k : KpC Y m m') (hY : ∀ j, owns x j → ¬ Y j) : El m' x l := by
  rcases h with rfl | ⟨rfl, rfl⟩ | ⟨h, id, v, f, rfl, h1, h2⟩
  · exact .inl rfl
  · exact .inr (.inl ⟨rfl, rfl⟩)
  · exact .inr (.inr ⟨h, id, v, f, rfl, Nat.lt_of_lt_of_le h1 k.next, by rw [k.get id h1 (hY id rfl)]; exact h2⟩)
theorem El.len {m m' : Mem} {x : AV} {l : List Val} {R : TypeId} (h : El m x l) : abuiltin Tryz.prog .len #[66] R [x] m' = some (int l.length, m') := by
  rcases h with rfl | ⟨rfl, rfl⟩ | ⟨_, id, v, f, rfl, _⟩
  · rw [alen_lst Tryz.underlying66, vals_length]
  · exact alen_emp Tryz.underlying66
  · rw [alen_sl Tryz.underlying66]
theorem El.at {m : Mem} {x : AV} {l : List Val} (h : El m x l) {i : Nat} {v : Val} (hv : l[i]? = some v) : ∃ p, aindexAddr Tryz.prog 66 x (int i) = some p ∧ ∀ m', (∀ j, owns x j → m'.get j = m.get j) → aload Tryz.prog 51 p m' = some (valA v) := by
  have hi := (List.getElem?_eq_some_iff.1 hv).1
  rcases h with rfl | ⟨rfl, rfl⟩ | ⟨_, id, w, f, rfl, h1, h2⟩
  · refine ⟨_, vals_at hv, fun m' _ => ?_⟩
    simp [aload, partOf_ag tagg51 tsize51, valA_agg]
  · simp at hv
  · have hv' : (vals l)[i]? = some (valA v) := by rw [vals_get, hv]; rfl
    obtain ⟨q1, q2⟩ := flat_at (vals_ok l) hv'
    refine ⟨_, aindexAddr_sl Tryz.underlying66 tsize51 hi, fun m' hm => ?_⟩
    have hg := (hm id rfl).trans h2
    simp only [aload, hg, Nat.zero_add]
    rw [partOf_ag tagg51 tsize51, if_pos q1, q2]
    rfl
theorem El.okc {m : Mem} {x : AV} {l : List Val} (h : El m x l) : x.okc = true ∧ x.cells = [x] := by
  rcases h with rfl | ⟨_, rfl⟩ | ⟨_, id, v, f, rfl, _⟩ <;> exact ⟨rfl, rfl⟩
theorem byts_back : ∀ s : List UInt8, (byts s).mapM V.byteOf = some s
  | [] => rfl
  | b :: s => by
    have ih := byts_back s
    have hb : V.byteOf (.sc (.int .u8 b.toNat)) = some b := by simp [V.byteOf]
    simp only [byts, List.map_cons, List.mapM_cons, hb] at ih ⊢
    rw [ih]
    rfl
/-- What a call of equal does. -/
def EqK (A L : Nat) (r : Bool × Int) (m : Mem) (v : AV) (m' : Mem) : Prop := v = .sc (.bool r.1) ∧ has m' L [.ptr A 0, int r.2] ∧ KpC (fun j => j = L) m m'
set_option maxHeartbeats 4000000 in
theorem q78 {X : Nat → Prop} {A L : Nat} {a : ArM} {n : Nat} (ih : ∀ (left : Int) (x y : Val) (m : Mem), Ar X A a m → has m L [.ptr A 0, int left] → 0 ≤ left → left ≤ 1024 → left < n → wph Tryz.prog ca (.func 42) [.ptr L 0, valA x, valA y] m (EqK A L (eqM a n left x y) m))
    (hXL : ¬ X L) {x1 x2 : AV} {l1 l2 : List Val} {left : Int} {m : Mem} (hA : Ar X A a m) (hL : has m L [.ptr A 0, int left]) (h0 : 0 ≤ left) (h1 : left ≤ 1024) (hn0 : left < n) (e1 : El m x1 l1) (e2 : El m x2 l2) (o1 : ∀ j, owns x1 j → X j) (o2 : ∀ j, owns x2 j → X j) (hl : l1.length ≤ 4096) :
    wph Tryz.prog ca (.func 78) [x1, x2, .fn (.func 42) [.ptr L 0] []] m (EqK A L (if l1.length ≠ l2.length then (false, left) else eqsM a n left l1 l2) m) := by
  refine wph_go Tryz.func78 rfl rfl (by simp [Tryz.f78]) (by simp [Tryz.f78]) fun Q hQ => ?_
  simp only [Tryz.f78, show ca.keepRes 78 = false from rfl, show ca.keepArgs 78 = true from rfl] at hQ ⊢
  have fin : ∀ (e : Ex) (s' : Sl) (m' : Mem) (r : Bool × Int), (e = .normal ∨ e = .ret) → s'.at 6 = .sc (.bool r.1) → has m' L [.ptr A 0, int r.2] → KpC (fun j => j = L) m m' → (if l1.length ≠ l2.length then (false, left) else eqsM a n left l1 l2) = r → Q e s' m' := by
    intro e s' m' r he h6 hL' kc hr
    rw [hr] at hQ
    exact hQ _ _ _ (leave_sc he h6 ⟨rfl, hL', kc⟩)
  simp [e1.len, e2.len]
  by_cases hln : l1.length = l2.length
  rotate_left
  · have hln' : ¬ (l1.length : Int) = l2.length := by omega
    simp [hln']
    exact fin _ _ _ (false, left) (.inr rfl) (by simp) hL (.refl _ _) (if_pos hln)
  simp [hln, e1.len]
  refine go_count 17 l2.length (fun i s' m' => ∃ lf, eqsM a n left l1 l2 = eqsM a n lf (l1.drop i) (l2.drop i) ∧ 0 ≤ lf ∧ lf ≤ 1024 ∧ lf < n ∧ has m' L [.ptr A 0, int lf] ∧ KpC (fun j => j = L) m m') (by simp) (by omega) ⟨left, by simp, h0, h1, hn0, hL, .refl _ _⟩ ?_
  rintro i s' m' hi e17 ⟨lf, heq, hf0, hf1, hf2, hL', kc⟩ hsame hw Q' hn he
  have d1 : s'.at 1 = x2 := (hsame 1 (by kernel_rfl)).trans (by simp)
  have d2 : s'.at 2 = .fn (.func 42) [.ptr L 0] [] := (hsame 2 (by kernel_rfl)).trans (by simp)
  have d15 : s'.at 15 = x1 := (hsame 15 (by kernel_rfl)).trans (by simp)
  have d16 : s'.at 16 = int l2.length := (hsame 16 (by kernel_rfl)).trans (by simp)
  clear hsame
  simp [e17, d16]
  refine goB_split (fun h => ?_) fun h => ?_
  · have hlt : i < l2.length := by simpa using h
    obtain ⟨v1, hv1⟩ : ∃ v, l1[i]? = some v := ⟨_, List.getElem?_eq_getElem (by omega)⟩
    obtain ⟨v2, hv2⟩ : ∃ v, l2[i]? = some v := ⟨_, List.getElem?_eq_getElem hlt⟩
    obtain ⟨p1, a1, b1⟩ := (e1.kc kc fun j hj e => hXL (e ▸ o1 j hj)).at hv1
    obtain ⟨p2, a2, b2⟩ := (e2.kc kc fun j hj e => hXL (e ▸ o2 j hj)).at hv2
    have na1 : ∀ cs, aload Tryz.prog 51 p2 ((m'.new [int 0, int 0] false).set m'.next cs) = some (valA v2) := fun cs => b2 _ fun j hj => by
      have : j < m'.next := by
        rcases e2 with rfl | ⟨_, rfl⟩ | ⟨_, id, w, f, rfl, q, _⟩
        · exact hj.elim
        · exact hj.elim
        · have e : id = j := hj
          have := kc.next
          omega
      have hne : j ≠ m'.next := by omega
      simp [hne]
    simp [e17, d15, d1, a1, b1 m' (fun _ _ => rfl), a2, na1, d2, valA_agg]
    obtain ⟨Mc, hMc⟩ : ∃ Mc, Mc = (((m'.new [int 0, int 0] false).set m'.next [int v1.1, int v1.2]).new [int 0, int 0] false).set (m'.next + 1) [int v2.1, int v2.2] := ⟨_, rfl⟩
    have kMc : Kp m' Mc := by rw [hMc]; simp
    rw [← hMc]
    have hAc : Ar X A a Mc := (hA.kc kc fun j hj e => absurd hj (e ▸ hXL)).kp kMc
    refine goH_of (ih lf v1 v2 Mc hAc (hL'.kp kMc) hf0 hf1 hf2) ?_
    rintro _ m5 ⟨rfl, hL5, kc5⟩
    obtain ⟨b1, b2, b3⟩ := eq_le a n lf v1 v2 hf0
    have hd1 : l1.drop i = v1 :: l1.drop (i + 1) := by
      obtain ⟨h1, h2⟩ := List.getElem?_eq_some_iff.1 hv1
      rw [← h2, List.getElem_cons_drop]
    have hd2 : l2.drop i = v2 :: l2.drop (i + 1) := by
      obtain ⟨h1, h2⟩ := List.getElem?_eq_some_iff.1 hv2
      rw [← h2, List.getElem_cons_drop]
    rw [hd1, hd2, eqsM] at heq
    have kall : KpC (fun j => j = L) m m5 := (kc.trans (.of (.of kMc))).trans kc5
    cases hq : (eqM a n lf v1 v2).1 with
    | true =>
      rw [if_pos hq] at heq
      simp [e17, hw]
      exact hn _ _ hlt (by simp) ⟨_, heq, b3 hq, by omega, by omega, hL5, kall⟩
    | false =>
      rw [if_neg (by simp [hq])] at heq
      simp
      refine he _ _ _ (by simp) ?_
      simp
      exact fin _ _ _ (false, (eqM a n lf v1 v2).2) (.inr rfl) (by simp) hL5 kall (by rw [if_neg (by simp [hln]), heq])
  · have hge : i = l2.length := by have := of_decide_eq_false h; omega
    subst hge
    simp
    refine he _ _ _ (by simp) ?_
    simp
    refine fin _ _ _ (true, lf) (.inr rfl) (by simp) hL' kc ?_
    rw [if_neg (by simp [hln]), heq, List.drop_eq_nil_of_le (Nat.le_of_eq hln), eqsM]
    simp
set_option maxHeartbeats 8000000 in
theorem q42 {X : Nat → Prop} {A L : Nat} {a : ArM} (hsm : Small a) (hXL : ¬ X L) : ∀ (n : Nat) (left : Int) (x y : Val) (m : Mem), Ar X A a m → has m L [.ptr A 0, int left] → 0 ≤ left → left ≤ 1024 → left < n → wph Tryz.prog ca (.func 42) [.ptr L 0, valA x, valA y] m (EqK A L (eqM a n left x y) m)
  | 0, left, x, y, m, _, _, h0, _, h2 => by omega
  | n + 1, left, x, y, m, hA, hL, h0, h1, h2 => by
    have ih := q42 (X := X) (A := A) (L := L) hsm hXL n
    refine wph_go Tryz.func42 rfl rfl (by simp [Tryz.f42]) (by simp [Tryz.f42]) fun Q hQ => ?_
    simp only [Tryz.f42, show ca.keepRes 42 = false from rfl, show ca.keepArgs 42 = false from rfl] at hQ ⊢
    obtain ⟨hLl, wL, gL⟩ := hL
    have nL : m.next ≠ L := by omega
    have nL1 : m.next + 1 ≠ L := by omega
    have nL' : L ≠ m.next := by omega
    have nL1' : L ≠ m.next + 1 := by omega
    have k1 : Kp m ((m.new [int x.1, int x.2] false).new [int y.1, int y.2] false) := by simp
    obtain ⟨M1, hM1⟩ : ∃ M1, M1 = ((m.new [int x.1, int x.2] false).new [int y.1, int y.2] false).set L [.ptr A 0, int (left - 1)] := ⟨_, rfl⟩
    have kc1 : KpC (fun j => j = L) m M1 := by
      rw [hM1]
      exact (KpC.of (.of k1)).trans (kc_set L _ _)
    have hA1 : Ar X A a M1 := hA.kc kc1 fun j hj e => absurd hj (e ▸ hXL)
    have hL1 : has M1 L [.ptr A 0, int (left - 1)] := by rw [hM1]; exact ⟨by simp; omega, m.clock + 3, by simp⟩
    have gx : M1.get m.next = some (.cells [int x.1, int x.2] false (m.clock + 1)) := by rw [hM1]; simp [nL]
    have gy : M1.get (m.next + 1) = some (.cells [int y.1, int y.2] false (m.clock + 2)) := by rw [hM1]; simp [nL1]
    have qp := q76 (A := A) (L := L) (v := wL) (left := left) (m := (m.new [int x.1, int x.2] false).new [int y.1, int y.2] false) (by simp [nL', nL1', gL]) h0 h1
    rw [← hM1] at qp
    clear hM1
    have fin : ∀ (e : Ex) (s' : Sl) (m' : Mem) (r : Bool × Int), (e = .normal ∨ e = .ret) → s'.at 6 = .sc (.bool r.1) → has m' L [.ptr A 0, int r.2] → KpC (fun j => j = L) M1 m' → eqM a (n + 1) left x y = r → Q e s' m' := by
      intro e s' m' r he h6 hL' kc hr
      rw [hr] at hQ
      exact hQ _ _ _ (leave_sc he h6 ⟨rfl, hL', kc1.trans kc⟩)
    simp [qp.go]
    by_cases hl : left - 1 < 0
    · have hl' : ¬ 0 ≤ left - 1 := by omega
      have hl1 : ¬ 1 ≤ left := by omega
      simp [hl1]
      exact fin _ _ _ (false, left - 1) (.inr rfl) (by simp) hL1 (.refl _ _) (by rw [eqM, if_pos hl])
    have hl1 : 1 ≤ left := by omega
    simp [hl1, gx, gy, valA_agg, val_eq]
    by_cases hxy : x = y
    · simp [hxy]
      exact fin _ _ _ (true, left - 1) (.inr rfl) (by simp) hL1 (.refl _ _) (by rw [eqM, if_neg hl, if_pos hxy])
    simp [hxy]
    obtain ⟨t, M, cs, ns, xs, h, hx⟩ := id hA1
    have hcx := q77 h hx x
    have hcy := q77 h hx y
    have hL1' := hL1
    obtain ⟨_, wL1, gL1⟩ := hL1
    refine go_drawD (by kernel_rfl) ?_
    simp [gL1, gx, gy, valA_agg, hcx.go, hcy.go]
    refine goM_of (l := [(5, 9), (5, 10)]) (by kernel_rfl) (?_ : List.all _ _ = true) ?_
    · simp [metAtD, metOkD, rank, verKeptD, Region.wanted, Mem.ver, gL1, gx, gy]
    simp
    have hfalse : ∀ (s' : Sl), s'.at 6 = .sc (.bool false) → eqM a (n + 1) left x y = (false, left - 1) → Q .ret s' M1 := fun s' q1 q2 => fin _ _ _ (false, left - 1) (.inr rfl) q1 hL1' (.refl _ _) q2
    cases hix : ixM a x with
    | none =>
      have c1 : cellP a cs x = .sc (.pointer none) := by simp [cellP, hix]
      refine go_draw0 (by kernel_rfl) (by kernel_rfl) ?_
      simp [c1, nil135, undefV, undef]
      exact hfalse _ (by simp) (by rw [eqM, if_neg hl, if_neg hxy, hix])
    | some i =>
    obtain ⟨hxi, c, hc⟩ := ixM_some hix
    obtain ⟨C, vc, x1, rfl, hC, htC, hgC, hxi1, hzi, hrow⟩ := h.at hc
    have c1 : cellP a (.sl C 0 a.cells.length 4 true none) x = .ptr C (i * 4) := by simp [cellP, hix, blk]
    cases hiy : ixM a y with
    | none =>
      have c2 : cellP a (.sl C 0 a.cells.length 4 true none) y = .sc (.pointer none) := by simp [cellP, hiy]
      refine go_draw0 (by kernel_rfl) (by kernel_rfl) ?_
      simp [c1, c2, nil135, eq135, undefV, undef]
      exact hfalse _ (by simp) (by rw [eqM, if_neg hl, if_neg hxy, hix, hiy])
    | some j =>
    obtain ⟨hyj, d, hd⟩ := ixM_some hiy
    obtain ⟨C', vc', y1, hC', _, _, _, hyj1, hzj, hrow2⟩ := h.at hd
    obtain rfl : C = C' := by cases hC'; rfl
    have c2 : cellP a (.sl C 0 a.cells.length 4 true none) y = .ptr C (j * 4) := by simp [cellP, hiy, blk]
    obtain ⟨f1, f2⟩ := flat_at (zip_ok a.cells xs) hzi
    obtain ⟨g1, g2⟩ := flat_at (zip_ok a.cells xs) hzj
    have hgi : a.cells.getD i zeroC = c := by simp [List.getD_eq_getElem?_getD, hc]
    have hgj : a.cells.getD j zeroC = d := by simp [List.getD_eq_getElem?_getD, hd]
    have part : ∀ {k : Nat} {r : AV} (q : Nat) (T : TypeId) (w : AV), k * 4 + 4 ≤ (flat (List.zipWith rowA a.cells xs)).length → ((flat (List.zipWith rowA a.cells xs)).drop (k * 4)).take 4 = r.cells → r.cells[q]? = some w → (flat (List.zipWith rowA a.cells xs))[k * 4 + q]? = some w := by
      intro k r q T w h1 h2 h3
      have hq : q < 4 := by
        have := (List.getElem?_eq_some_iff.1 h3).1
        rw [← h2] at this
        simp at this
        omega
      rw [← h2, List.getElem?_take_of_lt hq, List.getElem?_drop] at h3
      exact h3
    have px0 := part 0 3 (int c.k) f1 f2 rfl
    have px2 := part 2 3 x1 f1 f2 rfl
    have px3 := part 3 3 (.lst (byts c.s)) f1 f2 rfl
    have py0 := part 0 3 (int d.k) g1 g2 rfl
    have py2 := part 2 3 y1 g1 g2 rfl
    have py3 := part 3 3 (.lst (byts d.s)) g1 g2 rfl
    simp only [Nat.add_zero] at px0 py0
    have heqM : eqM a (n + 1) left x y = (if c.k ≠ d.k ∨ 3 < c.k ∨ c.s ≠ d.s then (false, left - 1) else if c.a.length ≠ d.a.length then (false, left - 1) else eqsM a n (left - 1) c.a d.a) := by rw [eqM, if_neg hl, if_neg hxy, hix, hiy]; simp only [hgi, hgj]
    refine go_draw0 (by kernel_rfl) (by kernel_rfl) ?_
    by_cases hk : c.k = d.k
    rotate_left
    · simp [c1, c2, eq135, hgC, px0, py0, px3, py3, hk, undefV, undef]
      exact hfalse _ (by simp) (by rw [heqM, if_pos (.inl hk)])
    by_cases hk3 : 3 < c.k
    · have hk3' : 3 < d.k := by omega
      simp [c1, c2, eq135, hgC, px0, py0, px3, py3, hk, hk3', undefV, undef]
      exact hfalse _ (by simp) (by rw [heqM, if_pos (.inr (.inl hk3))])
    have hk3' : ¬ 3 < d.k := by omega
    have hby : ∀ s : List UInt8, aconvert Tryz.prog 76 9 (.lst (byts s)) = some (.sc (.string ⟨⟨s⟩⟩)) := fun s => aconvert_bs Tryz.underlying76 Tryz.underlying9 Tryz.underlying5 (byts_back s)
    by_cases hs : c.s = d.s
    rotate_left
    · simp [c1, c2, eq135, hgC, px0, py0, px3, py3, hk, hk3', hby, hs]
      exact hfalse _ (by simp) (by rw [heqM, if_pos (.inr (.inr hs))])
    · simp [c1, c2, eq135, hgC, px0, py0, px3, py3, hk, hk3', hby, hs]
      refine go_draw0 (by kernel_rfl) (by kernel_rfl) ?_
      have ox := (El.of hrow).okc
      have oy := (El.of hrow2).okc
      have ownX : ∀ {z : AV} {k : Nat} {l : List Val}, Has t (4 + k) 2 true (.emp 1) M1 z (vals l) → ∀ j, owns z j → X j := by
        intro z k l hh j hj
        rcases hh with ⟨_, rfl⟩ | ⟨_, id, w, rfl, _, ht, _⟩
        · exact hj.elim
        · have e : id = j := hj
          subst e
          exact (hx _ (by rw [ht]; simp)).1
      simp [hgC, px2, py2]
      refine goH_of (q78 (n := n) (fun left x y m => ih left x y m) hXL hA1 hL1' (by omega) (by omega) (by omega) (.of hrow) (.of hrow2) (ownX hrow) (ownX hrow2) (hsm c (List.mem_of_getElem? hc)).1) ?_
      rintro _ m5 ⟨rfl, hL5, kc5⟩
      simp
      exact fin _ _ _ _ (.inr rfl) (by simp) hL5 kc5 (by rw [heqM, if_neg (by simp [hk, hk3', hs])])
end Go.Proofs.YtnhcmcfgemoehaaGreat
namespace Go.Proofs.YtnhcmcfgemoehaaGreat
set_option maxRecDepth 4000
open Go.V
attribute [local simp] Nat.add_assoc
def equalM (a : ArM) (x y : Val) : Bool := goodM a x && (goodM a y && (eqM a 1025 1024 x y).1)
set_option maxHeartbeats 4000000 in
theorem q24 {X : Nat → Prop} {A : Nat} {a : ArM} {m : Mem} (hA : Ar X A a m) (hsm : Small a) (x y : Val) : EH Tryz.prog ca (.func 24) [.ptr A 0, valA x, valA y] m (.sc (.bool (equalM a x y))) m := by
  refine eh_run Tryz.func24 rfl rfl rfl rfl (args1 := [.ptr A 0, valA x, valA y]) (m1 := m) (by simp [fzvs]) (by simp) (by simp [Tryz.f24]) (by simp [Tryz.f24]) ?_
  have k1 : Kp m ((m.new [int x.1, int x.2] false).new [int y.1, int y.2] false) := by simp
  have q1 := q34 (hA.kp k1)
  have q2 := q41 (hA.kp k1) x
  have q3 := q41 (hA.kp k1) y
  simp only [Tryz.f24, show ca.keepRes 24 = false from rfl]
  unfold equalM
  cases hgx : goodM a x with
  | false =>
    rw [hgx] at q2
    simp [q1.go, valA_agg, q2.go, undefV, undef]
  | true =>
  rw [hgx] at q2
  cases hgy : goodM a y with
  | false =>
    rw [hgy] at q3
    simp [q1.go, valA_agg, q2.go, q3.go]
  | true =>
  rw [hgy] at q3
  simp [q1.go, valA_agg, q2.go, q3.go, abuild, placesOf, fillAt]
  refine goH_of (q42 (X := fun j => X j ∧ j < m.next) (A := A) (L := m.next + 2) (a := a) hsm (fun h => by omega) 1025 1024 x y _ (hA.cut.kp (by simp)) ⟨by simp, m.clock + 3, by simp⟩ (by omega) (by omega) (by omega)) ?_
  rintro _ m5 ⟨rfl, hL5, kc5⟩
  simp
  exact kpc_kp kc5 (by simp) fun j h => by omega
end Go.Proofs.YtnhcmcfgemoehaaGreat

/- An arena that goes its own way. -/
set_option linter.unusedSimpArgs false
set_option linter.unusedVariables false
set_option linter.unusedSectionVars false
namespace Go.Proofs.YtnhcmcfgemoehaaGreat
set_option maxRecDepth 4000
open Go.V
attribute [local simp] Nat.add_assoc
theorem Has.elems {t : Nat → Option Nat} {n : Nat} {m : Mem} {x : AV} {l : List (List UInt8)} (h : Has t n 1 false (.emp 0) m x (l.map strA)) : elemsOf m x = some (l.map strA) := by
  rcases h with ⟨h, rfl⟩ | ⟨h, id, v, rfl, h1, _, h2⟩
  · rw [h]; rfl
  · simp only [elemsOf, h2]
    have := chunk_flat (k := 1) (ag := false) rfl (l.map strA) (fun y hy => by obtain ⟨s, _, rfl⟩ := List.mem_map.1 hy; simp)
    rw [if_pos ⟨by rw [flat_length (okAll_str l)]; simp, rfl⟩, List.drop_zero, this]
theorem strs_fzvs (m : Mem) : ∀ l : List (List UInt8), fzvs m (l.map strA) = (l.map strA, m)
  | [] => rfl
  | s :: l => by simp [fzvs, strs_fzvs m l]
theorem q62 {t : Nat → Option Nat} {n : Nat} {m : Mem} {x : AV} {l : List (List UInt8)} (h : Has t n 1 false (.emp 0) m x (l.map strA)) (hl : l.length ≤ 65536) : wph Tryz.prog ca (.func 62) [x] m fun v m' => Kp m m' ∧ v.okc = true ∧ v.cells = [v] := by
  have he := h.elems
  cases l with
  | nil =>
    have e : cloneL Tryz.prog 62 [x] m = some (.emp 1, m.skip) := by
      simp only [cloneL, he, List.map_nil]
    exact ⟨_, _, eh_hook rfl e, kp_skip (.refl m), rfl, rfl⟩
  | cons s l =>
    have run : EH Tryz.prog cf0 (.func 62) [x] m (.sl (m.next + 1) 0 (l.length + 1) 1 false none) ((m.new [] false).new (flat ((s :: l).map strA)) false) := by
      refine eh_of ?_
      refine wph_go Tryz.func62 rfl rfl (by simp [Tryz.f62]) (by simp [Tryz.f62]) fun Q hQ => ?_
      simp only [Tryz.f62, show cf0.keepRes 62 = true from rfl, show cf0.keepArgs 62 = true from rfl] at hQ ⊢
      rcases h with ⟨h, _⟩ | ⟨_, id, w, rfl, h1, _, h2⟩
      · cases h
      have hs : srcOf (m.new [] false) (.sl id 0 ((s :: l).map strA).length 1 false none) = some ((s :: l).map strA) := by
        have hne : id ≠ m.next := by omega
        have e1 : srcOf (m.new [] false) (.sl id 0 ((s :: l).map strA).length 1 false none) = elemsOf (m.new [] false) (.sl id 0 ((s :: l).map strA).length 1 false none) := rfl
        rw [e1, ← he]
        simp only [elemsOf, Mem.get_new, if_neg hne]
      have q := aapp_full (P := Tryz.prog) (T := 85) (k := 1) (ag := false) (ag' := false) (id := m.next) (ys := (s :: l).map strA) (ys' := (s :: l).map strA) (m := m.new [] false) (m' := m.new [] false) (v := m.clock + 1) el85 (by simp) (okAll_str _) (by first | exact strs_fzvs _ _ | simp [fzx, strs_fzvs]) (by simp) (by simp at hl ⊢; omega)
      have nn : ∀ {xo yo : Operand} {N : Nat}, abin Tryz.prog .eql 85 xo yo (.sl id 0 N 1 false none) (.emp 0) = some (.sc (.bool false)) := by
        intro xo yo N
        have : nilTest Tryz.prog 85 (.sl id 0 N 1 false none) (.emp 0) = some false := by simp [nilTest, Tryz.underlying85]
        simp [abin, plain, this]
      simp at hs q
      simp [nn, abuildSlice, fillAt, zeros, hs, q]
      refine hQ _ _ _ ⟨.inr rfl, _, rfl, ?_⟩
      simp [oneOf]
    have e : cloneL Tryz.prog 62 [x] m = some (.sl (m.next + 1) 0 (l.length + 1) 1 false none, (m.new [] false).new (flat ((s :: l).map strA)) false) := by
      simp only [cloneL, he, List.map_cons]
      exact lim_eq run
    exact ⟨_, _, eh_hook rfl e, by simp, rfl, rfl⟩
theorem mp_nil {x y : Operand} {i : Nat} : abin Tryz.prog .eql 89 x y (.mp i) (ofConst (.map none)) = some (.sc (.bool false)) := by
  show abin Tryz.prog .eql 89 x y (.mp i) (.sc (.map none)) = _
  have : nilTest Tryz.prog 89 (.mp i) (.sc (.map none)) = some false := by
    unfold nilTest
    rw [Tryz.underlying89]
  simp [abin, plain, this]
theorem iface89 {x : AV} : amakeIface Tryz.prog 89 x = some (.iface 89 x) := by unfold amakeIface; rw [Tryz.underlying89]
theorem assert89 {x : AV} : aassert Tryz.prog 89 false (.iface 89 x) = some x := by unfold aassert; rw [Tryz.underlying89]; simp
theorem q63 {i : Nat} {M : AMap} {m : Mem} (h : m.map i = some M) : wph Tryz.prog ca (.func 63) [.mp i] m fun v m' => Kp m m' ∧ ∃ j, v = .mp j := by
  obtain ⟨v', m', e, k, j, hj⟩ : ∃ v' m', EH Tryz.prog ca (.func 109) [.iface 89 (.mp i)] m v' m' ∧ Kp m m' ∧ ∃ j, v' = .iface 89 (.mp j) := by
    have hk : ca.hook 109 = some mcloneH := rfl
    refine ⟨.iface 89 (.mp m.next), _, eh_hook hk (by unfold mcloneH; simp only [h, Option.map_some]; rfl), by simp, _, rfl⟩
  refine wph_go Tryz.func63 rfl rfl (by simp [Tryz.f63]) (by simp [Tryz.f63]) fun Q hQ => ?_
  simp only [Tryz.f63, show ca.keepRes 63 = false from rfl, show ca.keepArgs 63 = false from rfl] at hQ ⊢
  subst hj
  simp [mp_nil, iface89, e.go, assert89]
  refine hQ _ _ _ ?_
  simp
  exact k
set_option maxHeartbeats 8000000 in
theorem q37 {X : Nat → Prop} {A : Nat} {a : ArM} {m : Mem} (hA : Ar X A a m) (hsm : Small a) : wph Tryz.prog ca (.func 37) [.ptr A 0] m fun v m' => (∃ i, v = .ptr i 0) ∧ Kp m m' := by
  refine wph_go Tryz.func37 rfl rfl (by simp [Tryz.f37]) (by simp [Tryz.f37]) fun Q hQ => ?_
  simp only [Tryz.f37, show ca.keepRes 37 = false from rfl, show ca.keepArgs 37 = false from rfl] at hQ ⊢
  have q1 := q34 hA
  obtain ⟨t, M, cs, ns, xs, h, hx⟩ := hA
  obtain ⟨w, hv⟩ := h.get
  obtain ⟨w2, hmap⟩ := h.map
  have hAl := h.lt
  have hMl := h.ml
  have hsane := h.sane
  simp [q1.go]
  refine go_drawD (by kernel_rfl) ?_
  simp [hv]
  refine goH_of (q62 h.names hsane.2.2.2) ?_
  rintro vn m1 ⟨k1, on1, on2⟩
  have hv1 := (k1.get A hAl).trans hv
  have hmap1 := (k1.x M hMl).2.trans hmap
  simp [hv1]
  refine goH_of (q63 hmap1) ?_
  rintro _ m2 ⟨k2, jm, rfl⟩
  have k12 := k1.trans k2
  have hv2 := (k12.get A hAl).trans hv
  have n2 := k12.next
  simp [abuild, placesOf, fillAt, on1, on2]
  refine goM_of (l := [(3, 8), (8, 12), (3, 13)]) (by kernel_rfl) (?_ : List.all _ _ = true) ?_
  · simp [metAtD, metOkD, rank, verKeptD, Region.wanted, Mem.ver, hv, hv1, hv2]
  have nA : A ≠ m2.next := by omega
  have lc := fun m' R => len_has (T := 74) (R := R) (m' := m') h.cells Tryz.underlying74
  simp only [List.length_zipWith, h.len, Nat.min_self] at lc
  simp [hv2, nA, lc]
  refine go_count 29 a.cells.length (fun i s' m' => Kp m m' ∧ m2.next < m'.next ∧ ∃ z ys w9, m'.get m2.next = some (.cells [int a.room, z, vn, .mp jm] false w9) ∧ Acc m m' 4 true ys z ∧ ys.length = i ∧ okAll 4 ys = true ∧ ¬ owns z m2.next) (by simp) (by omega) ⟨k12.trans (by simp), by simp, .emp 0, [], _, by simp; rfl, .inl ⟨rfl, rfl⟩, rfl, rfl, fun h => h⟩ ?_
  rintro i s' m' hi e29 ⟨hkp, hlt, z, ys, w9, hN, hacc, hyl, hok, hzN⟩ hsame hw Q' hn he
  have d3 : s'.at 3 = .ptr m2.next 0 := (hsame 3 (by kernel_rfl)).trans (by simp)
  have d27 : s'.at 27 = cs := (hsame 27 (by kernel_rfl)).trans (by simp)
  have d28 : s'.at 28 = int a.cells.length := (hsame 28 (by kernel_rfl)).trans (by simp)
  clear hsame
  simp [e29, d28]
  refine goB_split (fun hc => ?_) fun hc => ?_
  · have hlt2 : i < a.cells.length := by simpa using hc
    obtain ⟨c, hci⟩ : ∃ c, a.cells[i]? = some c := ⟨_, List.getElem?_eq_getElem hlt2⟩
    have h' := h.kc (Y := fun _ => False) (.of (.of hkp)) fun _ _ _ _ h => h
    obtain ⟨C, vc, x, rfl, hC, htC, hgC, hxi, hzi, hrow⟩ := h'.at hci
    have hix := aindexAddr_sl (P := Tryz.prog) (q := .i64) (ag := true) (c := none) (id := C) (off := 0) (len := a.cells.length) (i := i) Tryz.underlying74 tsize78 hlt2
    obtain ⟨f1, f2⟩ := flat_at (zip_ok a.cells xs) hzi
    have hnx := hkp.next
    have nC : C ≠ m'.next := by omega
    have nN : m2.next ≠ m'.next := by omega
    have hcs := hsm c (List.mem_of_getElem? hci)
    simp [e29, d27, hix, hgC, f1, f2]
    obtain ⟨M3, hM3⟩ : ∃ M3, M3 = (m'.new [int 0, int 0, .emp 0, .emp 0] false).set m'.next [int c.k, int c.n, x, .lst (byts c.s)] := ⟨_, rfl⟩
    have k3 : Kp m' M3 := by rw [hM3]; simp
    have n3 : M3.next = m'.next + 1 := by rw [hM3]; simp
    have hN3 := (k3.get m2.next hlt).trans hN
    have g5 : M3.get m'.next = some (.cells [int c.k, int c.n, x, .lst (byts c.s)] false (m'.clock + 2)) := by rw [hM3]; simp
    rw [← hM3]
    clear hM3
    refine go_drawD (by kernel_rfl) ?_
    simp [d3, hN3, g5]
    refine goH_of (q64 (c := c) (x0 := x) ((El.of hrow).kp k3) hcs.1 hcs.2) ?_
    rintro _ m4 ⟨k4, x2, rfl, hf⟩
    have n4 := k4.next
    have hN4 := (k4.get m2.next (by omega)).trans hN3
    have hsrc := src_one (m := m4.new (rowA c x2).cells false) (id := m4.next) (c := some 1) (k := 4) (ag := true) (x := rowA c x2) (w := m4.clock + 1) (f := false) rfl (by simp) (by simp) (rowA_agg c x2)
    obtain ⟨m5, p1, p2, ⟨w5, p3⟩, p4, p5⟩ := acc_app2 (T := 74) ((hacc.kp (k3.trans k4)).kp (.new m4 (rowA c x2).cells false)) hok el74 (zs := [rowA c x2]) (zs' := [rowA c x2]) (List.cons_ne_nil _ _) (by simp [okAll_cons, okAll_nil]) (by simp) (.refl _) (by simp; omega)
    have hN5 : m5.get m2.next = some (.cells [int a.room, z, vn, .mp jm] false w9) := by
      rw [p4 m2.next (by simp; omega) hzN]
      have : m2.next ≠ m4.next := by omega
      simp [this]
      exact hN4
    have nn4 : m2.next ≠ m4.next := by omega
    simp only [rowA_cells] at hsrc p1 p3
    simp [rowA, abuildSlice, zeros, fillAt]
    simp [rowA] at hsrc p1
    simp [abuiltin, hsrc, p1, d3, hN5]
    refine goM_of (l := [(4, 6), (4, 7)]) (by kernel_rfl) (?_ : List.all _ _ = true) ?_
    · simp [metAtD, metOkD, rank, verKeptD, Region.wanted, Mem.ver, d3, hN3, hN4, nn4]
    simp [e29, hw]
    have k34 := (hkp.trans k3).trans k4
    have kp5 : Kp m m5 := by
      refine ⟨by rw [p2]; simp; omega, fun j hj => ?_, fun j hj => ?_⟩
      · have a1 : j ≠ m4.next := by omega
        have := p4 j (by simp; omega) (fun hh => by have := (acc_lt hacc j hh).1; omega)
        simp [a1] at this
        rw [this]
        exact k34.get j hj
      · have b1 := p5 j (by simp; omega)
        have b2 := k34.x j hj
        simp at b1
        exact ⟨b1.1.trans b2.1, b1.2.trans b2.2⟩
    refine hn _ _ hlt2 (by simp) ⟨kp5.set n2 _, by simp [p2]; omega, _, ys ++ [rowA c x2], m5.clock + 1, by simp; rfl, .inr ⟨by simp, m4.next + 1, w5, by simp, by omega, by simp [p2], ?_⟩, by simp [hyl], ?_, fun hh => ?_⟩
    · have a1 : m4.next + 1 ≠ m2.next := by omega
      simp [a1]
      simpa using p3
    · have : okAll 4 (ys ++ [rowA c x2]) = (okAll 4 ys && okAll 4 [rowA c x2]) := by simp [okAll]
      rw [this, hok]
      simp [okAll_cons, okAll_nil]
    · have e : m4.next + 1 = m2.next := hh
      omega
  · simp
    refine he _ _ _ (by simp) ?_
    simp [d3]
    refine hQ _ _ _ ?_
    simp
    exact hkp
end Go.Proofs.YtnhcmcfgemoehaaGreat

/- A procedure that is called: what its parts do. -/
set_option linter.unusedSimpArgs false
set_option linter.unusedVariables false
set_option linter.unusedSectionVars false
namespace Go.Proofs.YtnhcmcfgemoehaaGreat
set_option maxRecDepth 4000
open Go.V
attribute [local simp] Nat.add_assoc
/-- A call's cells. -/
abbrev clC (A : Nat) (n : Int) (l : List Val) (k : Int) : List AV := [.ptr A 0, int n, .lst (vals l), int k]
/-- What has become of a call's arena and fault. -/
def Cs (X : Nat → Prop) (A C : Nat) (n : Int) (l : List Val) (a : ArM) (k : Int) (m m' : Mem) : Prop :=
  ∃ X', Ar X' A a m' ∧ (∀ j, X' j → (X j ∨ m.next ≤ j) ∧ j < m'.next) ∧ KpC (fun j => X j ∨ j = C) m m' ∧ has m' C (clC A n l k)
section
variable {X : Nat → Prop} {A C : Nat} {n : Int} {l : List Val} {a : ArM} {k : Int} {m : Mem}
theorem Cs.refl (hA : Ar X A a m) (hX : ∀ j, X j → j < m.next) (hC : has m C (clC A n l k)) : Cs X A C n l a k m m := ⟨X, hA, fun j h => ⟨.inl h, hX j h⟩, .refl _ _, hC⟩
theorem Cs.kp {m' : Mem} (hA : Ar X A a m) (hX : ∀ j, X j → j < m.next) (hC : has m C (clC A n l k)) (q : Kp m m') : Cs X A C n l a k m m' := ⟨X, hA.kp q, fun j h => ⟨.inl h, Nat.lt_of_lt_of_le (hX j h) q.next⟩, .of (.of q), hC.kp q⟩
/-- A box of one's own is written behind it. -/
theorem Cs.box {m1 m5 : Mem} {B : Nat} (k1 : Kp m m1) (hX : ∀ j, X j → j < m.next) (hCl : C < m.next) (h : Cs X A C n l a k m1 m5) (hB : m.next ≤ B) (hB1 : B < m1.next) (cs : List AV) : Cs X A C n l a k m (m5.set B cs) := by
  obtain ⟨X', h1, h2, h3, h4⟩ := h
  have n1 := k1.next
  refine ⟨X', h1.kc (kc_set B cs m5) fun j hj e => ?_, fun j hj => ?_, KpC.cut (((KpC.of (.of k1)).trans (h3.mono fun j h => .inl h)).trans ((kc_set B cs m5).mono fun j h => .inr (by omega))), h4.kc (kc_set B cs m5) (by omega)⟩
  · have e : j = B := e
    subst e
    rcases (h2 j hj).1 with h | h
    · have := hX j h; omega
    · omega
  · refine ⟨(h2 j hj).1.imp id fun h => by omega, by simpa using (h2 j hj).2⟩
theorem q112 (hA : Ar X A a m) (hsm : Small a) (hC : has m C (clC A n l k)) (v : Val) : EH Tryz.prog ca (.func 112) [.ptr C 0, valA v] m (ceA (getM a v).1) m := by
  obtain ⟨hl, w, hg⟩ := hC
  have n0 : C ≠ m.next := by omega
  have n1 : C ≠ m.next + 1 := by omega
  have n2 : C ≠ m.next + 2 := by omega
  have q := q57 (hA.kp (m' := (m.new [int v.1, int v.2] false).new [int 0, int 0, .emp 0, .emp 0] false) (by simp)) hsm v
  refine eh_run Tryz.func112 rfl rfl rfl rfl (args1 := [.ptr C 0, valA v]) (m1 := m) (by simp [fzvs]) (by simp) (by simp [Tryz.f112]) (by simp [Tryz.f112]) ?_
  simp only [Tryz.f112, show ca.keepRes 112 = false from rfl]
  simp
  refine go_drawD (by kernel_rfl) ?_
  simp [hg, n0, n1, valA_agg, q.go]
  refine goM_of (l := [(3, 9), (4, 9)]) (by kernel_rfl) (?_ : List.all _ _ = true) ?_
  · simp [metAtD, metOkD, rank, verKeptD, Region.wanted, Mem.ver, hg, n0, n1, n2]
  simp [fzs, ceA]
theorem field78 (c : CeM) : afield Tryz.prog 78 (ceA c) 0 = some (int c.k) := by
  have h1 : (tfield Tryz.prog 78 0).map (fun fd => (fd.type, fd.offset)) = some (3, 0) := by kernel_rfl
  obtain ⟨fd, h1, h2⟩ := Option.map_eq_some_iff.1 h1
  have h3 := congrArg Prod.fst h2
  have h4 := congrArg Prod.snd h2
  dsimp only at h3 h4
  simp only [afield, h1, ceA, h3, h4]
  rw [partOf_sc tagg3]
  rfl
theorem q65 (hA : Ar X A a m) (hsm : Small a) (hC : has m C (clC A n l k)) (v : Val) (kd : Int) : EH Tryz.prog ca (.func 65) [.ptr C 0, valA v, int kd] m (.sc (.bool (decide ((getM a v).1.k = kd)))) m := by
  have k1 : Kp m (m.new [int v.1, int v.2] false) := by simp
  have q := q112 (hA.kp k1) hsm (hC.kp k1) v
  refine eh_run Tryz.func65 rfl rfl rfl rfl (args1 := [.ptr C 0, valA v, int kd]) (m1 := m) (by simp [fzvs]) (by simp) (by simp [Tryz.f65]) (by simp [Tryz.f65]) ?_
  simp [Tryz.f65, show ca.keepRes 65 = false from rfl, valA_agg, q.go, field78]
theorem q126 (n : Int) : Gives Tryz.prog ca 126 [int n] (valA (1, n)) := by
  refine gives_run Tryz.func126 rfl rfl rfl rfl (by simp) (by simp [Tryz.f126]) (by simp [Tryz.f126]) fun m => ?_
  simp [Tryz.f126, show ca.keepRes 126 = false from rfl, abuild, placesOf, fillAt]
  rfl
def failK (k kd : Int) : Int := if k = 0 then kd else k
theorem q134 (hC : has m C (clC A n l k)) (kd : Int) : wph Tryz.prog ca (.func 134) [.ptr C 0, int kd] m fun v m' => v = valA (0, 0) ∧ KpC (fun j => j = C) m m' ∧ has m' C (clC A n l (failK k kd)) := by
  obtain ⟨hl, w, hg⟩ := hC
  have n0 : C ≠ m.next := by omega
  have n0' : m.next ≠ C := by omega
  refine wph_go Tryz.func134 rfl rfl (by simp [Tryz.f134]) (by simp [Tryz.f134]) fun Q hQ => ?_
  simp only [Tryz.f134, show ca.keepRes 134 = false from rfl, show ca.keepArgs 134 = false from rfl] at hQ ⊢
  by_cases h : k = 0
  · simp [hg, n0, n0', h, build51]
    refine hQ _ _ _ ?_
    rw [leave_ret]
    simp [aresult, oneOf, n0, n0', failK, h]
    refine ⟨rfl, KpC.cut (((KpC.of (.of (.new _ _ _))).trans ((kc_set C _ _).mono fun j h => .inl h)).trans ((kc_set m.next _ _).mono fun j h => .inr (by omega))), by simp; omega, m.clock + 2, by simp [n0]⟩
  · simp [hg, n0, n0', h, build51]
    refine hQ _ _ _ ?_
    rw [leave_ret]
    simp [aresult, oneOf, n0, n0', failK, h]
    exact ⟨rfl, (KpC.of (.of (by simp))), by simp; omega, w, by simp [n0, hg]⟩
theorem fzr_valA (m : Mem) (v : Val) : fzr m (valA v) = (valA v, m) := by
  have := valA_fzv v m
  unfold valA at *
  exact this
/-- A new cell, or a fault. -/
def allocC (a : ArM) (k : Int) (c : CeM) : Val × ArM × Int := if k ≠ 0 then ((0, 0), a, k) else if (allocM a c).2.2 ≠ 0 then ((0, 0), (allocM a c).1, 8) else ((allocM a c).2.1, (allocM a c).1, 0)
set_option maxHeartbeats 8000000 in
theorem q127 (hA : Ar X A a m) (hX : ∀ j, X j → j < m.next) (hXC : ¬ X C) (hC : has m C (clC A n l k)) (c : CeM) (h1 : c.a.length < 2 ^ 21) (h2 : c.s.length < 2 ^ 21) : wph Tryz.prog ca (.func 127) [.ptr C 0, ceA c] m fun v m' => v = valA (allocC a k c).1 ∧ Cs X A C n l (allocC a k c).2.1 (allocC a k c).2.2 m m' := by
  have hC0 := hC
  obtain ⟨hl, w, hg⟩ := hC
  have n0 : C ≠ m.next := by omega
  have n1 : C ≠ m.next + 1 := by omega
  have n2 : C ≠ m.next + 2 := by omega
  refine wph_go Tryz.func127 rfl rfl (by simp [Tryz.f127]) (by simp [Tryz.f127]) fun Q hQ => ?_
  simp only [Tryz.f127, show ca.keepRes 127 = false from rfl, show ca.keepArgs 127 = false from rfl] at hQ ⊢
  have fin : ∀ (s' : Sl) (m' : Mem) (v : Val) (a' : ArM) (k' : Int), s'.at 4 = .ptr (m.next + 1) 0 → (∃ w, m'.get (m.next + 1) = some (.cells [int v.1, int v.2] false w)) → allocC a k c = (v, a', k') → Cs X A C n l a' k' m m' → Q .ret s' m' := by
    intro s' m' v a' k' h4 ⟨w, hg⟩ hm hu
    refine hQ _ _ _ ?_
    rw [leave_ret]
    refine ⟨_, by simp [aresult, h4, hg, aload, partOf]; rfl, ?_⟩
    rw [hm]
    simp only [Bool.false_eq_true, if_false, oneOf, valA_agg, fzr_valA]
    exact ⟨trivial, hu⟩
  by_cases hk : k = 0
  rotate_left
  · simp [hg, n0, n1, hk, build51]
    exact fin _ _ (0, 0) a k (by simp) ⟨_, by simp; rfl⟩ (by rw [allocC, if_pos hk]) (Cs.kp hA hX hC0 (by simp))
  subst hk
  obtain ⟨M1, hM1⟩ : ∃ M1, M1 = ((m.new (ceA c).cells false).new [int 0, int 0] false) := ⟨_, rfl⟩
  have k1 : Kp m M1 := by rw [hM1]; simp
  have nM : M1.next = m.next + 2 := by rw [hM1]; simp
  have gc : M1.get m.next = some (.cells [int c.k, int c.n, .lst (vals c.a), .lst (byts c.s)] false (m.clock + 1)) := by rw [hM1]; simp
  have gB : M1.get (m.next + 1) = some (.cells [int 0, int 0] false (m.clock + 2)) := by rw [hM1]; simp
  have gC := (k1.get C hl).trans hg
  have ecA : AV.agg [int c.k, int c.n, .lst (vals c.a), .lst (byts c.s)] = ceA c := rfl
  simp [hg, n0, n1]
  simp at hM1
  rw [← hM1]
  clear hM1
  refine go_drawD (by kernel_rfl) ?_
  simp [gC, gc, ecA]
  refine goH_of (q60 (hA.kp k1) c h1 h2) ?_
  rintro _ m5 ⟨rfl, hup⟩
  obtain ⟨X', hA5, kc5, hX5⟩ := hup.out
  have n5 := kc5.next
  have g5C := (kc5.get C (by omega) hXC).trans gC
  have g5B := (kc5.get (m.next + 1) (by omega) (fun h => by have := hX _ h; omega)).trans gB
  have nC5 : C ≠ m5.next := by omega
  have nB5 : m.next + 1 ≠ m5.next := by omega
  have g5c := (kc5.get m.next (by omega) (fun h => by have := hX _ h; omega)).trans gc
  have nc5 : m.next ≠ m5.next := by omega
  simp
  refine goM_of (l := [(3, 9), (4, 9)]) (by kernel_rfl) (?_ : List.all _ _ = true) ?_
  · simp [metAtD, metOkD, rank, verKeptD, Region.wanted, Mem.ver, gC, gc, g5C, g5c, nC5, nc5, hg, n0, n1, n2]
  have hX1 : ∀ j, X' j → X j ∨ M1.next ≤ j := fun j h => (hX5 j h).1
  by_cases he : (allocM a c).2.2 = 0
  · simp [he, g5B, nB5, valA_agg]
    refine fin _ _ (allocM a c).2.1 (allocM a c).1 0 (by simp) ⟨_, by simp [nB5]; rfl⟩ (by rw [allocC, if_neg (by simp), if_neg (by simp [he])]) ?_
    have k5 : Kp m5 ((m5.new [int 0, int 0] false).set m5.next [int (allocM a c).2.1.1, int (allocM a c).2.1.2]) := by simp
    refine Cs.box k1 hX hl ⟨X', hA5.kp k5, fun j hj => ⟨(hX1 j hj).imp id fun h => by omega, ?_⟩, ?_, ?_⟩ (by omega) (by omega) _
    · have := (hX5 j hj).2
      simp; omega
    · exact (kc5.mono fun j h => .inl h).trans (.of (.of k5))
    · exact ⟨by simp; omega, w, by simp [nC5, g5C]⟩
  · simp [he]
    have k5 : Kp m5 ((m5.new [int 0, int 0] false).set m5.next [int (allocM a c).2.1.1, int (allocM a c).2.1.2]) := by simp
    refine goH_of (q134 (A := A) (n := n) (l := l) (k := 0) (m := (m5.new [int 0, int 0] false).set m5.next [int (allocM a c).2.1.1, int (allocM a c).2.1.2]) ⟨by simp; omega, w, by simp [nC5, g5C]⟩ 8) ?_
    rintro _ m7 ⟨rfl, kc7, hC7⟩
    have n7 := kc7.next
    simp at n7
    have g7B := kc7.get (m.next + 1) (by simp; omega) (by omega)
    simp [nB5, g5B] at g7B
    simp [g7B, valA_agg]
    refine fin _ _ (0, 0) (allocM a c).1 8 (by simp) ⟨_, by simp; rfl⟩ (by rw [allocC, if_neg (by simp), if_pos he]) ?_
    refine Cs.box k1 hX hl ⟨X', (hA5.kp k5).kc kc7 fun j hj e => ?_, fun j hj => ⟨(hX1 j hj).imp id fun h => by omega, ?_⟩, ?_, hC7⟩ (by omega) (by omega) _
    · have e : j = C := e
      subst e
      rcases hX1 j hj with h | h
      · exact absurd h hXC
      · omega
    · have := (hX5 j hj).2
      omega
    · exact ((kc5.mono fun j h => .inl h).trans (.of (.of k5))).trans (kc7.mono fun j h => Or.inr h)
end
end Go.Proofs.YtnhcmcfgemoehaaGreat

/- A list's values, taken out of an arena; turned about. -/
set_option linter.unusedSimpArgs false
set_option linter.unusedVariables false
set_option linter.unusedSectionVars false
namespace Go.Proofs.YtnhcmcfgemoehaaGreat
set_option maxRecDepth 4000
open Go.V
attribute [local simp] Nat.add_assoc
/-- Every pair has two values. -/
def Pairs (a : ArM) : Prop := ∀ c ∈ a.cells, c.k = 1 → ∃ x y, c.a = [x, y]
def carM (a : ArM) (v : Val) : Val := (getM a v).1.a.getD 0 (0, 0)
def cdrM (a : ArM) (v : Val) : Val := (getM a v).1.a.getD 1 (0, 0)
theorem Pairs.get {a : ArM} (h : Pairs a) {v : Val} (hk : (getM a v).1.k = 1) : (getM a v).1.a = [carM a v, cdrM a v] := by
  unfold carM cdrM
  unfold getM at *
  split at hk
  · rename_i i hi
    obtain ⟨_, c, hc⟩ := ixM_some hi
    simp only [List.getD_eq_getElem?_getD, hc, Option.getD_some] at hk ⊢
    obtain ⟨x, y, e⟩ := h c (List.mem_of_getElem? hc) hk
    simp [e]
  · simp [zeroC] at hk
/-- A list's values; what is wrong with it. -/
def listM (a : ArM) : Nat → Val → List Val × Int
  | n, v => if (getM a v).1.k = 1 then (match n with
      | 0 => ([], 6)
      | n + 1 => if (listM a n (cdrM a v)).2 = 0 then (carM a v :: (listM a n (cdrM a v)).1, 0) else ([], (listM a n (cdrM a v)).2)) else if v.1 = 4 then ([], 0) else ([], 1)
theorem listM_no {a : ArM} {n : Nat} {v : Val} (h : (getM a v).1.k ≠ 1) : listM a n v = if v.1 = 4 then ([], 0) else ([], 1) := by
  cases n <;> rw [listM, if_neg h]
theorem listM_0 {a : ArM} {v : Val} (h : (getM a v).1.k = 1) : listM a 0 v = ([], 6) := by rw [listM, if_pos h]
theorem listM_s {a : ArM} {n : Nat} {v : Val} (h : (getM a v).1.k = 1) : listM a (n + 1) v = if (listM a n (cdrM a v)).2 = 0 then (carM a v :: (listM a n (cdrM a v)).1, 0) else ([], (listM a n (cdrM a v)).2) := by rw [listM, if_pos h]
theorem listM_err {a : ArM} : ∀ (n : Nat) (v : Val), (listM a n v).2 ≠ 0 → (listM a n v).1 = []
  | n, v => by
    by_cases h : (getM a v).1.k = 1
    · cases n with
      | zero => simp [listM_0 h]
      | succ n =>
        rw [listM_s h]
        split
        · intro h; exact absurd rfl h
        · intro _; rfl
    · rw [listM_no h]
      split <;> simp
theorem acc_len {m0 m1 : Mem} {vs : List Val} {x : AV} (h : Acc m0 m1 2 true (vals vs) x) (R : TypeId) (m : Mem) : abuiltin Tryz.prog .len #[66] R [x] m = some (int vs.length, m) := by
  rcases h with ⟨h1, rfl⟩ | ⟨h, id, w, rfl, h2, h3, h4⟩
  · have : vs = [] := by simpa [vals] using h1
    subst this
    exact alen_emp Tryz.underlying66
  · rw [vals_length, alen_sl Tryz.underlying66]
section
variable {X : Nat → Prop} {A C : Nat} {n : Int} {l : List Val} {a : ArM} {k : Int} {m : Mem}
/-- What taking a list's values does. -/
def ListK (C A : Nat) (n : Int) (l : List Val) (k : Int) (r : List Val × Int) (m : Mem) (v : AV) (m' : Mem) : Prop :=
  Acc m m' 2 true (vals r.1) v ∧ KpC (fun j => j = C) m m' ∧ has m' C (clC A n l (if r.2 = 0 then k else failK k r.2))
set_option maxHeartbeats 8000000 in
theorem q130 (hA : Ar X A a m) (hsm : Small a) (hp : Pairs a) (hXC : ¬ X C) (hC : has m C (clC A n l k)) (v : Val) : wph Tryz.prog ca (.func 130) [.ptr C 0, valA v] m (ListK C A n l k (listM a 1024 v) m) := by
  refine wph_go Tryz.func130 rfl rfl (by simp [Tryz.f130]) (by simp [Tryz.f130]) fun Q hQ => ?_
  simp only [Tryz.f130, show ca.keepRes 130 = true from rfl, show ca.keepArgs 130 = false from rfl] at hQ ⊢
  simp
  refine go_loop (fun q s m' => ∃ (vs : List Val) (w : Val), q = 1025 - vs.length ∧ vs.length ≤ 1024 ∧ s.at 0 = .ptr C 0 ∧ s.at 3 = .ptr m.next 0 ∧ Kp m m' ∧ m.next < m'.next ∧ (∃ u, m'.get m.next = some (.cells [int w.1, int w.2] false u)) ∧ Acc (m.new [int 0, int 0] false) m' 2 true (vals vs) (s.at 5) ∧ listM a 1024 v = (if (listM a (1024 - vs.length) w).2 = 0 then (vs ++ (listM a (1024 - vs.length) w).1, 0) else ([], (listM a (1024 - vs.length) w).2))) 1025 ?_ ?_
  · refine ⟨[], v, by simp, by simp, by simp, by simp, by simp, by simp, ⟨_, by simp; rfl⟩, .inl ⟨rfl, by simp⟩, ?_⟩
    simp
    split
    · rename_i h; rw [← h]
    · rename_i h; rw [← listM_err _ _ h]
  · rintro q s m' ⟨vs, w, rfl, hvl, d0, d3, hkp, hlt, ⟨u, hB⟩, hacc, heq⟩ Q' hn he
    have hCm := hC.kp hkp
    have q1 := q112 (hA.kp hkp) hsm hCm w
    have ln := acc_len hacc
    have n0 : m.next ≠ m'.next := by omega
    have n1 : C ≠ m.next := by have := hC.1; omega
    simp [d0, d3, hB, valA_agg, q1.go, ceA]
    obtain ⟨M2, hM2⟩ : ∃ M2, M2 = (m'.new [int 0, int 0, .emp 0, .emp 0] false).set m'.next [int (getM a w).1.k, int (getM a w).1.n, .lst (vals (getM a w).1.a), .lst (byts (getM a w).1.s)] := ⟨_, rfl⟩
    have kM : Kp m' M2 := by rw [hM2]; simp
    have nM : M2.next = m'.next + 1 := by rw [hM2]; simp
    have gc : M2.get m'.next = some (.cells [int (getM a w).1.k, int (getM a w).1.n, .lst (vals (getM a w).1.a), .lst (byts (getM a w).1.s)] false (m'.clock + 2)) := by rw [hM2]; simp
    have gB := (kM.get m.next hlt).trans hB
    have hkp2 := hkp.trans kM
    have fin : ∀ (s' : Sl) (m7 : Mem) (r : List Val × Int) (x : AV), s'.at 4 = x → Acc (m.new [int 0, int 0] false) m7 2 true (vals r.1) x → KpC (fun j => j = C) m m7 → has m7 C (clC A n l (if r.2 = 0 then k else failK k r.2)) → listM a 1024 v = r → Q .ret s' m7 := by
      rintro s' m7 r x h4 hx kc hc rfl
      refine hQ _ _ _ ?_
      rw [leave_ret]
      simp [aresult, h4, oneOf]
      exact ⟨hx.imp id fun ⟨h, i, w, e, h1, h2⟩ => ⟨h, i, w, e, by simp at h1; omega, h2⟩, kc, hc⟩
    rw [← hM2]
    clear hM2
    have fail : ∀ (s' : Sl) (kd : Int) (d : Option Tmp) (kk : List It), kd ≠ 0 → listM a 1024 v = ([], kd) → (∀ m7, KpC (fun j => j = C) m m7 → has m7 C (clC A n l (failK k kd)) → goP Tryz.prog ca 43 Q' (aput 43 s' d (valA (0, 0))) kk m7) → goH Tryz.prog ca 43 Q' (.func 134) [.ptr C 0, int kd] d kk s' M2 := by
      intro s' kd d kk h0 _ hgo
      refine goH_of (q134 (A := A) (n := n) (l := l) (k := k) (m := M2) (hCm.kp kM) kd) ?_
      rintro _ m7 ⟨rfl, kc7, hC7⟩
      exact hgo m7 ((KpC.of (.of hkp2)).trans kc7) hC7
    by_cases hk : (getM a w).1.k = 1
    · simp [hk, ln]
      by_cases hf : vs.length = 1024
      · simp [hf, d0]
        rw [hf, Nat.sub_self, listM_0 hk, if_neg (by decide)] at heq
        refine fail _ 6 _ _ (by decide) heq fun m7 kc7 hC7 => ?_
        simp
        refine he _ _ _ (by simp) ?_
        simp
        exact fin _ _ ([], 6) (.emp 0) (by simp) (.inl ⟨rfl, rfl⟩) kc7 hC7 heq
      · have hf' : ¬ (vs.length : Int) = 1024 := by omega
        have ea := hp.get hk
        have hx0 : aindexAddr Tryz.prog 66 (.lst (vals (getM a w).1.a)) (int 0) = some ((valA (carM a w)).cptr 0) := vals_at (i := 0) (by rw [ea]; rfl)
        have hx1 : aindexAddr Tryz.prog 66 (.lst (vals (getM a w).1.a)) (int 1) = some ((valA (cdrM a w)).cptr 0) := vals_at (i := 1) (by rw [ea]; rfl)
        have hsrc := src_one (m := M2.new (valA (carM a w)).cells false) (id := M2.next) (c := some 1) (k := 2) (ag := true) (x := valA (carM a w)) (w := M2.clock + 1) (f := false) rfl (by simp) (by simp) (by simp [valA])
        obtain ⟨v3, m6, p1, p2, p3, p4⟩ := acc_any (T := 66) (m := M2.new (valA (carM a w)).cells false) (zs := [valA (carM a w)]) ((hacc.kp kM).kp (.new _ _ _)) (by simp; omega) (vals_ok _) el66 (by simp [okAll_cons, okAll_nil]) (by simp [fzx, fzvs]) (by simp; omega)
        have n7 := p3.next
        simp at n7
        have ho : ∀ j, owns (s.at 5) j → m.next < j ∧ j < m'.next := fun j h => by
          have := acc_lt hacc j h
          simp at this
          omega
        have k6 : Kp m m6 := by
          have k5 := hkp2.newr (valA (carM a w)).cells false
          have q := k5.next
          exact ⟨by omega, fun j hj => (p3.get j (by omega) fun h => by have := ho j h; omega).trans (k5.get j hj), fun j hj => have q := p3.x j (by omega) fun h => by have := ho j h; omega
            ⟨q.1.trans (k5.x j hj).1, q.2.trans (k5.x j hj).2⟩⟩
        have gc6 := p3.get m'.next (by simp; omega) fun h => by have := ho _ h; omega
        have gB6 := p3.get m.next (by simp; omega) fun h => by have := ho _ h; omega
        have nc : m'.next ≠ M2.next := by omega
        have nB : m.next ≠ M2.next := by omega
        simp [nc, gc] at gc6
        simp [nB, gB] at gB6
        simp only [valA_cells] at hsrc p1 p3
        simp [hf', gc, hk, d0, d3, hx0, abuildSlice, zeros, fillAt, abuiltin, hsrc, p1, gc6, gB6, hx1]
        have e1 : 1024 - vs.length = 1024 - (vs ++ [carM a w]).length + 1 := by simp; omega
        rw [e1, listM_s hk] at heq
        refine hn _ _ _ (by simp; omega) ⟨vs ++ [carM a w], cdrM a w, rfl, by simp; omega, by simp [d0], by simp [d3], k6.set (Nat.le_refl _) _, by simp; omega, ⟨_, by simp; rfl⟩, ?_, ?_⟩
        · rw [vals_append, vals_cons, vals_nil]
          simp
          refine p2.imp id fun ⟨h, i, w, e, h1, h2, h3⟩ => ⟨h, i, w, e, h1, by simpa using h2, ?_⟩
          simp at h1
          have : i ≠ m.next := by omega
          simp [this, h3]
        · rw [heq]
          by_cases h0 : (listM a (1024 - (vs ++ [carM a w]).length) (cdrM a w)).2 = 0
          · simp only [if_pos h0]; simp
          · simp only [if_neg h0]
    · simp [hk, gc, gB, d3]
      rw [listM_no hk] at heq
      by_cases h4 : w.1 = 4
      · simp [h4]
        refine he _ _ _ (by simp) ?_
        simp
        rw [if_pos h4] at heq
        simp at heq
        exact fin _ _ (vs, 0) (s.at 5) (by simp) (hacc.kp kM) (.of (.of hkp2)) (hCm.kp kM) heq
      · simp [h4, d0]
        rw [if_neg h4, if_neg (by decide)] at heq
        refine fail _ 1 _ _ (by decide) heq fun m7 kc7 hC7 => ?_
        simp
        refine he _ _ _ (by simp) ?_
        simp
        exact fin _ _ ([], 1) (.emp 0) (by simp) (.inl ⟨rfl, rfl⟩) kc7 hC7 heq
end
/-- One value of a row is written. -/
theorem splice_vals : ∀ (l : List Val) (i : Nat) (v : Val), i < l.length → splice (flat (vals l)) (i * 2) [int v.1, int v.2] = flat (vals (l.set i v))
  | x :: l, 0, v, _ => by simp [vals_cons, flat_cons, splice, valA]
  | x :: l, i + 1, v, h => by
    have ih := splice_vals l i v (by simpa using h)
    have e : (i + 1) * 2 = i * 2 + 2 := by omega
    simp only [splice] at ih
    rw [List.set_cons_succ, vals_cons, vals_cons, flat_cons, flat_cons, ← ih, e]
    simp [splice, valA]
theorem q131 {m0 m : Mem} {l : List Val} {x : AV} (h : Acc m0 m 2 true (vals l) x) (hl : l.length ≤ 4096) : wph Tryz.prog ca (.func 131) [x] m fun _ m' => Acc m0 m' 2 true (vals l.reverse) x ∧ KpC (owns x) m m' := by
  refine wph_go Tryz.func131 rfl rfl (by simp [Tryz.f131]) (by simp [Tryz.f131]) fun Q hQ => ?_
  simp only [Tryz.f131, show ca.keepRes 131 = false from rfl, show ca.keepArgs 131 = true from rfl] at hQ ⊢
  have wl : IntKind.i64.wrap ((l.length : Int) - 1) = l.length - 1 := IntWalk.i64_in _ (by omega)
  simp [acc_len h, wl]
  rcases id h with ⟨h1, rfl⟩ | ⟨hne, id, w, rfl, h2, h3, h4⟩
  · have : l = [] := by simpa [vals] using h1
    subst this
    refine go_loop (fun q s m' => s.at 2 = int 0 ∧ s.at 3 = int (-1) ∧ m' = m) 0 ⟨by simp, by simp, rfl⟩ ?_
    rintro q s m' ⟨e2, e3, rfl⟩ Q' hn he
    simp [e2, e3]
    refine he _ _ _ (by simp) ?_
    simp
    refine hQ _ _ _ ⟨.inl rfl, [], rfl, h, .refl _ _⟩
  rw [vals_length] at *
  refine go_loop (fun q s m' => ∃ (i : Nat) (l' : List Val), q = l.length - i ∧ i ≤ l.length ∧ s.at 0 = .sl id 0 l.length 2 true none ∧ s.at 2 = int i ∧ s.at 3 = int ((l.length : Int) - 1 - i) ∧ l'.length = l.length ∧ (∀ q, q < l.length → l'[q]? = if q < i ∨ l.length ≤ q + i then l[l.length - 1 - q]? else l[q]?) ∧ (∃ w, m'.get id = some (.cells (flat (vals l')) false w)) ∧ KpC (fun j => id = j) m m') l.length ?_ ?_
  · refine ⟨0, l, by simp, by simp, by simp, by simp, by simp, rfl, fun q hq => ?_, ⟨w, h4⟩, .refl _ _⟩
    rw [if_neg (by omega)]
  · rintro q s m' ⟨i, l', rfl, hi, d0, d2, d3, hll, hch, ⟨u, hg⟩, kc⟩ Q' hn he
    simp [d2, d3]
    by_cases hc : (i : Int) < (l.length : Int) - 1 - i
    · have hix := fun (q : Nat) (hq : q < l.length) => aindexAddr_sl (P := Tryz.prog) (q := .i64) (ag := true) (c := none) (id := id) (off := 0) (len := l.length) (i := q) Tryz.underlying66 tsize51 hq
      obtain ⟨j, hj⟩ : ∃ j : Nat, j = l.length - 1 - i := ⟨_, rfl⟩
      have hji : (l.length : Int) - 1 - i = (j : Int) := by omega
      obtain ⟨v1, hv1⟩ : ∃ v, l'[i]? = some v := ⟨_, List.getElem?_eq_getElem (by omega)⟩
      obtain ⟨v2, hv2⟩ : ∃ v, l'[j]? = some v := ⟨_, List.getElem?_eq_getElem (by omega)⟩
      have a1 : (vals l')[i]? = some (valA v1) := by rw [vals_get, hv1]; rfl
      have a2 : (vals l')[j]? = some (valA v2) := by rw [vals_get, hv2]; rfl
      obtain ⟨f1, f2⟩ := flat_at (vals_ok l') a1
      obtain ⟨g1, g2⟩ := flat_at (vals_ok l') a2
      have s1 : (flat (vals l')).take (i * 2) ++ int v2.1 :: int v2.2 :: (flat (vals l')).drop (i * 2 + 2) = flat (vals (l'.set i v2)) := by simpa [splice] using splice_vals l' i v2 (by omega)
      have s2 : (flat (vals (l'.set i v2))).take (j * 2) ++ int v1.1 :: int v1.2 :: (flat (vals (l'.set i v2))).drop (j * 2 + 2) = flat (vals ((l'.set i v2).set j v1)) := by simpa [splice] using splice_vals (l'.set i v2) j v1 (by simp; omega)
      simp only [valA_cells] at f2 g2
      rw [hji] at hc d3
      have hix1 := hix i (by omega)
      have hix2 := hix j (by omega)
      have hl2 : (flat (vals (l'.set i v2))).length = (flat (vals l')).length := by rw [← s1]; simp; omega
      simp [hji, hc]
      refine go_draw0 (by kernel_rfl) (by kernel_rfl) ?_
      simp [d0, d2, d3, hix1, hix2, hg, f1, f2, g1, g2, s1, s2, hl2]
      have wi : IntKind.i64.wrap ((i : Int) + 1) = ((i + 1 : Nat) : Int) := by rw [IntWalk.i64_in _ (by omega)]; omega
      have wj : IntKind.i64.wrap ((j : Int) - 1) = (l.length : Int) - 1 - ((i + 1 : Nat) : Int) := by rw [IntWalk.i64_in _ (by omega)]; omega
      rw [wi, wj]
      refine hn _ _ _ (by omega) ⟨i + 1, (l'.set i v2).set j v1, rfl, by omega, by simp [d0], by simp, by simp, by simp [hll], fun q hq => ?_, ⟨_, by simp; rfl⟩, (kc.trans ((kc_set id _ _).mono fun j h => h.symm)).trans ((kc_set id _ _).mono fun j h => h.symm)⟩
      have c1 := hch i (by omega)
      rw [if_neg (by omega), hv1] at c1
      have c2 := hch j (by omega)
      rw [if_neg (by omega), hv2] at c2
      by_cases hq1 : q = j
      · subst hq1
        rw [List.getElem?_set_self (by simp; omega), if_pos (.inr (by omega)), c1]
        congr 1; omega
      · rw [List.getElem?_set_ne (by omega)]
        by_cases hq2 : q = i
        · subst hq2
          rw [List.getElem?_set_self (by omega), if_pos (.inl (by omega)), c2, hj]
        · rw [List.getElem?_set_ne (by omega), hch q hq]
          by_cases hc2 : q < i ∨ l.length ≤ q + i
          · have hc3 : q < i + 1 ∨ l.length ≤ q + (i + 1) := by omega
            rw [if_pos hc2, if_pos hc3]
          · have hc3 : ¬ (q < i + 1 ∨ l.length ≤ q + (i + 1)) := by omega
            rw [if_neg hc2, if_neg hc3]
    · simp [hc]
      refine he _ _ _ (by simp) ?_
      simp
      refine hQ _ _ _ ⟨.inl rfl, [], rfl, .inr ⟨by simpa [vals] using hne, id, u, by simp, h2, Nat.lt_of_lt_of_le h3 kc.next, ?_⟩, kc⟩
      have : l' = l.reverse := by
        refine List.ext_getElem? fun q => ?_
        by_cases hq : q < l.length
        · rw [hch q hq, List.getElem?_reverse hq]
          split
          · rfl
          · congr 1; omega
        · rw [List.getElem?_eq_none (by omega), List.getElem?_eq_none (by simp; omega)]
      rw [← this]
      exact hg
end Go.Proofs.YtnhcmcfgemoehaaGreat
namespace Go.Proofs.YtnhcmcfgemoehaaGreat
set_option maxRecDepth 4000
open Go.V
attribute [local simp] Nat.add_assoc
def lists (l : List (List Val)) : List AV := l.map fun x => .lst (vals x)
@[simp] theorem lists_length (l : List (List Val)) : (lists l).length = l.length := by simp [lists]
theorem lists_get (l : List (List Val)) (i : Nat) : (lists l)[i]? = (l[i]?).map fun x => .lst (vals x) := by simp [lists]
set_option maxHeartbeats 4000000 in
theorem back181 {J : Nat → Mem → Prop} {lo db : Nat} (l : List Val) (hl : l.length < 2 ^ 21)
    (hJ : ∀ k x m, l[k]? = some x → J (k + 1) m → wph Tryz.prog ca (.yield lo) [int k, valA x] m fun v m' => v = .sc (.bool true) ∧ J k m')
    (hb : ∀ k m, J k m → has m db [.lst (vals l)]) (m : Mem) (h : J l.length m) : wph Tryz.prog ca (.func 181) [.yl lo, .ptr db 0] m fun v m' => v = .tup [] ∧ J 0 m' := by
  refine wph_go Tryz.func181 rfl rfl (by simp [Tryz.f181]) (by simp [Tryz.f181]) fun Q hQ => ?_
  simp only [Tryz.f181, show ca.keepRes 181 = false from rfl, show ca.keepArgs 181 = false from rfl] at hQ ⊢
  obtain ⟨bl, bv, be⟩ := hb _ _ h
  have w0 : IntKind.i64.wrap ((l.length : Int) - 1) = (l.length : Int) - 1 := IntWalk.i64_in _ (by omega)
  simp [be, w0]
  refine go_loop (fun k s m' => k ≤ l.length ∧ s.at 3 = int ((k : Int) - 1) ∧ s.at 0 = .yl lo ∧ s.at 1 = .ptr db 0 ∧ J k m') l.length ⟨Nat.le_refl _, by simp, by simp, by simp, h⟩ ?_
  rintro k s m' ⟨hk, e3, e0, e1, hJk⟩ Q' hn he
  obtain ⟨bl, bv, be⟩ := hb _ _ hJk
  simp [e3]
  cases k with
  | zero =>
    simp
    refine he _ _ _ (by simp) ?_
    simp
    exact hQ _ _ _ (by rw [leave_none (.inl rfl)]; exact ⟨rfl, hJk⟩)
  | succ k =>
    obtain ⟨x, hx⟩ : ∃ x, l[k]? = some x := ⟨_, List.getElem?_eq_getElem (by omega)⟩
    have hx' : (vals l)[k]? = some (valA x) := by rw [vals_get, hx]; rfl
    have e3' : s.at 3 = int (k : Int) := by rw [e3]; congr 3; omega
    have ek : ((k : Int) + 1 - 1) = (k : Int) := by omega
    have hix := aindexAddr_lst (P := Tryz.prog) (q := .i64) Tryz.underlying66 tsize51 hx' (by simp)
    have h0 : (0 : Int) ≤ k := by omega
    have w1 : IntKind.i64.wrap ((k : Int) - 1) = (k : Int) - 1 := IntWalk.i64_in _ (by omega)
    have h1 : (1 : Int) ≤ (k : Int) + 1 := by omega
    simp [e0, e1, e3', be, hix, ek, h1]
    refine goH_of (hJ k x m' hx hJk) ?_
    rintro v m2 ⟨rfl, hJ2⟩
    simp [e3', w1]
    refine hn k _ _ (by omega) ⟨by omega, by simp, by simp [e0], by simp [e1], hJ2⟩
theorem q171 (l : List Val) (m : Mem) : EH Tryz.prog ca (.func 171) [.lst (vals l)] m (.fn (.func 181) [] [.ptr m.next 0]) (m.new [.lst (vals l)] false) := by
  refine eh_of (wph_go Tryz.func171 rfl rfl (by simp [Tryz.f171]) (by simp [Tryz.f171]) fun Q hQ => ?_)
  simp only [Tryz.f171, show ca.keepRes 171 = false from rfl, show ca.keepArgs 171 = false from rfl] at hQ ⊢
  simp
  exact hQ _ _ _ ⟨.inr rfl, _, rfl, by simp [oneOf]⟩
set_option maxHeartbeats 4000000 in
theorem back172 {J : Nat → Mem → Prop} {lo db : Nat} (l : List (List Val)) (hl : l.length < 2 ^ 21)
    (hJ : ∀ k x m, l[k]? = some x → J (k + 1) m → wph Tryz.prog ca (.yield lo) [int k, .lst (vals x)] m fun v m' => v = .sc (.bool true) ∧ J k m')
    (hb : ∀ k m, J k m → has m db [.lst (lists l)]) (m : Mem) (h : J l.length m) : wph Tryz.prog ca (.func 172) [.yl lo, .ptr db 0] m fun v m' => v = .tup [] ∧ J 0 m' := by
  refine wph_go Tryz.func172 rfl rfl (by simp [Tryz.f172]) (by simp [Tryz.f172]) fun Q hQ => ?_
  simp only [Tryz.f172, show ca.keepRes 172 = false from rfl, show ca.keepArgs 172 = false from rfl] at hQ ⊢
  obtain ⟨bl, bv, be⟩ := hb _ _ h
  have w0 : IntKind.i64.wrap ((l.length : Int) - 1) = (l.length : Int) - 1 := IntWalk.i64_in _ (by omega)
  simp [be, w0]
  refine go_loop (fun k s m' => k ≤ l.length ∧ s.at 3 = int ((k : Int) - 1) ∧ s.at 0 = .yl lo ∧ s.at 1 = .ptr db 0 ∧ J k m') l.length ⟨Nat.le_refl _, by simp, by simp, by simp, h⟩ ?_
  rintro k s m' ⟨hk, e3, e0, e1, hJk⟩ Q' hn he
  obtain ⟨bl, bv, be⟩ := hb _ _ hJk
  simp [e3]
  cases k with
  | zero =>
    simp
    refine he _ _ _ (by simp) ?_
    simp
    exact hQ _ _ _ (by rw [leave_none (.inl rfl)]; exact ⟨rfl, hJk⟩)
  | succ k =>
    obtain ⟨x, hx⟩ : ∃ x, l[k]? = some x := ⟨_, List.getElem?_eq_getElem (by omega)⟩
    have hx' : (lists l)[k]? = some (.lst (vals x)) := by rw [lists_get, hx]; rfl
    have e3' : s.at 3 = int (k : Int) := by rw [e3]; congr 3; omega
    have ek : ((k : Int) + 1 - 1) = (k : Int) := by omega
    have hix := aindexAddr_lst (P := Tryz.prog) (q := .i64) Tryz.underlying175 tsize66 hx' (by simp)
    have h0 : (0 : Int) ≤ k := by omega
    have w1 : IntKind.i64.wrap ((k : Int) - 1) = (k : Int) - 1 := IntWalk.i64_in _ (by omega)
    have h1 : (1 : Int) ≤ (k : Int) + 1 := by omega
    simp [e0, e1, e3', be, hix, ek, h1]
    refine goH_of (hJ k x m' hx hJk) ?_
    rintro v m2 ⟨rfl, hJ2⟩
    simp [e3', w1]
    refine hn k _ _ (by omega) ⟨by omega, by simp, by simp [e0], by simp [e1], hJ2⟩
theorem q133 (l : List (List Val)) (m : Mem) : EH Tryz.prog ca (.func 133) [.lst (lists l)] m (.fn (.func 172) [] [.ptr m.next 0]) (m.new [.lst (lists l)] false) := by
  refine eh_of (wph_go Tryz.func133 rfl rfl (by simp [Tryz.f133]) (by simp [Tryz.f133]) fun Q hQ => ?_)
  simp only [Tryz.f133, show ca.keepRes 133 = false from rfl, show ca.keepArgs 133 = false from rfl] at hQ ⊢
  simp
  exact hQ _ _ _ ⟨.inr rfl, _, rfl, by simp [oneOf]⟩
end Go.Proofs.YtnhcmcfgemoehaaGreat
namespace Go.Proofs.YtnhcmcfgemoehaaGreat
set_option maxRecDepth 4000
open Go.V
attribute [local simp] Nat.add_assoc
/-- A list made ahead of a value. -/
def aheadM (a : ArM) (k : Int) (e : Val) : List Val → Val × ArM × Int
  | [] => (e, a, k)
  | x :: l => allocC (aheadM a k e l).2.1 (aheadM a k e l).2.2 ⟨1, 0, [x, (aheadM a k e l).1], []⟩
/-- What is so while it is made. -/
def JA (X : Nat → Prop) (A C : Nat) (n : Int) (l0 : List Val) (m : Mem) (c : LCode) (xs : List Val) (r : Val × ArM × Int) (mm : Mem) : Prop :=
  (∃ X1, Ar X1 A r.2.1 mm ∧ ∀ j, X1 j → (X j ∨ m.next + 5 ≤ j) ∧ j < mm.next) ∧ KpC (fun j => X j ∨ j = C) m mm ∧ has mm C (clC A n l0 r.2.2) ∧ (∃ w, mm.get m.next = some (.cells [.ptr C 0] false w)) ∧ (∃ w, mm.get (m.next + 1) = some (.cells [int r.1.1, int r.1.2] false w)) ∧ (∃ w, mm.get (m.next + 2) = some (.cells [int 0, int 0] false w)) ∧ has mm (m.next + 3) [.lst (vals xs)] ∧ (∃ ver, mm.loop (m.next + 4) = some ⟨.ready, none, c, ver⟩) ∧ m.next + 5 ≤ mm.next
set_option maxHeartbeats 8000000 in
theorem q129 {X : Nat → Prop} {A C : Nat} {n : Int} {l0 : List Val} {a : ArM} {k : Int} {m : Mem} (hA : Ar X A a m) (hX : ∀ j, X j → j < m.next) (hXC : ¬ X C) (hC : has m C (clC A n l0 k)) (l : List Val) (hl : l.length < 2 ^ 21) (e : Val) : wph Tryz.prog ca (.func 129) [.ptr C 0, .lst (vals l), valA e] m fun v m' => v = valA (aheadM a k e l).1 ∧ Cs X A C n l0 (aheadM a k e l).2.1 (aheadM a k e l).2.2 m m' := by
  have hC0 := hC
  obtain ⟨hCl, w, hg⟩ := hC
  refine wph_go Tryz.func129 rfl rfl (by simp [Tryz.f129]) (by simp [Tryz.f129]) fun Q hQ => ?_
  simp only [Tryz.f129, show ca.keepRes 129 = false from rfl, show ca.keepArgs 129 = false from rfl] at hQ ⊢
  obtain ⟨M1, hM1⟩ : ∃ M1, M1 = ((m.new [.ptr C 0] false).new [int e.1, int e.2] false).new [int 0, int 0] false := ⟨_, rfl⟩
  have k1 : Kp m M1 := by rw [hM1]; simp
  have n1 : M1.next = m.next + 3 := by rw [hM1]; simp
  have g0 : M1.get m.next = some (.cells [.ptr C 0] false (m.clock + 1)) := by rw [hM1]; simp
  have g1 : M1.get (m.next + 1) = some (.cells [int e.1, int e.2] false (m.clock + 2)) := by rw [hM1]; simp
  have g2 : M1.get (m.next + 2) = some (.cells [int 0, int 0] false (m.clock + 3)) := by rw [hM1]; simp
  simp
  rw [← hM1]
  clear hM1
  simp [(q171 l M1).go]
  refine go_range (f := 181) (a := []) (b := [.ptr M1.next 0]) (by simp) (by kernel_rfl) ?_
  simp only [List.nil_append, List.singleton_append]
  generalize hcd : LCode.mk _ _ _ _ _ = c
  refine wph_mono (back181 (J := fun k' mm => JA X A C n l0 m c l (aheadM a k e (l.drop k')) mm) l hl ?_ (fun k mm h => by rw [n1]; exact h.2.2.2.2.2.2.1) _ ?_) ?_
  · rintro k' x mm hx ⟨⟨X1, hA1, hX1⟩, kc, hC1, ⟨w0, h0⟩, ⟨w1, h1⟩, ⟨w2, h2⟩, h3, ⟨ver, hloop⟩, hn⟩
    have hid : (M1.new [AV.lst (vals l)] false).next = m.next + 4 := by simp [n1]
    rw [hid]
    refine wph_round hloop (by rw [← hcd]; rfl) ?_
    have c1 := congrArg LCode.assign hcd
    have c2 := congrArg LCode.body hcd
    have c3 := congrArg LCode.N hcd
    have c4 := congrArg LCode.s hcd
    have c5 := congrArg LCode.ps hcd
    dsimp only at c1 c2 c3 c4 c5
    simp only [← c1, ← c2, ← c3, ← c4, ← c5]
    have hstep : aheadM a k e (l.drop k') = allocC (aheadM a k e (l.drop (k' + 1))).2.1 (aheadM a k e (l.drop (k' + 1))).2.2 ⟨1, 0, [x, (aheadM a k e (l.drop (k' + 1))).1], []⟩ := by
      obtain ⟨h1, h2⟩ := List.getElem?_eq_some_iff.1 hx
      rw [← List.getElem_cons_drop h1, h2, aheadM]
    rw [hstep]
    generalize aheadM a k e (l.drop (k' + 1)) = r at hA1 hC1 h1 ⊢
    have z0 : m.next ≠ mm.next := by omega
    have z1 : m.next + 1 ≠ mm.next := by omega
    simp [Sl.puts, hloop, h0, h1, z0, z1, abuildSlice, zeros, fillAt, abuild, placesOf]
    obtain ⟨Mb, hMb⟩ : ∃ Mb, Mb = (((mm.new [int 0, int 0] false).set mm.next [int x.1, int x.2]).setLoop (m.next + 4) .busy none c).new [int x.1, int x.2, int r.1.1, int r.1.2] false := ⟨_, rfl⟩
    have kb : KpC (fun j => j = m.next + 4) mm Mb := by
      rw [hMb]
      exact ⟨by simp, fun id hi hx => by
        have a1 : id ≠ mm.next := by omega
        have a2 : id ≠ mm.next + 1 := by omega
        simp [a1, a2], fun id hi hx => by
        have a1 : id ≠ m.next + 4 := hx
        simp [a1]⟩
    have nb : Mb.next = mm.next + 2 := by rw [hMb]; simp
    obtain ⟨wF, gF⟩ : ∃ w, Mb.get (mm.next + 1) = some (.cells [int x.1, int x.2, int r.1.1, int r.1.2] false w) := ⟨_, by rw [hMb]; simp; rfl⟩
    obtain ⟨uL, lb⟩ : ∃ w, Mb.loop (m.next + 4) = some ⟨.busy, none, c, w⟩ := ⟨_, by rw [hMb]; simp; rfl⟩
    rw [← hMb]
    clear hMb
    obtain ⟨M9, hM9⟩ : ∃ M9, M9 = Mb.mark (mm.next + 1) (flat (vals [x, r.1])) wF := ⟨_, rfl⟩
    have k9 : KpC (fun j => j = m.next + 4) mm M9 := by
      rw [hM9]
      exact KpC.cut (KpC.trans (kb.mono fun j h => .inl h) ((kc_mark (mm.next + 1) wF _ Mb).mono fun j h => .inr (by omega)))
    have n9 : M9.next = mm.next + 2 := by rw [hM9]; simp [nb]
    have l9 : M9.loop (m.next + 4) = some ⟨.busy, none, c, uL⟩ := by rw [hM9]; simp; exact lb
    have q := wph_fz Tryz.func127 rfl rfl rfl (fz_two (A := C) (k := 1) (x := x) (y := r.1) gF) (by simp [fzvs]) (q127 (X := X1) (A := A) (n := n) (l := l0) (k := r.2.2) (a := r.2.1) (m := Mb.mark (mm.next + 1) (flat (vals [x, r.1])) wF) (by rw [← hM9]; exact hA1.kc k9 fun j h e => by rcases (hX1 j h).1 with h | h; have := hX j h; omega; omega) (fun j h => by rw [← hM9, n9]; have := (hX1 j h).2; omega) (fun h => by rcases (hX1 C h).1 with h | h; exact hXC h; omega) (by rw [← hM9]; exact hC1.kc k9 (by omega)) ⟨1, 0, [x, r.1], []⟩ (by simp) (by simp))
    rw [← hM9] at q
    refine goH_of q ?_
    rintro _ m5 ⟨rfl, X2, hA2, hX2, kc2, hC2⟩
    have n5 := kc2.next
    have keep : ∀ j, m.next ≤ j → j < m.next + 5 → ¬ (X1 j ∨ j = C) := fun j h1 h2 h => by
      rcases h with h | h
      · rcases (hX1 j h).1 with h | h
        · have := hX j h; omega
        · omega
      · omega
    have h50 := (kc2.get m.next (by omega) (keep _ (by omega) (by omega))).trans ((k9.get m.next (by omega) (by omega)).trans h0)
    have h51 := (kc2.get (m.next + 1) (by omega) (keep _ (by omega) (by omega))).trans ((k9.get (m.next + 1) (by omega) (by omega)).trans h1)
    have h52 := (kc2.get (m.next + 2) (by omega) (keep _ (by omega) (by omega))).trans ((k9.get (m.next + 2) (by omega) (by omega)).trans h2)
    have h53 := (h3.kc k9 (by omega)).kc kc2 (keep _ (by omega) (by omega))
    have l5 := (kc2.x (m.next + 4) (by omega) (keep _ (by omega) (by omega))).1.trans l9
    simp [h51, l5, valA_agg]
    have hX2' : ∀ j, X2 j → (X j ∨ m.next + 5 ≤ j) ∧ j < m5.next := fun j h => ⟨(hX2 j h).1.elim (fun h => (hX1 j h).1) fun h => .inr (by omega), (hX2 j h).2⟩
    have ne2 : ∀ j, X2 j → j ≠ m.next + 1 ∧ j ≠ m.next + 4 := fun j h => by
      rcases (hX2' j h).1 with h | h
      · have := hX j h; omega
      · omega
    have p0 : m.next ≠ m.next + 1 := by omega
    refine ⟨⟨X2, (hA2.kc (kc_set (m.next + 1) _ _) fun j h e => absurd e (ne2 j h).1).kc (kc_loop (m.next + 4) _ _ _ _) fun j h e => absurd e (ne2 j h).2, fun j h => by simpa using hX2' j h⟩, ?_, (hC2.kc (kc_set (m.next + 1) _ _) (by omega)).kc (kc_loop (m.next + 4) _ _ _ _) (by omega), ⟨w0, by simp [h50]⟩, ⟨_, by simp; rfl⟩, ⟨w2, by simp [h52]⟩, (h53.kc (kc_set (m.next + 1) _ _) (by omega)).kc (kc_loop (m.next + 4) _ _ _ _) (by omega), ⟨_, by simp; rfl⟩, by simp; omega⟩
    refine KpC.cut (((((kc.mono fun j h => .inl h).trans (k9.mono fun j h => .inr (by omega))).trans (kc2.mono fun j h => ?_)).trans ((kc_set (m.next + 1) _ _).mono fun j h => .inr (by omega))).trans ((kc_loop (m.next + 4) _ _ _ _).mono fun j h => .inr (by omega)))
    rcases h with h | h
    · rcases (hX1 j h).1 with h | h
      · exact .inl (.inl h)
      · exact .inr (by omega)
    · exact .inl (.inr h)
  · rw [List.drop_length, aheadM]
    have kk : Kp m ((M1.new [AV.lst (vals l)] false).newLoop c) := (k1.trans (.new _ _ _)).newLoop c
    have p0 : m.next ≠ m.next + 3 := by omega
    have p1 : m.next + 1 ≠ m.next + 3 := by omega
    have p2 : m.next + 2 ≠ m.next + 3 := by omega
    refine ⟨⟨X, hA.kp kk, fun j h => ⟨.inl h, by have := hX j h; simp; omega⟩⟩, .of (.of kk), hC0.kp kk, ⟨_, by simp [n1, g0]; rfl⟩, ⟨_, by simp [n1, g1]; rfl⟩, ⟨_, by simp [n1, g2]; rfl⟩, ⟨by simp [n1], _, by simp [n1]; rfl⟩, ⟨_, by simp [n1]; rfl⟩, by simp [n1]⟩
  · rintro v mm ⟨rfl, ⟨X1, hA1, hX1⟩, kc, hC1, ⟨w0, h0⟩, ⟨w1, h1⟩, ⟨w2, h2⟩, h3, ⟨ver, hloop⟩, hn⟩
    rw [List.drop_zero] at hA1 hC1 h1
    have hid : (M1.new [AV.lst (vals l)] false).next = m.next + 4 := by simp [n1]
    rw [hid]
    refine ⟨_, .normal, hloop, by simp, rfl, ?_⟩
    simp [h1, h2, valA_agg]
    refine hQ _ _ _ ?_
    rw [leave_ret]
    have kl : KpC (fun j => j = m.next + 4) mm (mm.killLoop (m.next + 4)) := ⟨by simp, fun id hi hx => by simp, fun id hi hx => by
      have : id ≠ m.next + 4 := hx
      simp [this]⟩
    refine ⟨[valA (aheadM a k e l).1], by simp [aresult, valA_agg], ?_⟩
    simp only [Bool.false_eq_true, if_false, oneOf, fzr_valA]
    refine ⟨trivial, X1, (hA1.kc kl fun j h e => ?_).kc (kc_set (m.next + 2) _ _) fun j h e => ?_, fun j h => ⟨(hX1 j h).1.imp id fun h => by omega, by simpa using (hX1 j h).2⟩, KpC.cut (((kc.mono fun j h => .inl h).trans (kl.mono fun j h => .inr (by omega))).trans ((kc_set (m.next + 2) _ _).mono fun j h => .inr (by omega))), (hC1.kc kl (by omega)).kc (kc_set (m.next + 2) _ _) (by omega)⟩
    all_goals
      rcases (hX1 j h).1 with h | h
      · have := hX j h; omega
      · omega
end Go.Proofs.YtnhcmcfgemoehaaGreat
namespace Go.Proofs.YtnhcmcfgemoehaaGreat
set_option maxRecDepth 4000
open Go.V
attribute [local simp] Nat.add_assoc
/-- A list's value at a place. -/
def refM (a : ArM) : Nat → Val → Option Val
  | 0, v => if (getM a v).1.k = 1 then some (carM a v) else none
  | n + 1, v => if (getM a v).1.k = 1 then refM a n (cdrM a v) else none
def listRefM (a : ArM) (k : Int) (v : Val) (i : Int) : Val × Int := if i < 0 ∨ 1024 ≤ i then ((0, 0), failK k 6) else match refM a i.toNat v with | some x => (x, k) | none => ((0, 0), failK k 6)
set_option maxHeartbeats 8000000 in
theorem q132 {X : Nat → Prop} {A C : Nat} {n : Int} {l : List Val} {a : ArM} {k : Int} {m : Mem} (hA : Ar X A a m) (hsm : Small a) (hp : Pairs a) (hXC : ¬ X C) (hC : has m C (clC A n l k)) (v : Val) (i : Int) : wph Tryz.prog ca (.func 132) [.ptr C 0, valA v, int i] m fun r m' => r = valA (listRefM a k v i).1 ∧ KpC (fun j => j = C) m m' ∧ has m' C (clC A n l (listRefM a k v i).2) := by
  refine wph_go Tryz.func132 rfl rfl (by simp [Tryz.f132]) (by simp [Tryz.f132]) fun Q hQ => ?_
  simp only [Tryz.f132, show ca.keepRes 132 = false from rfl, show ca.keepArgs 132 = false from rfl] at hQ ⊢
  obtain ⟨M1, hM1⟩ : ∃ M1, M1 = (m.new [int v.1, int v.2] false).new [int 0, int 0] false := ⟨_, rfl⟩
  have k1 : Kp m M1 := by rw [hM1]; simp
  have n1 : M1.next = m.next + 2 := by rw [hM1]; simp
  have g0 : M1.get m.next = some (.cells [int v.1, int v.2] false (m.clock + 1)) := by rw [hM1]; simp
  have g1 : M1.get (m.next + 1) = some (.cells [int 0, int 0] false (m.clock + 2)) := by rw [hM1]; simp
  simp
  rw [← hM1]
  clear hM1
  have fin : ∀ (s' : Sl) (m7 : Mem) (r : Val × Int) (w : Nat), s'.at 6 = .ptr (m.next + 1) 0 → m7.get (m.next + 1) = some (.cells [int r.1.1, int r.1.2] false w) → KpC (fun j => j = C) m m7 → has m7 C (clC A n l r.2) → listRefM a k v i = r → Q .ret s' m7 := by
    rintro s' m7 r w h6 hg kc hc rfl
    refine hQ _ _ _ ?_
    rw [leave_ret]
    refine ⟨[valA (listRefM a k v i).1], by simp [aresult, h6, hg, aload, partOf, valA_agg], ?_⟩
    simp only [Bool.false_eq_true, if_false, oneOf, fzr_valA]
    exact ⟨trivial, kc, hc⟩
  have fail : ∀ (m1 : Mem) (s' : Sl) (d : Option Tmp) (kk : List It) (Q' : Ex → Sl → Mem → Prop), Kp m m1 → m.next + 1 < m1.next → (∃ w, m1.get (m.next + 1) = some (.cells [int 0, int 0] false w)) → (∀ m7, KpC (fun j => j = C) m m7 → (∃ w, m7.get (m.next + 1) = some (.cells [int 0, int 0] false w)) → has m7 C (clC A n l (failK k 6)) → goP Tryz.prog ca 45 Q' (aput 45 s' d (valA (0, 0))) kk m7) → goH Tryz.prog ca 45 Q' (.func 134) [.ptr C 0, int 6] d kk s' m1 := by
    intro m1 s' d kk Q' hk hlt ⟨w, hg⟩ hgo
    refine goH_of (q134 (A := A) (n := n) (l := l) (k := k) (m := m1) (hC.kp hk) 6) ?_
    rintro _ m7 ⟨rfl, kc7, hC7⟩
    exact hgo m7 ((KpC.of (.of hk)).trans kc7) ⟨w, (kc7.get _ hlt (by have := hC.1; omega)).trans hg⟩ hC7
  have box : ∀ (m7 : Mem) (cs : List AV) (k' : Int), KpC (fun j => j = C) m m7 → has m7 C (clC A n l k') → KpC (fun j => j = C) m (m7.set (m.next + 1) cs) ∧ has (m7.set (m.next + 1) cs) C (clC A n l k') := fun m7 cs k' kc7 hC7 =>
    ⟨KpC.cut ((kc7.mono fun j h => .inl h).trans ((kc_set (m.next + 1) _ _).mono fun j h => .inr (by omega))), hC7.kc (kc_set (m.next + 1) _ _) (by have := hC.1; omega)⟩
  by_cases hi0 : i < 0
  · simp [hi0]
    refine fail M1 _ _ _ _ k1 (by omega) ⟨_, g1⟩ fun m7 kc7 ⟨w7, hg7⟩ hC7 => ?_
    simp [hg7, valA_agg]
    obtain ⟨b1, b2⟩ := box m7 [int 0, int 0] _ kc7 hC7
    exact fin _ _ ((0, 0), failK k 6) _ (by simp) (by simp; rfl) b1 b2 (by rw [listRefM, if_pos (.inl hi0)])
  by_cases hi1 : 1024 ≤ i
  · simp [hi0, hi1]
    refine fail M1 _ _ _ _ k1 (by omega) ⟨_, g1⟩ fun m7 kc7 ⟨w7, hg7⟩ hC7 => ?_
    simp [hg7, valA_agg]
    obtain ⟨b1, b2⟩ := box m7 [int 0, int 0] _ kc7 hC7
    exact fin _ _ ((0, 0), failK k 6) _ (by simp) (by simp; rfl) b1 b2 (by rw [listRefM, if_pos (.inr hi1)])
  simp [hi0, hi1]
  obtain ⟨N, rfl⟩ : ∃ N : Nat, i = N := ⟨i.toNat, by omega⟩
  have hval : listRefM a k v N = match refM a N v with | some x => (x, k) | none => ((0, 0), failK k 6) := by
    rw [listRefM, if_neg (by omega)]
    simp
  refine go_count 18 N (fun i s' m' => Kp m m' ∧ m.next + 2 ≤ m'.next ∧ (∃ w u, m'.get m.next = some (.cells [int w.1, int w.2] false u) ∧ refM a (N - i) w = refM a N v) ∧ ∃ u, m'.get (m.next + 1) = some (.cells [int 0, int 0] false u)) (by simp) (by omega) ⟨k1, by omega, ⟨v, _, g0, rfl⟩, _, g1⟩ ?_
  rintro q s' m' hq e18 ⟨hkp, hlt, ⟨w, u, h0, href⟩, u1, h1⟩ hsame hw Q' hn he
  have d0 : s'.at 0 = .ptr C 0 := (hsame 0 (by kernel_rfl)).trans (by simp)
  have d4 : s'.at 4 = .ptr m.next 0 := (hsame 4 (by kernel_rfl)).trans (by simp)
  have d6 : s'.at 6 = .ptr (m.next + 1) 0 := (hsame 6 (by kernel_rfl)).trans (by simp)
  have d17 : s'.at 17 = int N := (hsame 17 (by kernel_rfl)).trans (by simp)
  clear hsame
  have hCm := hC.kp hkp
  have q1 := q112 (hA.kp hkp) hsm hCm w
  have z0 : m.next ≠ m'.next := by omega
  have z1 : m.next + 1 ≠ m'.next := by omega
  have z2 : m'.next ≠ m.next := by omega
  have z3 : m.next + 1 ≠ m.next := by omega
  obtain ⟨M2, hM2⟩ : ∃ M2, M2 = (m'.new [int 0, int 0, .emp 0, .emp 0] false).set m'.next [int (getM a w).1.k, int (getM a w).1.n, .lst (vals (getM a w).1.a), .lst (byts (getM a w).1.s)] := ⟨_, rfl⟩
  have kM : Kp m' M2 := by rw [hM2]; simp
  have nM : M2.next = m'.next + 1 := by rw [hM2]; simp
  have gc : M2.get m'.next = some (.cells [int (getM a w).1.k, int (getM a w).1.n, .lst (vals (getM a w).1.a), .lst (byts (getM a w).1.s)] false (m'.clock + 2)) := by rw [hM2]; simp
  have gB := (kM.get m.next (by omega)).trans h0
  have gR := (kM.get (m.next + 1) (by omega)).trans h1
  have hkp2 := hkp.trans kM
  simp [e18, d17]
  refine goB_split (fun h => ?_) fun h => ?_
  · have hlt2 : q < N := by simpa using h
    have hNq : N - q = N - (q + 1) + 1 := by omega
    rw [hNq] at href
    simp [d0, d4, h0, valA_agg, q1.go, ceA]
    rw [← hM2]
    clear hM2
    by_cases hk : (getM a w).1.k = 1
    · have ea := hp.get hk
      have hx1 : aindexAddr Tryz.prog 66 (.lst (vals (getM a w).1.a)) (int 1) = some ((valA (cdrM a w)).cptr 0) := vals_at (i := 1) (by rw [ea]; rfl)
      rw [refM, if_pos hk] at href
      simp [hk, gc, hx1, d4, gB, e18, hw]
      exact hn _ _ hlt2 (by simp) ⟨hkp2.set (Nat.le_refl _) _, by simp; omega, ⟨cdrM a w, _, by simp; rfl, href⟩, _, by simp [z3, gR]; rfl⟩
    · rw [refM, if_neg hk] at href
      simp [hk, d0]
      refine fail M2 _ _ _ _ hkp2 (by omega) ⟨_, gR⟩ fun m7 kc7 ⟨w7, hg7⟩ hC7 => ?_
      simp [d6, hg7, valA_agg]
      refine he _ _ _ (by simp) ?_
      simp
      obtain ⟨b1, b2⟩ := box m7 [int 0, int 0] _ kc7 hC7
      exact fin _ _ ((0, 0), failK k 6) _ (by simp [d6]) (by simp; rfl) b1 b2 (by rw [hval, ← href])
  · have hge : q = N := by have := of_decide_eq_false h; omega
    subst hge
    rw [Nat.sub_self] at href
    simp
    refine he _ _ _ (by simp) ?_
    simp [d0, d4, h0, valA_agg, q1.go, ceA]
    rw [← hM2]
    clear hM2
    by_cases hk : (getM a w).1.k = 1
    · have ea := hp.get hk
      have hx0 : aindexAddr Tryz.prog 66 (.lst (vals (getM a w).1.a)) (int 0) = some ((valA (carM a w)).cptr 0) := vals_at (i := 0) (by rw [ea]; rfl)
      rw [refM, if_pos hk] at href
      simp [hk, gc, hx0, d6, gR]
      obtain ⟨b1, b2⟩ := box M2 [int (carM a w).1, int (carM a w).2] _ (.of (.of hkp2)) (hCm.kp kM)
      exact fin _ _ (carM a w, k) _ (by simp [d6]) (by simp; rfl) b1 b2 (by rw [hval, ← href])
    · rw [refM, if_neg hk] at href
      simp [hk, d0]
      refine fail M2 _ _ _ _ hkp2 (by omega) ⟨_, gR⟩ fun m7 kc7 ⟨w7, hg7⟩ hC7 => ?_
      simp [d6, hg7, valA_agg]
      obtain ⟨b1, b2⟩ := box m7 [int 0, int 0] _ kc7 hC7
      exact fin _ _ ((0, 0), failK k 6) _ (by simp [d6]) (by simp; rfl) b1 b2 (by rw [hval, ← href])
end Go.Proofs.YtnhcmcfgemoehaaGreat

/- A procedure's row. -/
set_option linter.unusedSimpArgs false
set_option linter.unusedVariables false
set_option linter.unusedSectionVars false
namespace Go.Proofs.YtnhcmcfgemoehaaGreat
set_option maxRecDepth 4000
open Go.V
attribute [local simp] Nat.add_assoc
theorem q33 (m : Mem) : EH Tryz.prog ca (.func 33) [] m tableA m := ro_run rfl run22 table_out
theorem q7 (m : Mem) : EH Tryz.prog ca (.func 7) [] m (.sc (.bool true)) m := ro_run rfl run6 rfl
/-- The procedure of a number. -/
def rowOf (n : Int) : List UInt8 × Int × Int := if n < 0 ∨ 85 ≤ n then ([], 0, 0) else (rws[n.toNat]?).getD ([], 0, 0)
theorem rowOf_at {n : Int} (h : ¬ n < 0) (h2 : ¬ 85 ≤ n) : rws[n.toNat]? = some (rowOf n) := by
  have hl : n.toNat < rws.length := by rw [rws_length]; omega
  unfold rowOf
  rw [if_neg (by omega), List.getElem?_eq_getElem hl]
  rfl
theorem table_i {n : Int} (h : ¬ n < 0) (h2 : ¬ 85 ≤ n) : aindex Tryz.prog 87 tableA (int n) = some (.agg (rowC (rowOf n))) := by
  have := table_at (rowOf_at h h2)
  rwa [Int.toNat_of_nonneg (by omega)] at this
theorem rowOf_out {n : Int} (h : n < 0 ∨ 85 ≤ n) : rowOf n = ([], 0, 0) := by unfold rowOf; rw [if_pos h]
@[simp] theorem rowC_bel (r : List UInt8 × Int × Int) (n : Nat) : AV.bels n (rowC r) = true := rfl
@[simp] theorem rowC_fzs (r : List UInt8 × Int × Int) (m : Mem) : fzv m (.agg (rowC r)) = (.agg (rowC r), m) := rfl
set_option maxHeartbeats 4000000 in
theorem q31 (n : Int) : Gives Tryz.prog ca 31 [int n] (.tup [.agg (rowC (rowOf n)), .sc (.bool (!decide ((rowOf n).1 = [])))]) := by
  refine gives_run Tryz.func31 rfl rfl rfl rfl (by simp) (by simp [Tryz.f31]) (by simp [Tryz.f31]) fun m => ?_
  simp [Tryz.f31, show ca.keepRes 31 = false from rfl]
  by_cases h : n < 0
  · simp [h, abuild, placesOf, fillAt, rowOf_out (.inl h), rowC, oneOf]
  · by_cases h2 : 85 ≤ n
    · simp [h, h2, abuild, placesOf, fillAt, rowOf_out (.inr h2), rowC, oneOf]
    · simp [h, h2, (q33 _).go, table_i h h2]
      simp only [rowC]
      simp
      refine go_draw_of (by kernel_rfl) ?_
      simp
      refine goM_of (l := [(2, 4)]) (by kernel_rfl) (?_ : List.all _ _ = true) ?_
      · simp [metAt, metOk, rank, objOf, verKept, Region.wanted, Mem.ver]
      simp
end Go.Proofs.YtnhcmcfgemoehaaGreat

/- Whether a value is of the kind that a procedure takes. -/
set_option linter.unusedSimpArgs false
set_option linter.unusedVariables false
set_option linter.unusedSectionVars false
namespace Go.Proofs.YtnhcmcfgemoehaaGreat
set_option maxRecDepth 4000
open Go.V
attribute [local simp] Nat.add_assoc
def goodP (a : ArM) (n : Int) (v : Val) (i : Int) : Bool :=
  if n ≤ 11 then decide (v.1 = 1) else if 50 ≤ n then decide (v.1 = 1) else if n = 39 then decide (v.1 = 1) else if n = 42 then decide (v.1 = 1)
  else if 16 ≤ n ∧ n ≤ 19 then decide (0 < i ∨ (getM a v).1.k = 1)
  else if n = 26 then decide (i = 0 ∨ v.1 = 1)
  else if n = 28 then decide (0 < i ∨ v.1 = 1)
  else if 29 ≤ n ∧ n ≤ 31 then decide ((i = 0 ∧ (getM a v).1.k = 2) ∨ (i = 1 ∧ v.1 = 1) ∨ i = 2)
  else if n = 33 ∨ n = 35 then decide ((i = 0 ∧ (getM a v).1.k = 3) ∨ (0 < i ∧ v.1 = 1))
  else if n = 32 ∨ n = 34 ∨ n = 36 ∨ n = 38 ∨ n = 40 then decide ((getM a v).1.k = 3)
  else if n = 37 then decide (v.1 = 5)
  else if n = 41 then decide (v.1 = 3)
  else true
set_option maxHeartbeats 16000000 in
theorem q38 {X : Nat → Prop} {A C : Nat} {n : Int} {l : List Val} {a : ArM} {k : Int} {m : Mem} (hA : Ar X A a m) (hsm : Small a) (hC : has m C (clC A n l k)) {i : Nat} {v : Val} (hv : l[i]? = some v) : EH Tryz.prog ca (.func 38) [.ptr C 0, int i] m (.sc (.bool (goodP a n v i))) m := by
  have k1 : Kp m ((m.new [int 0, int 0] false).set m.next [int v.1, int v.2]) := by simp
  have q := fun kd => (show EH Tryz.prog ca (.func 65) [.ptr C 0, .agg [int v.1, int v.2], int kd] _ _ _ from q65 (hA.kp k1) hsm (hC.kp k1) v kd)
  obtain ⟨hl, w, hg⟩ := hC
  have n0 : C ≠ m.next := by omega
  have hix : aindexAddr Tryz.prog 66 (.lst (vals l)) (int i) = some ((valA v).cptr 0) := vals_at hv
  refine eh_run Tryz.func38 rfl rfl rfl rfl (args1 := [.ptr C 0, int i]) (m1 := m) (by simp [fzvs]) (by simp) (by simp [Tryz.f38]) (by simp [Tryz.f38]) ?_
  simp only [Tryz.f38, show ca.keepRes 38 = false from rfl]
  obtain ⟨g, hgd⟩ : ∃ g, g = goodP a n v i := ⟨_, rfl⟩
  rw [← hgd]
  simp [hg, n0, hix, valA_agg]
  by_cases a1 : n ≤ 11
  · rw [goodP, if_pos a1] at hgd
    simp [a1, hgd]
  by_cases a2 : 50 ≤ n
  · rw [goodP, if_neg a1, if_pos a2] at hgd
    simp [a1, a2, hgd]
  by_cases a3 : n = 39
  · rw [goodP, if_neg a1, if_neg a2, if_pos a3] at hgd
    simp [a3, hgd]
  by_cases a4 : n = 42
  · rw [goodP, if_neg a1, if_neg a2, if_neg a3, if_pos a4] at hgd
    simp [a4, hgd]
  rw [goodP, if_neg a1, if_neg a2, if_neg a3, if_neg a4] at hgd
  by_cases a5 : 16 ≤ n ∧ n ≤ 19
  · rw [if_pos a5] at hgd
    simp [a1, a2, a3, a4, a5]
    by_cases hi : 0 < i
    · simp [hi, hgd]
    · simp [hi, (q 1).go, hgd]
  rw [if_neg a5] at hgd
  by_cases b1 : 16 ≤ n
  rotate_left
  · have c1 : n ≠ 26 := by omega
    have c2 : n ≠ 28 := by omega
    have c3 : ¬ 29 ≤ n := by omega
    have c4 : n ≠ 33 := by omega
    have c5 : n ≠ 35 := by omega
    have c6 : n ≠ 32 := by omega
    have c7 : n ≠ 34 := by omega
    have c8 : n ≠ 36 := by omega
    have c9 : n ≠ 38 := by omega
    have d1 : n ≠ 40 := by omega
    have d2 : n ≠ 37 := by omega
    have d3 : n ≠ 41 := by omega
    rw [if_neg c1, if_neg c2, if_neg (by omega), if_neg (by omega), if_neg (by omega), if_neg d2, if_neg d3] at hgd
    simp [a1, a2, a3, a4, b1, c1, c2, c3, c4, c5, c6, c7, c8, c9, d1, d2, d3, hgd]
  have b2 : ¬ n ≤ 19 := by omega
  by_cases c1 : n = 26
  · rw [if_pos c1] at hgd
    subst c1
    by_cases hi : i = 0
    · simp [hi, hgd]
    · have hi' : ¬ (i : Int) = 0 := by omega
      simp [hi, hgd]
  rw [if_neg c1] at hgd
  by_cases c2 : n = 28
  · rw [if_pos c2] at hgd
    subst c2
    by_cases hi : 0 < i
    · simp [hi, hgd]
    · simp [hi, hgd]
  rw [if_neg c2] at hgd
  by_cases c3 : 29 ≤ n ∧ n ≤ 31
  · rw [if_pos c3] at hgd
    simp [a1, a2, a3, a4, b1, b2, c1, c2, c3]
    by_cases h0 : i = 0
    · subst h0
      by_cases hk : (getM a v).1.k = 2
      · simp [(q 2).go, hgd, hk, undefV, undef]
      · simp [(q 2).go, hgd, hk, undefV, undef]
    · by_cases h1 : i = 1
      · subst h1
        by_cases hk : v.1 = 1
        · simp [hk, hgd, undefV, undef]
        · simp [hk, hgd, undefV, undef]
      · have h1' : ¬ (i : Int) = 1 := by omega
        simp [h0, h1', h1, hgd, undefV, undef]
  rw [if_neg c3] at hgd
  have c3' : ¬ (29 ≤ n ∧ n ≤ 31) := c3
  by_cases e1 : 29 ≤ n
  rotate_left
  · have c4 : n ≠ 33 := by omega
    have c5 : n ≠ 35 := by omega
    have c6 : n ≠ 32 := by omega
    have c7 : n ≠ 34 := by omega
    have c8 : n ≠ 36 := by omega
    have c9 : n ≠ 38 := by omega
    have d1 : n ≠ 40 := by omega
    have d2 : n ≠ 37 := by omega
    have d3 : n ≠ 41 := by omega
    rw [if_neg (by omega), if_neg (by omega), if_neg d2, if_neg d3] at hgd
    simp [a1, a2, a3, a4, b1, b2, c1, c2, e1, c4, c5, c6, c7, c8, c9, d1, d2, d3, hgd]
  have e2 : ¬ n ≤ 31 := by omega
  by_cases c4 : n = 33 ∨ n = 35
  · rw [if_pos c4] at hgd
    by_cases h0 : i = 0
    · subst h0
      by_cases hk : (getM a v).1.k = 3
      · rcases c4 with rfl | rfl
        · simp [(q 3).go, hgd, hk, undefV, undef]
        · simp [(q 3).go, hgd, hk, undefV, undef]
      · rcases c4 with rfl | rfl
        · simp [(q 3).go, hgd, hk, undefV, undef]
        · simp [(q 3).go, hgd, hk, undefV, undef]
    · have hi : 0 < i := by omega
      rcases c4 with rfl | rfl
      · simp [h0, hi, hgd, undefV, undef]
      · simp [h0, hi, hgd, undefV, undef]
  rw [if_neg c4] at hgd
  by_cases c5 : n = 32 ∨ n = 34 ∨ n = 36 ∨ n = 38 ∨ n = 40
  · rw [if_pos c5] at hgd
    rcases c5 with rfl | rfl | rfl | rfl | rfl
    · simp [(q 3).go, hgd]
    · simp [(q 3).go, hgd]
    · simp [(q 3).go, hgd]
    · simp [(q 3).go, hgd]
    · simp [(q 3).go, hgd]
  rw [if_neg c5] at hgd
  by_cases c6 : n = 37
  · rw [if_pos c6] at hgd
    subst c6
    simp [hgd]
  rw [if_neg c6] at hgd
  by_cases c7 : n = 41
  · rw [if_pos c7] at hgd
    subst c7
    simp [hgd]
  rw [if_neg c7] at hgd
  have d1 : n ≠ 33 := by omega
  have d2 : n ≠ 35 := by omega
  have d3 : n ≠ 32 := by omega
  have d4 : n ≠ 34 := by omega
  have d5 : n ≠ 36 := by omega
  have d6 : n ≠ 38 := by omega
  have d7 : n ≠ 40 := by omega
  simp [a1, a2, a3, a4, b1, b2, c1, c2, e1, e2, c6, c7, d1, d2, d3, d4, d5, d6, d7, hgd]
end Go.Proofs.YtnhcmcfgemoehaaGreat

/- What the procedures of lists do. -/
set_option linter.unusedSimpArgs false
set_option linter.unusedVariables false
set_option linter.unusedSectionVars false
namespace Go.Proofs.YtnhcmcfgemoehaaGreat
set_option maxRecDepth 4000
open Go.V
attribute [local simp] Nat.add_assoc
theorem failK_0 (k : Int) : failK 0 k = k := if_pos rfl
theorem listK_0 {C A : Nat} {n : Int} {l : List Val} {r : List Val × Int} {m m' : Mem} {v : AV} (h : ListK C A n l 0 r m v m') : Acc m m' 2 true (vals r.1) v ∧ KpC (fun j => j = C) m m' ∧ has m' C (clC A n l r.2) := by
  refine ⟨h.1, h.2.1, ?_⟩
  have := h.2.2
  rw [failK_0] at this
  by_cases h0 : r.2 = 0
  · rw [if_pos h0] at this
    rw [h0]; exact this
  · rwa [if_neg h0] at this
theorem listM_len (a : ArM) : ∀ (n : Nat) (v : Val), (listM a n v).1.length ≤ n
  | n, v => by
    by_cases h : (getM a v).1.k = 1
    · cases n with
      | zero => simp [listM_0 h]
      | succ n =>
        have := listM_len a n (cdrM a v)
        rw [listM_s h]
        split
        · simp; omega
        · simp
    · rw [listM_no h]
      split <;> simp
theorem Cs.of_c {X : Nat → Prop} {A C : Nat} {n : Int} {l : List Val} {a : ArM} {k : Int} {m m' : Mem} (hA : Ar X A a m) (hX : ∀ j, X j → j < m.next) (hXC : ¬ X C) (kc : KpC (fun j => j = C) m m') (hC : has m' C (clC A n l k)) : Cs X A C n l a k m m' :=
  ⟨X, hA.kc kc fun j h e => absurd h (e ▸ hXC), fun j h => ⟨.inl h, Nat.lt_of_lt_of_le (hX j h) kc.next⟩, kc.mono fun j h => .inr h, hC⟩
/-- Values of one's own, as they are handed on. -/
theorem fz_acc {m0 m : Mem} {C : Nat} {l : List Val} {x : AV} {e : Val} (h : Acc m0 m 2 true (vals l) x) : ∃ m', fzvs m [.ptr C 0, x, .agg [int e.1, int e.2]] = ([.ptr C 0, .lst (vals l), valA e], m') ∧ KpC (owns x) m m' := by
  have lv : Lv m0 m 2 true (vals l) x := by
    rcases h with ⟨h1, h2⟩ | ⟨h, id, w, h1, h2, h3, h4⟩
    · exact .inl ⟨0, by omega, h1, h2⟩
    · exact .inr (.inr ⟨id, w, none, h1, h2, h3, h4⟩)
  obtain ⟨m', e1, e2⟩ := lv.fz rfl (vals_row l) (vals_ok l)
  have ok : x.okc = true ∧ x.cells = [x] := by
    rcases h with ⟨_, rfl⟩ | ⟨_, id, w, rfl, _⟩ <;> exact ⟨rfl, rfl⟩
  have ex : fzv m x = fz1 m x := by rcases h with ⟨_, rfl⟩ | ⟨_, id, w, rfl, _⟩ <;> rfl
  refine ⟨m', ?_, e2⟩
  simp [fzvs, ex, e1, valA_agg]
theorem Cs.after {X : Nat → Prop} {A C : Nat} {n : Int} {l : List Val} {a : ArM} {k : Int} {m m1 m' : Mem} (kc : KpC (fun j => X j ∨ j = C) m m1) (h : Cs X A C n l a k m1 m') : Cs X A C n l a k m m' := by
  obtain ⟨X', h1, h2, h3, h4⟩ := h
  have := kc.next
  exact ⟨X', h1, fun j hj => ⟨(h2 j hj).1.imp id fun h => by omega, (h2 j hj).2⟩, kc.trans h3, h4⟩
set_option maxHeartbeats 8000000 in
theorem q70_23 {X : Nat → Prop} {A C : Nat} {l : List Val} {a : ArM} {m : Mem} (hA : Ar X A a m) (hX : ∀ j, X j → j < m.next) (hsm : Small a) (hp : Pairs a) (hXC : ¬ X C) (hC : has m C (clC A 23 l 0)) {v : Val} (hv : l[0]? = some v) {res : Val × ArM × Int} (hres : res = ((1, ((listM a 1024 v).1.length : Int)), a, (listM a 1024 v).2)) : wph Tryz.prog ca (.func 70) [.ptr C 0] m fun r m' => r = valA res.1 ∧ Cs X A C 23 l res.2.1 res.2.2 m m' := by
  have hC0 := hC
  obtain ⟨hCl, w, hg⟩ := hC
  refine wph_go Tryz.func70 rfl rfl (by simp [Tryz.f70]) (by simp [Tryz.f70]) fun Q hQ => ?_
  simp only [Tryz.f70, show ca.keepRes 70 = false from rfl, show ca.keepArgs 70 = false from rfl] at hQ ⊢
  obtain ⟨M1, hM1⟩ : ∃ M1, M1 = (((m.new [.ptr C 0] false).new [int 0, int 0] false).new [int 0, int 0] false).set (m.next + 2) [int 4, int 0] := ⟨_, rfl⟩
  have k1 : Kp m M1 := by rw [hM1]; simp
  have n1 : M1.next = m.next + 3 := by rw [hM1]; simp
  have b0 : M1.get m.next = some (.cells [.ptr C 0] false (m.clock + 1)) := by rw [hM1]; simp
  have b1 : M1.get (m.next + 1) = some (.cells [int 0, int 0] false (m.clock + 2)) := by rw [hM1]; simp
  have b2 : M1.get (m.next + 2) = some (.cells [int 4, int 0] false (m.clock + 4)) := by rw [hM1]; simp
  have bC := (k1.get C hCl).trans hg
  have c0 : C ≠ m.next := by omega
  have c1 : C ≠ m.next + 1 := by omega
  have c2 : C ≠ m.next + 2 := by omega
  have hC1 := hC0.kp k1
  have hA1 := hA.kp k1
  simp [abuild, placesOf, fillAt, hg, c0, c1, c2]
  rw [← hM1]
  clear hM1
  have fin : ∀ (s' : Sl) (m7 : Mem), s'.at 2 = .ptr (m.next + 1) 0 → (∃ w, m7.get (m.next + 1) = some (.cells [int res.1.1, int res.1.2] false w)) → Cs X A C 23 l res.2.1 res.2.2 m m7 → Q .ret s' m7 := by
    intro s' m7 h2 ⟨w, hg⟩ hcs
    refine hQ _ _ _ ?_
    rw [leave_ret]
    refine ⟨[valA res.1], by simp [aresult, h2, hg, aload, partOf, valA_agg], ?_⟩
    simp only [Bool.false_eq_true, if_false, oneOf, fzr_valA]
    exact ⟨trivial, hcs⟩
  have hix : aindexAddr Tryz.prog 66 (.lst (vals l)) (int 0) = some ((valA v).cptr 0) := vals_at (i := 0) hv
  refine go_draw0 (by kernel_rfl) (by kernel_rfl) ?_
  simp [b0, bC, hix]
  refine goH_of (q130 hA1 hsm hp hXC hC1 v) ?_
  intro x m2 hl
  obtain ⟨hacc, kc, hC2⟩ := listK_0 hl
  have n2 := kc.next
  have ln := acc_len hacc
  have e1 := (kc.get (m.next + 1) (by omega) (by omega)).trans b1
  simp [ln, (q126 _).go, e1, valA_agg]
  subst hres
  exact fin _ _ (by simp) ⟨_, by simp; rfl⟩ (Cs.box k1 hX hCl (Cs.of_c hA1 (fun j h => by have := hX j h; omega) hXC kc hC2) (by omega) (by omega) _)
set_option maxHeartbeats 8000000 in
theorem q70_25 {X : Nat → Prop} {A C : Nat} {l : List Val} {a : ArM} {m : Mem} (hA : Ar X A a m) (hX : ∀ j, X j → j < m.next) (hsm : Small a) (hp : Pairs a) (hXC : ¬ X C) (hC : has m C (clC A 25 l 0)) {v : Val} (hv : l[0]? = some v) {res : Val × ArM × Int} (hres : res = (aheadM a (listM a 1024 v).2 (4, 0) (listM a 1024 v).1.reverse)) : wph Tryz.prog ca (.func 70) [.ptr C 0] m fun r m' => r = valA res.1 ∧ Cs X A C 25 l res.2.1 res.2.2 m m' := by
  have hC0 := hC
  obtain ⟨hCl, w, hg⟩ := hC
  refine wph_go Tryz.func70 rfl rfl (by simp [Tryz.f70]) (by simp [Tryz.f70]) fun Q hQ => ?_
  simp only [Tryz.f70, show ca.keepRes 70 = false from rfl, show ca.keepArgs 70 = false from rfl] at hQ ⊢
  obtain ⟨M1, hM1⟩ : ∃ M1, M1 = (((m.new [.ptr C 0] false).new [int 0, int 0] false).new [int 0, int 0] false).set (m.next + 2) [int 4, int 0] := ⟨_, rfl⟩
  have k1 : Kp m M1 := by rw [hM1]; simp
  have n1 : M1.next = m.next + 3 := by rw [hM1]; simp
  have b0 : M1.get m.next = some (.cells [.ptr C 0] false (m.clock + 1)) := by rw [hM1]; simp
  have b1 : M1.get (m.next + 1) = some (.cells [int 0, int 0] false (m.clock + 2)) := by rw [hM1]; simp
  have b2 : M1.get (m.next + 2) = some (.cells [int 4, int 0] false (m.clock + 4)) := by rw [hM1]; simp
  have bC := (k1.get C hCl).trans hg
  have c0 : C ≠ m.next := by omega
  have c1 : C ≠ m.next + 1 := by omega
  have c2 : C ≠ m.next + 2 := by omega
  have hC1 := hC0.kp k1
  have hA1 := hA.kp k1
  simp [abuild, placesOf, fillAt, hg, c0, c1, c2]
  rw [← hM1]
  clear hM1
  have fin : ∀ (s' : Sl) (m7 : Mem), s'.at 2 = .ptr (m.next + 1) 0 → (∃ w, m7.get (m.next + 1) = some (.cells [int res.1.1, int res.1.2] false w)) → Cs X A C 25 l res.2.1 res.2.2 m m7 → Q .ret s' m7 := by
    intro s' m7 h2 ⟨w, hg⟩ hcs
    refine hQ _ _ _ ?_
    rw [leave_ret]
    refine ⟨[valA res.1], by simp [aresult, h2, hg, aload, partOf, valA_agg], ?_⟩
    simp only [Bool.false_eq_true, if_false, oneOf, fzr_valA]
    exact ⟨trivial, hcs⟩
  have hix : aindexAddr Tryz.prog 66 (.lst (vals l)) (int 0) = some ((valA v).cptr 0) := vals_at (i := 0) hv
  refine go_draw0 (by kernel_rfl) (by kernel_rfl) ?_
  simp [b0, bC, hix]
  refine goH_of (q130 hA1 hsm hp hXC hC1 v) ?_
  intro x m2 hl
  obtain ⟨hacc, kc, hC2⟩ := listK_0 hl
  have ll : (listM a 1024 v).1.length ≤ 4096 := by have := listM_len a 1024 v; omega
  simp
  refine goH_of (q131 hacc ll) ?_
  rintro _ m3 ⟨hacc3, kc3⟩
  have n2 := kc.next
  have n3 := kc3.next
  have own : ∀ j, owns x j → M1.next ≤ j := fun j h => (acc_lt hacc j h).1
  have f0 := (kc3.get m.next (by omega) fun h => by have := own _ h; omega).trans ((kc.get m.next (by omega) (by omega)).trans b0)
  have f1 := (kc3.get (m.next + 1) (by omega) fun h => by have := own _ h; omega).trans ((kc.get (m.next + 1) (by omega) (by omega)).trans b1)
  have f2 := (kc3.get (m.next + 2) (by omega) fun h => by have := own _ h; omega).trans ((kc.get (m.next + 2) (by omega) (by omega)).trans b2)
  have hC3 := hC2.kc kc3 fun h => by have := own _ h; omega
  simp [f0, f2]
  obtain ⟨m4, ez, kz⟩ := fz_acc (C := C) (e := (4, 0)) hacc3
  have n4 := kz.next
  have g1 := (kz.get (m.next + 1) (by omega) fun h => by have := own _ h; omega).trans f1
  have hC4 := hC3.kc kz fun h => by have := own _ h; omega
  have kall : KpC (fun j => j = C) M1 m4 := KpC.cut (((kc.mono fun j h => .inl h).trans (kc3.mono fun j h => .inr (own j h))).trans (kz.mono fun j h => .inr (own j h)))
  have hA4 : Ar X A a m4 := hA1.kc kall fun j h e => absurd h (e ▸ hXC)
  refine goH_of (wph_fz Tryz.func129 rfl rfl rfl ez (by simp [fzvs]) (q129 hA4 (fun j h => by have := hX j h; omega) hXC hC4 (listM a 1024 v).1.reverse (by simp; omega) (4, 0))) ?_
  rintro _ m5 ⟨rfl, hcs⟩
  have hcs1 := hcs.after (kall.mono fun j h => .inr h)
  obtain ⟨X', _, _, kc5, _⟩ := id hcs1
  have e1 := (kc5.get (m.next + 1) (by omega) (fun h => by rcases h with h | h; have := hX _ h; omega; omega)).trans b1
  simp [e1, valA_agg]
  subst hres
  exact fin _ _ (by simp) ⟨_, by simp; rfl⟩ (Cs.box k1 hX hCl hcs1 (by omega) (by omega) _)
set_option maxHeartbeats 8000000 in
theorem q70_26 {X : Nat → Prop} {A C : Nat} {l : List Val} {a : ArM} {m : Mem} (hA : Ar X A a m) (hX : ∀ j, X j → j < m.next) (hsm : Small a) (hp : Pairs a) (hXC : ¬ X C) (hC : has m C (clC A 26 l 0)) {v i : Val} (hv : l[0]? = some v) (hi : l[1]? = some i) {res : Val × ArM × Int} (hres : res = ((listRefM a 0 v i.2).1, a, (listRefM a 0 v i.2).2)) : wph Tryz.prog ca (.func 70) [.ptr C 0] m fun r m' => r = valA res.1 ∧ Cs X A C 26 l res.2.1 res.2.2 m m' := by
  have hC0 := hC
  obtain ⟨hCl, w, hg⟩ := hC
  refine wph_go Tryz.func70 rfl rfl (by simp [Tryz.f70]) (by simp [Tryz.f70]) fun Q hQ => ?_
  simp only [Tryz.f70, show ca.keepRes 70 = false from rfl, show ca.keepArgs 70 = false from rfl] at hQ ⊢
  obtain ⟨M1, hM1⟩ : ∃ M1, M1 = (((m.new [.ptr C 0] false).new [int 0, int 0] false).new [int 0, int 0] false).set (m.next + 2) [int 4, int 0] := ⟨_, rfl⟩
  have k1 : Kp m M1 := by rw [hM1]; simp
  have n1 : M1.next = m.next + 3 := by rw [hM1]; simp
  have b0 : M1.get m.next = some (.cells [.ptr C 0] false (m.clock + 1)) := by rw [hM1]; simp
  have b1 : M1.get (m.next + 1) = some (.cells [int 0, int 0] false (m.clock + 2)) := by rw [hM1]; simp
  have b2 : M1.get (m.next + 2) = some (.cells [int 4, int 0] false (m.clock + 4)) := by rw [hM1]; simp
  have bC := (k1.get C hCl).trans hg
  have c0 : C ≠ m.next := by omega
  have c1 : C ≠ m.next + 1 := by omega
  have c2 : C ≠ m.next + 2 := by omega
  have hC1 := hC0.kp k1
  have hA1 := hA.kp k1
  simp [abuild, placesOf, fillAt, hg, c0, c1, c2]
  rw [← hM1]
  clear hM1
  have fin : ∀ (s' : Sl) (m7 : Mem), s'.at 2 = .ptr (m.next + 1) 0 → (∃ w, m7.get (m.next + 1) = some (.cells [int res.1.1, int res.1.2] false w)) → Cs X A C 26 l res.2.1 res.2.2 m m7 → Q .ret s' m7 := by
    intro s' m7 h2 ⟨w, hg⟩ hcs
    refine hQ _ _ _ ?_
    rw [leave_ret]
    refine ⟨[valA res.1], by simp [aresult, h2, hg, aload, partOf, valA_agg], ?_⟩
    simp only [Bool.false_eq_true, if_false, oneOf, fzr_valA]
    exact ⟨trivial, hcs⟩
  have hix : aindexAddr Tryz.prog 66 (.lst (vals l)) (int 0) = some ((valA v).cptr 0) := vals_at (i := 0) hv
  have hix1 : aindexAddr Tryz.prog 66 (.lst (vals l)) (int 1) = some ((valA i).cptr 0) := vals_at (i := 1) hi
  refine go_draw0 (by kernel_rfl) (by kernel_rfl) ?_
  simp [b0, bC, hix, hix1, valA_agg]
  refine goH_of (q132 hA1 hsm hp hXC hC1 v i.2) ?_
  rintro _ m2 ⟨rfl, kc, hC2⟩
  have e1 := (kc.get (m.next + 1) (by omega) (by omega)).trans b1
  simp [e1, valA_agg]
  subst hres
  exact fin _ _ (by simp) ⟨_, by simp; rfl⟩ (Cs.box k1 hX hCl (Cs.of_c hA1 (fun j h => by have := hX j h; omega) hXC kc hC2) (by omega) (by omega) _)
end Go.Proofs.YtnhcmcfgemoehaaGreat
namespace Go.Proofs.YtnhcmcfgemoehaaGreat
set_option maxRecDepth 4000
open Go.V
attribute [local simp] Nat.add_assoc
/-- Lists' values; what is wrong with one of them. -/
def listsM (a : ArM) : List Val → List (List Val) × Int
  | [] => ([], 0)
  | x :: xs => if (listM a 1024 x).2 ≠ 0 then ([], (listM a 1024 x).2) else if (listsM a xs).2 ≠ 0 then ([], (listsM a xs).2) else ((listM a 1024 x).1 :: (listsM a xs).1, 0)
theorem listsM_app (a : ArM) : ∀ (l r : List Val), (listsM a l).2 = 0 → listsM a (l ++ r) = if (listsM a r).2 ≠ 0 then ([], (listsM a r).2) else ((listsM a l).1 ++ (listsM a r).1, 0)
  | [], r, _ => by
    simp only [List.nil_append, listsM]
    split
    · rename_i h
      induction r with
      | nil => rfl
      | cons x xs ih =>
        rw [listsM] at h ⊢
        split
        · rfl
        · rename_i h1
          rw [if_neg h1] at h
          split
          · rfl
          · rename_i h2; rw [if_neg h2] at h; exact absurd rfl h
    · rename_i h
      have h : (listsM a r).2 = 0 := by omega
      rw [← h]
  | x :: l, r, h => by
    rw [listsM] at h
    split at h
    · rename_i h1; exact absurd h h1
    · rename_i h1
      split at h
      · rename_i h2; exact absurd h h2
      · rename_i h2
        have ih := listsM_app a l r (by omega)
        rw [List.cons_append, listsM, if_neg h1, ih, listsM, if_neg h1, if_neg h2]
        split
        · rfl
        · rename_i h3; simp
/-- Lists ahead of a value, the last one first. -/
def foldM (a : ArM) (e : Val) : List (List Val) → Val × ArM × Int
  | [] => (e, a, 0)
  | x :: xs => aheadM (foldM a e xs).2.1 (foldM a e xs).2.2 (foldM a e xs).1 x
/-- A slice of one's own, as it is laid into another one. -/
theorem fz_live {m0 m : Mem} {l : List Val} {x : AV} (h : Acc m0 m 2 true (vals l) x) : ∃ m', fzv m x = (.lst (vals l), m') ∧ KpC (owns x) m m' := by
  have lv : Lv m0 m 2 true (vals l) x := by
    rcases h with ⟨h1, h2⟩ | ⟨h, id, w, h1, h2, h3, h4⟩
    · exact .inl ⟨0, by omega, h1, h2⟩
    · exact .inr (.inr ⟨id, w, none, h1, h2, h3, h4⟩)
  obtain ⟨m', e1, e2⟩ := lv.fz rfl (vals_row l) (vals_ok l)
  have ex : fzv m x = fz1 m x := by rcases h with ⟨_, rfl⟩ | ⟨_, id, w, rfl, _⟩ <;> rfl
  exact ⟨m', ex.trans e1, e2⟩
theorem okl : ∀ ys : List (List Val), okAll 1 (lists ys) = true
  | [] => rfl
  | y :: ys => by
    have := okl ys
    simp only [lists] at this
    simp [lists, okAll_cons, this]
theorem fz_lists {m0 m : Mem} {ys : List (List Val)} {x : AV} (h : Acc m0 m 1 false (lists ys) x) : ∃ m', fzvs m [x] = ([.lst (lists ys)], m') ∧ KpC (owns x) m m' := by
  have lv : Lv m0 m 1 false (lists ys) x := by
    rcases h with ⟨h1, h2⟩ | ⟨h, id, w, h1, h2, h3, h4⟩
    · exact .inl ⟨0, by omega, h1, h2⟩
    · exact .inr (.inr ⟨id, w, none, h1, h2, h3, h4⟩)
  obtain ⟨m', e1, e2⟩ := lv.fz rfl (fun y hy => by
    obtain ⟨p, _, rfl⟩ := List.mem_map.1 hy
    simp) (okl ys)
  have ex : fzv m x = fz1 m x := by rcases h with ⟨_, rfl⟩ | ⟨_, id, w, rfl, _⟩ <;> rfl
  exact ⟨m', by simp [fzvs, ex, e1], e2⟩
theorem listsM_len (a : ArM) : ∀ (l : List Val) (y : List Val), y ∈ (listsM a l).1 → y.length ≤ 1024
  | [], y, h => by simp [listsM] at h
  | x :: l, y, h => by
    rw [listsM] at h
    split at h
    · simp at h
    · split at h
      · simp at h
      · rcases List.mem_cons.1 h with rfl | h
        · exact listM_len a 1024 x
        · exact listsM_len a l y h
/-- What is so while lists are laid ahead of a value. -/
def JF (X : Nat → Prop) (A C : Nat) (n : Int) (l0 : List Val) (m : Mem) (T D : Nat) (c : LCode) (ys : List (List Val)) (r : Val × ArM × Int) (mm : Mem) : Prop :=
  (∃ X1, Ar X1 A r.2.1 mm ∧ ∀ j, X1 j → (X j ∨ D + 2 ≤ j) ∧ j < mm.next) ∧ KpC (fun j => X j ∨ j = C) m mm ∧ has mm C (clC A n l0 r.2.2) ∧ (∃ w, mm.get m.next = some (.cells [.ptr C 0] false w)) ∧ (∃ w, mm.get (m.next + 1) = some (.cells [int 0, int 0] false w)) ∧ (∃ w, mm.get T = some (.cells [int r.1.1, int r.1.2] false w)) ∧ has mm D [.lst (lists ys)] ∧ (∃ ver, mm.loop (D + 1) = some ⟨.ready, none, c, ver⟩) ∧ D + 2 ≤ mm.next
def appendM (a : ArM) (l : List Val) : Val × ArM × Int := if l = [] then ((4, 0), a, 0) else if (listsM a l.dropLast).2 ≠ 0 then ((4, 0), a, (listsM a l.dropLast).2) else foldM a (l.getLastD (0, 0)) (listsM a l.dropLast).1
set_option maxHeartbeats 8000000 in
theorem q70_24 {X : Nat → Prop} {A C : Nat} {l : List Val} {a : ArM} {m : Mem} (hA : Ar X A a m) (hX : ∀ j, X j → j < m.next) (hsm : Small a) (hp : Pairs a) (hXC : ¬ X C) (hC : has m C (clC A 24 l 0)) (hll : l.length ≤ 4096) {res : Val × ArM × Int} (hres : res = appendM a l) : wph Tryz.prog ca (.func 70) [.ptr C 0] m fun r m' => r = valA res.1 ∧ Cs X A C 24 l res.2.1 res.2.2 m m' := by
  have hC0 := hC
  obtain ⟨hCl, w, hg⟩ := hC
  refine wph_go Tryz.func70 rfl rfl (by simp [Tryz.f70]) (by simp [Tryz.f70]) fun Q hQ => ?_
  simp only [Tryz.f70, show ca.keepRes 70 = false from rfl, show ca.keepArgs 70 = false from rfl] at hQ ⊢
  obtain ⟨M1, hM1⟩ : ∃ M1, M1 = (((m.new [.ptr C 0] false).new [int 0, int 0] false).new [int 0, int 0] false).set (m.next + 2) [int 4, int 0] := ⟨_, rfl⟩
  have k1 : Kp m M1 := by rw [hM1]; simp
  have n1 : M1.next = m.next + 3 := by rw [hM1]; simp
  have b0 : M1.get m.next = some (.cells [.ptr C 0] false (m.clock + 1)) := by rw [hM1]; simp
  have b1 : M1.get (m.next + 1) = some (.cells [int 0, int 0] false (m.clock + 2)) := by rw [hM1]; simp
  have b2 : M1.get (m.next + 2) = some (.cells [int 4, int 0] false (m.clock + 4)) := by rw [hM1]; simp
  have bC := (k1.get C hCl).trans hg
  have c0 : C ≠ m.next := by omega
  have c1 : C ≠ m.next + 1 := by omega
  have c2 : C ≠ m.next + 2 := by omega
  have hC1 := hC0.kp k1
  have hA1 := hA.kp k1
  simp [abuild, placesOf, fillAt, hg, c0, c1, c2]
  rw [← hM1]
  clear hM1
  have fin : ∀ (s' : Sl) (m7 : Mem), s'.at 2 = .ptr (m.next + 1) 0 → (∃ w, m7.get (m.next + 1) = some (.cells [int res.1.1, int res.1.2] false w)) → Cs X A C 24 l res.2.1 res.2.2 m m7 → Q .ret s' m7 := by
    intro s' m7 h2 ⟨w, hg⟩ hcs
    refine hQ _ _ _ ?_
    rw [leave_ret]
    refine ⟨[valA res.1], by simp [aresult, h2, hg, aload, partOf, valA_agg], ?_⟩
    simp only [Bool.false_eq_true, if_false, oneOf, fzr_valA]
    exact ⟨trivial, hcs⟩
  by_cases hl0 : l = []
  · subst hl0
    simp [b1, b2]
    have e0 : res = ((4, 0), a, 0) := by rw [hres, appendM, if_pos rfl]
    rw [e0] at fin
    exact fin _ _ (by simp) ⟨_, by simp; rfl⟩ (Cs.box k1 hX hCl (Cs.refl hA1 (fun j h => by have := hX j h; omega) hC1) (by omega) (by omega) _)
  have hlp : 0 < l.length := by cases l with | nil => exact absurd rfl hl0 | cons _ _ => simp
  have wl : IntKind.i64.wrap ((l.length : Int) - 1) = ((l.length - 1 : Nat) : Int) := by rw [IntWalk.i64_in _ (by omega)]; omega
  have ln : ∀ (R : TypeId) (m : Mem), abuiltin Tryz.prog .len #[66] R [.lst (vals l)] m = some (int l.length, m) := fun R m => by rw [alen_lst Tryz.underlying66, vals_length]
  have hsl := aslice_lst (P := Tryz.prog) (T := 66) (xs := vals l) (k := 2) (lo := none) (hi := some (int ((l.length - 1 : Nat) : Int))) (l := none) (h := some (l.length - 1)) Tryz.underlying66 tsize51 rfl (by simp only [obnd]; rw [if_pos (by omega)]; simp) (by simp) (by simp) (vals_ok _)
  simp at hsl
  have htk : (vals l).take (l.length - 1) = vals l.dropLast := by rw [List.dropLast_eq_take]; simp [vals]
  rw [htk] at hsl
  have ln2 : ∀ (R : TypeId) (m : Mem), abuiltin Tryz.prog .len #[66] R [.lst (vals l.dropLast)] m = some (int (l.length - 1 : Nat), m) := fun R m => by rw [alen_lst Tryz.underlying66, vals_length, List.length_dropLast]
  simp [b0, b1, b2, bC, ln, wl, hl0, hsl, ln2]
  obtain ⟨L, hL⟩ : ∃ L, L = l.dropLast := ⟨_, rfl⟩
  obtain ⟨N, hN⟩ : ∃ N, N = l.length - 1 := ⟨_, rfl⟩
  have hLN : L.length = N := by rw [hL, hN, List.length_dropLast]
  rw [← hL, ← hN]
  refine go_count 145 N (fun i s' m' => ∃ ys, listsM a (L.take i) = (ys, 0) ∧ Acc M1 m' 1 false (lists ys) (s'.at 6) ∧ ys.length ≤ i ∧ KpC (fun j => j = C) M1 m' ∧ has m' C (clC A 24 l 0)) (by simp) (by omega) ⟨[], by simp [listsM], .inl ⟨rfl, by simp⟩, by simp, .refl _ _, hC1⟩ ?_
  rintro i s' m' hi e145 ⟨ys, hys, hacc, hyl, kc, hCm⟩ hsame hw Q' hn he
  have d1 : s'.at 1 = .ptr m.next 0 := (hsame 1 (by kernel_rfl)).trans (by simp)
  have d2 : s'.at 2 = .ptr (m.next + 1) 0 := (hsame 2 (by kernel_rfl)).trans (by simp)
  have d3 : s'.at 3 = .ptr (m.next + 2) 0 := (hsame 3 (by kernel_rfl)).trans (by simp)
  have d143 : s'.at 143 = .lst (vals L) := (hsame 143 (by kernel_rfl)).trans (by simp)
  have d144 : s'.at 144 = int N := (hsame 144 (by kernel_rfl)).trans (by simp)
  have d5 : s'.at 5 = int N := (hsame 5 (by kernel_rfl)).trans (by simp)
  clear hsame
  have n' := kc.next
  have f0 := (kc.get m.next (by omega) (by omega)).trans b0
  have f1 := (kc.get (m.next + 1) (by omega) (by omega)).trans b1
  have f2 := (kc.get (m.next + 2) (by omega) (by omega)).trans b2
  have hAm : Ar X A a m' := hA1.kc kc fun j h e => absurd h (e ▸ hXC)
  obtain ⟨hCl', wC, gC⟩ := id hCm
  simp [e145, d144]
  refine goB_split (fun h => ?_) fun h => ?_
  · have hlt : i < N := by simpa using h
    obtain ⟨x, hx⟩ : ∃ x, L[i]? = some x := ⟨_, List.getElem?_eq_getElem (by omega)⟩
    have hix : aindexAddr Tryz.prog 66 (.lst (vals L)) (int i) = some ((valA x).cptr 0) := vals_at hx
    have z0 : m.next ≠ m'.next := by omega
    simp [e145, d143, hix, d1, f0, z0, valA_agg]
    obtain ⟨Ma, hMa⟩ : ∃ Ma, Ma = (m'.new [int 0, int 0] false).set m'.next [int x.1, int x.2] := ⟨_, rfl⟩
    have ka : Kp m' Ma := by rw [hMa]; simp
    have na : Ma.next = m'.next + 1 := by rw [hMa]; simp
    rw [← hMa]
    clear hMa
    refine goH_of (q130 (hAm.kp ka) hsm hp hXC (hCm.kp ka) x) ?_
    intro x' m2 hlk
    obtain ⟨hacc2, kc2, hC2⟩ := listK_0 hlk
    obtain ⟨r, hr⟩ : ∃ r, r = listM a 1024 x := ⟨_, rfl⟩
    rw [← hr] at hacc2 hC2
    obtain ⟨m3, ez, kz⟩ := fz_live hacc2
    have n2 := kc2.next
    have n3 := kz.next
    have own6 : ∀ j, owns (s'.at 6) j → M1.next ≤ j ∧ j < m'.next := acc_lt hacc
    have ownx : ∀ j, owns x' j → Ma.next ≤ j := fun j h => (acc_lt hacc2 j h).1
    have hacc3 : Acc M1 m3 1 false (lists ys) (s'.at 6) := acc_keptC (acc_keptC (hacc.kp ka) kc2 fun j h e => by have := own6 j h; omega) kz fun j h h2 => by have := own6 j h; have := ownx j h2; omega
    have hC3 := hC2.kc kz fun h => by have := ownx _ h; omega
    have hsrc := src_one (m := m3.new [.lst (vals r.1)] false) (id := m3.next) (c := some 1) (k := 1) (ag := false) (x := .lst (vals r.1)) (w := m3.clock + 1) (f := false) rfl (by simp) (by simp) rfl
    obtain ⟨v6, m6, p1, p2, p3, p4⟩ := acc_any (T := 175) (m := m3.new [.lst (vals r.1)] false) (zs := [.lst (vals r.1)]) (hacc3.kp (.new _ _ _)) (by simp; omega) (okl _) el175 (by simp [okAll_cons, okAll_nil]) (by simp [fzx, fzvs]) (by simp [lists]; omega)
    have n6 := p3.next
    simp at n6
    have kall : KpC (fun j => j = C) M1 m6 := KpC.cut (((((kc.trans (.of (.of ka))).trans kc2).mono fun j h => .inl h).trans (kz.mono fun j h => .inr (by have := ownx j h; omega))).trans ((KpC.of (.of (.new _ _ _))).trans (p3.mono fun j h => .inr (own6 j h).1)))
    have hC6 : has m6 C (clC A 24 l r.2) := (hC3.kp (.new _ _ _)).kc p3 fun h => by have := own6 _ h; omega
    obtain ⟨_, w6, g6C⟩ := id hC6
    have g60 := (kall.get m.next (by omega) (by omega)).trans b0
    have g61 := (kall.get (m.next + 1) (by omega) (by omega)).trans b1
    have g62 := (kall.get (m.next + 2) (by omega) (by omega)).trans b2
    simp [abuildSlice, fzx, fzvs, ez, zeros, fillAt, abuiltin, hsrc, p1, d1, g60, g6C]
    have hall : L = L.take i ++ x :: L.drop (i + 1) := by
      obtain ⟨h1, h2⟩ := List.getElem?_eq_some_iff.1 hx
      rw [← h2, List.getElem_cons_drop, List.take_append_drop]
    have hvA := listsM_app a (L.take i) (x :: L.drop (i + 1)) (by rw [hys])
    rw [← hall, listsM, ← hr] at hvA
    by_cases hz : r.2 = 0
    · simp [hz, e145, hw]
      have htk1 : L.take (i + 1) = L.take i ++ [x] := by
        obtain ⟨h1, h2⟩ := List.getElem?_eq_some_iff.1 hx
        rw [List.take_succ_eq_append_getElem h1, h2]
      rw [hz] at hC6
      refine hn _ _ hlt (by simp) ⟨ys ++ [r.1], ?_, ?_, by simp; omega, kall, hC6⟩
      · rw [htk1, listsM_app a _ _ (by rw [hys]), hys]
        simp [listsM, ← hr, hz]
      · simpa [lists] using p2
    · have hvB : listsM a L = ([], r.2) := by
        rw [hvA, if_pos hz]
        simp [hz]
      simp [hz, d3, d2, g62, g61]
      refine he _ _ _ (by simp) ?_
      simp
      have e0 : res = ((4, 0), a, r.2) := by
        rw [hres, appendM, if_neg hl0, ← hL, hvB]
        simp [hz]
      rw [e0] at fin
      exact fin _ _ (by simp [d2]) ⟨_, by simp; rfl⟩ (Cs.box k1 hX hCl (Cs.of_c hA1 (fun j h => by have := hX j h; omega) hXC kall hC6) (by omega) (by omega) _)
  · have hge : i = N := by have := of_decide_eq_false h; omega
    subst hge
    simp
    refine he _ _ _ (by simp) ?_
    obtain ⟨ev, hev⟩ : ∃ v, l[i]? = some v := ⟨_, List.getElem?_eq_getElem (by omega)⟩
    have hix : aindexAddr Tryz.prog 66 (.lst (vals l)) (int i) = some ((valA ev).cptr 0) := vals_at hev
    have z0 : C ≠ m'.next := by omega
    obtain ⟨x6, hx6⟩ : ∃ x, x = s'.at 6 := ⟨_, rfl⟩
    rw [← hx6] at hacc
    simp [d1, f0, gC, d5, hix, ← hx6]
    obtain ⟨Mc, hMc⟩ : ∃ Mc, Mc = (m'.new [int 0, int 0] false).set m'.next [int ev.1, int ev.2] := ⟨_, rfl⟩
    have kMc : Kp m' Mc := by rw [hMc]; simp
    have nMc : Mc.next = m'.next + 1 := by rw [hMc]; simp
    have gT : Mc.get m'.next = some (.cells [int ev.1, int ev.2] false (m'.clock + 2)) := by rw [hMc]; simp
    rw [← hMc]
    clear hMc
    have own6 : ∀ j, owns x6 j → M1.next ≤ j ∧ j < m'.next := acc_lt hacc
    obtain ⟨M5, ez, kz⟩ := fz_lists (hacc.kp kMc)
    have n5 := kz.next
    have kM5 : KpC (fun j => j = C) M1 M5 := KpC.cut (((kc.trans (.of (.of kMc))).mono fun j h => .inl h).trans (kz.mono fun j h => .inr (own6 j h).1))
    have gT5 := (kz.get m'.next (by omega) fun h => by have := own6 _ h; omega).trans gT
    have hC5 : has M5 C (clC A 24 l 0) := (hCm.kp kMc).kc kz fun h => by have := own6 _ h; omega
    have hA5 : Ar X A a M5 := hA1.kc kM5 fun j h e => absurd h (e ▸ hXC)
    have q := eh_fz Tryz.func133 rfl rfl rfl ez (by simp [fzvs]) (q133 ys M5)
    simp [q.go]
    obtain ⟨T, hT⟩ : ∃ T, T = m'.next := ⟨_, rfl⟩
    obtain ⟨D, hD⟩ : ∃ D, D = M5.next := ⟨_, rfl⟩
    have t1 : m.next + 3 ≤ T := by omega
    have t2 : T < D := by omega
    refine go_range (f := 172) (a := []) (b := [.ptr M5.next 0]) (by simp) (by kernel_rfl) ?_
    simp only [List.nil_append, List.singleton_append]
    generalize hcd : LCode.mk _ _ _ _ _ = c
    have hid : (M5.new [AV.lst (lists ys)] false).next = D + 1 := by simp [hD]
    have hys2 : listsM a L = (ys, 0) := by rw [← hys, ← hLN, List.take_length]
    have hyl2 : ∀ y ∈ ys, y.length ≤ 1024 := fun y hy => listsM_len a L y (by rw [hys2]; exact hy)
    have eres : res = foldM a ev ys := by
      have e9 : l.getLastD (0, 0) = ev := by
        rw [List.getLastD_eq_getLast?, List.getLast?_eq_getElem?, ← hN, hev]
        rfl
      rw [hres, appendM, if_neg hl0, ← hL, hys2, e9]
      simp
    have keep0 : ∀ j, m.next ≤ j → ¬ X j ∧ j ≠ C := fun j h => ⟨fun hx => by have := hX j hx; omega, by omega⟩
    refine wph_mono (back172 (J := fun k' mm => JF X A C 24 l m T D c ys (foldM a ev (ys.drop k')) mm) ys (by omega) ?_ (fun k mm h => by rw [← hD]; exact h.2.2.2.2.2.2.1) _ ?_) ?_
    · rintro k' x mm hx ⟨⟨X1, hA1, hX1⟩, kcc, hC1, ⟨w0, h0⟩, ⟨w1, h1⟩, ⟨w2, h2⟩, h3, ⟨ver, hloop⟩, hn'⟩
      rw [hid]
      refine wph_round hloop (by rw [← hcd]; rfl) ?_
      have c1 := congrArg LCode.assign hcd
      have c2 := congrArg LCode.body hcd
      have c3 := congrArg LCode.N hcd
      have c4 := congrArg LCode.s hcd
      have c5 := congrArg LCode.ps hcd
      dsimp only at c1 c2 c3 c4 c5
      simp only [← c1, ← c2, ← c3, ← c4, ← c5]
      have hstep : foldM a ev (ys.drop k') = aheadM (foldM a ev (ys.drop (k' + 1))).2.1 (foldM a ev (ys.drop (k' + 1))).2.2 (foldM a ev (ys.drop (k' + 1))).1 x := by
        obtain ⟨h1, h2⟩ := List.getElem?_eq_some_iff.1 hx
        rw [← List.getElem_cons_drop h1, h2, foldM]
      rw [hstep]
      generalize foldM a ev (ys.drop (k' + 1)) = r at hA1 hC1 h2 ⊢
      rw [← hT]
      simp [Sl.puts, hloop, d1, h0, h2, valA_agg]
      obtain ⟨Mb, hMb⟩ : ∃ Mb, Mb = mm.setLoop (D + 1) .busy none c := ⟨_, rfl⟩
      have kb : KpC (fun j => j = D + 1) mm Mb := by rw [hMb]; exact kc_loop _ _ _ _ _
      have nb : Mb.next = mm.next := by rw [hMb]; simp
      obtain ⟨uL, lb⟩ : ∃ w, Mb.loop (D + 1) = some ⟨.busy, none, c, w⟩ := ⟨_, by rw [hMb]; simp; rfl⟩
      rw [← hMb]
      clear hMb
      have hXD : ∀ j, m.next ≤ j → j < D + 2 → ¬ X1 j := fun j h1 h2 h => by
        rcases (hX1 j h).1 with h | h
        · exact (keep0 j h1).1 h
        · omega
      refine goH_of (q129 (X := X1) (A := A) (C := C) (n := 24) (l0 := l) (a := r.2.1) (k := r.2.2) (m := Mb) (hA1.kc kb fun j h e => absurd h (by rw [e]; exact hXD _ (by omega) (by omega))) (fun j h => by rw [nb]; exact (hX1 j h).2) (fun h => by
        rcases (hX1 C h).1 with h | h
        · exact hXC h
        · omega) (hC1.kc kb (by omega)) x (by have := hyl2 x (List.mem_of_getElem? hx); omega) r.1) ?_
      rintro _ m6 ⟨rfl, X2, hA2, hX2, kc2, hC2⟩
      have n6 := kc2.next
      have keep : ∀ j, m.next ≤ j → j < D + 2 → ¬ (X1 j ∨ j = C) := fun j h1 h2 h => by
        rcases h with h | h
        · exact hXD j h1 h2 h
        · omega
      have h60 := (kc2.get m.next (by omega) (keep _ (by omega) (by omega))).trans ((kb.get m.next (by omega) (by omega)).trans h0)
      have h61 := (kc2.get (m.next + 1) (by omega) (keep _ (by omega) (by omega))).trans ((kb.get (m.next + 1) (by omega) (by omega)).trans h1)
      have h6T := (kc2.get T (by omega) (keep _ (by omega) (by omega))).trans ((kb.get T (by omega) (by omega)).trans h2)
      have h6D := (h3.kc kb (by omega)).kc kc2 (keep _ (by omega) (by omega))
      have l6 := (kc2.x (D + 1) (by omega) (keep _ (by omega) (by omega))).1.trans lb
      simp [h6T, l6, valA_agg]
      have hX2' : ∀ j, X2 j → (X j ∨ D + 2 ≤ j) ∧ j < m6.next := fun j h => ⟨(hX2 j h).1.elim (fun h => (hX1 j h).1) fun h => .inr (by omega), (hX2 j h).2⟩
      have ne2 : ∀ j, X2 j → j ≠ T ∧ j ≠ D + 1 := fun j h => by
        rcases (hX2' j h).1 with h | h
        · have := hX j h; omega
        · omega
      have p0 : m.next ≠ T := by omega
      have p1 : m.next + 1 ≠ T := by omega
      refine ⟨⟨X2, (hA2.kc (kc_set T _ _) fun j h e => absurd e (ne2 j h).1).kc (kc_loop (D + 1) _ _ _ _) fun j h e => absurd e (ne2 j h).2, fun j h => by simpa using hX2' j h⟩, ?_, (hC2.kc (kc_set T _ _) (by omega)).kc (kc_loop (D + 1) _ _ _ _) (by omega), ⟨w0, by simp [p0, h60]⟩, ⟨w1, by simp [p1, h61]⟩, ⟨_, by simp; rfl⟩, (h6D.kc (kc_set T _ _) (by omega)).kc (kc_loop (D + 1) _ _ _ _) (by omega), ⟨_, by simp; rfl⟩, by simp; omega⟩
      refine KpC.cut (((((kcc.mono fun j h => .inl h).trans (kb.mono fun j h => .inr (by omega))).trans (kc2.mono fun j h => ?_)).trans ((kc_set T _ _).mono fun j h => .inr (by omega))).trans ((kc_loop (D + 1) _ _ _ _).mono fun j h => .inr (by omega)))
      rcases h with h | h
      · rcases (hX1 j h).1 with h | h
        · exact .inl (.inl h)
        · exact .inr (by omega)
      · exact .inl (.inr h)
    · rw [List.drop_length, foldM]
      have kk : Kp M5 ((M5.new [AV.lst (lists ys)] false).newLoop c) := (Kp.new M5 _ _).newLoop c
      have ktot : KpC (fun j => X j ∨ j = C) m ((M5.new [AV.lst (lists ys)] false).newLoop c) := ((KpC.of (.of k1)).trans ((kM5.trans (.of (.of kk))).mono fun j h => .inr h))
      have q0 := (kk.get m.next (by omega)).trans ((kM5.get m.next (by omega) (by omega)).trans b0)
      have q1 := (kk.get (m.next + 1) (by omega)).trans ((kM5.get (m.next + 1) (by omega) (by omega)).trans b1)
      have q2 := (kk.get m'.next (by omega)).trans gT5
      rw [← hT] at q2
      refine ⟨⟨X, hA5.kp kk, fun j h => ⟨.inl h, by have := hX j h; simp; omega⟩⟩, ktot, hC5.kp kk, ⟨_, q0⟩, ⟨_, q1⟩, ⟨_, q2⟩, ⟨by simp; omega, _, by simp [hD]; rfl⟩, ⟨_, by simp [hD]; rfl⟩, by simp; omega⟩
    · rintro v mm ⟨rfl, ⟨X1, hA1, hX1⟩, kcc, hC1, ⟨w0, h0⟩, ⟨w1, h1⟩, ⟨w2, h2⟩, h3, ⟨ver, hloop⟩, hn'⟩
      rw [List.drop_zero, ← eres] at hA1 hC1 h2
      rw [hid]
      refine ⟨_, .normal, hloop, by simp, rfl, ?_⟩
      rw [← hT]
      simp [h1, h2, d2, valA_agg]
      have kl : KpC (fun j => j = D + 1) mm (mm.killLoop (D + 1)) := ⟨by simp, fun id hi hx => by simp, fun id hi hx => by
        have : id ≠ D + 1 := hx
        simp [this]⟩
      refine fin _ _ (by simp [d2]) ⟨_, by simp; rfl⟩ ⟨X1, (hA1.kc kl fun j h e => ?_).kc (kc_set (m.next + 1) _ _) fun j h e => ?_, fun j h => ⟨(hX1 j h).1.imp id fun h => by omega, by simpa using (hX1 j h).2⟩, KpC.cut (((kcc.mono fun j h => .inl h).trans (kl.mono fun j h => .inr (by omega))).trans ((kc_set (m.next + 1) _ _).mono fun j h => .inr (by omega))), (hC1.kc kl (by omega)).kc (kc_set (m.next + 1) _ _) (by omega)⟩
      all_goals
        rcases (hX1 j h).1 with h | h
        · have := hX j h; omega
        · omega
end Go.Proofs.YtnhcmcfgemoehaaGreat

/- What a procedure of lists does; calling one. -/
set_option linter.unusedSimpArgs false
set_option linter.unusedVariables false
set_option linter.unusedSectionVars false
namespace Go.Proofs.YtnhcmcfgemoehaaGreat
set_option maxRecDepth 4000
open Go.V
attribute [local simp] Nat.add_assoc
end Go.Proofs.YtnhcmcfgemoehaaGreat
namespace Go.Proofs.YtnhcmcfgemoehaaGreat
set_option maxRecDepth 4000
open Go.V
attribute [local simp] Nat.add_assoc
/-- May a procedure be called with so many values? -/
def countP (n : Int) (k : Nat) : Prop := (rowOf n).2.1 ≤ k ∧ ((rowOf n).2.2 < 0 ∨ (k : Int) ≤ (rowOf n).2.2)
/-- What a call comes to. -/
noncomputable def doM (a : ArM) (n : Int) (l : List Val) (res : Val × ArM × Int) : Val × ArM × Int := by
  classical
  exact if (rowOf n).1 = [] ∨ 64 ≤ n then ((0, 0), a, 7) else if ¬ countP n l.length then ((0, 0), a, 2)
  else if ¬ (∀ v ∈ l, equalM a v v = true) then ((0, 0), a, 1) else if ¬ (∀ (i : Nat) v, l[i]? = some v → goodP a n v i = true) then ((0, 0), a, 1)
  else if res.2.2 ≠ 0 then ((0, 0), res.2.1, res.2.2) else (res.1, res.2.1, 0)
theorem eq46 {x y : Operand} {i j : Nat} : abin Tryz.prog .eql 46 x y (.ptr i j) (.sc (.pointer none)) = some (.sc (.bool false)) := by
  have : nilTest Tryz.prog 46 (.ptr i j) (.sc (.pointer none)) = some false := by
    unfold nilTest
    rw [Tryz.underlying46]
  simp [abin, plain, this]
set_option maxHeartbeats 16000000 in
theorem q22 {X : Nat → Prop} {A : Nat} {n : Int} {l : List Val} {a : ArM} {m : Mem} (hA : Ar X A a m) (hX : ∀ j, X j → j < m.next) (hsm : Small a) (hll : l.length ≤ 4096) {res : Val × ArM × Int}
    (hdo : (rowOf n).1 ≠ [] → ¬ 64 ≤ n → countP n l.length → (∀ v ∈ l, equalM a v v = true) → (∀ (i : Nat) v, l[i]? = some v → goodP a n v i = true) → ∀ m1 C, Ar X A a m1 → (∀ j, X j → j < m1.next) → ¬ X C → has m1 C (clC A n l 0) → wph Tryz.prog ca (.func 39) [.ptr C 0] m1 fun r m' => r = valA res.1 ∧ Cs X A C n l res.2.1 res.2.2 m1 m') :
    wph Tryz.prog ca (.func 22) [.ptr A 0, int n, .lst (vals l)] m fun v m' => v = .tup [valA (doM a n l res).1, int (doM a n l res).2.2] ∧ Up X A (doM a n l res).2.1 m m' := by
  refine wph_go Tryz.func22 rfl rfl (by simp [Tryz.f22]) (by simp [Tryz.f22]) fun Q hQ => ?_
  simp only [Tryz.f22, show ca.keepRes 22 = false from rfl, show ca.keepArgs 22 = false from rfl] at hQ ⊢
  obtain ⟨d, hd⟩ : ∃ d, d = doM a n l res := ⟨_, rfl⟩
  rw [← hd] at hQ
  have ln : ∀ (R : TypeId) (m : Mem), abuiltin Tryz.prog .len #[66] R [.lst (vals l)] m = some (int l.length, m) := fun R m => by rw [alen_lst Tryz.underlying66, vals_length]
  have fin : ∀ (s' : Sl) (m7 : Mem), s'.at 6 = .ptr m.next 0 → s'.at 7 = int d.2.2 → (∃ w, m7.get m.next = some (.cells [int d.1.1, int d.1.2] false w)) → Up X A d.2.1 m m7 → Q .ret s' m7 := by
    intro s' m7 h6 h7 ⟨w, hg⟩ hu
    refine hQ _ _ _ ?_
    rw [leave_ret]
    refine ⟨[valA d.1, int d.2.2], by simp [aresult, h6, h7, hg, aload, partOf, valA_agg], ?_⟩
    simp only [Bool.false_eq_true, if_false, oneOf]
    have hz := fzr_val m7 d.1 d.2.2
    rw [valA_agg] at hz
    rw [hz]
    exact ⟨rfl, hu⟩
  simp [(q31 n).go]
  simp only [rowC]
  simp
  by_cases c1 : (rowOf n).1 = []
  · have e0 : d = ((0, 0), a, 7) := by rw [hd, doM, if_pos (.inl c1)]
    rw [e0] at fin
    simp [c1, build51]
    exact fin _ _ (by simp) (by simp) ⟨_, by simp; rfl⟩ (Up.kp hA (by simp))
  by_cases c2 : 64 ≤ n
  · have e0 : d = ((0, 0), a, 7) := by rw [hd, doM, if_pos (.inr c2)]
    rw [e0] at fin
    simp [c1, c2, build51]
    exact fin _ _ (by simp) (by simp) ⟨_, by simp; rfl⟩ (Up.kp hA (by simp))
  simp [c1, c2]
  obtain ⟨M1, hM1⟩ : ∃ M1, M1 = ((m.new [int 0, int 0] false).new [.sc (.string ⟨⟨[]⟩⟩), int 0, int 0] false).set (m.next + 1) [.sc (.string ⟨⟨(rowOf n).1⟩⟩), int (rowOf n).2.1, int (rowOf n).2.2] := ⟨_, rfl⟩
  have k1 : Kp m M1 := by rw [hM1]; simp
  have n1 : M1.next = m.next + 2 := by rw [hM1]; simp
  have b0 : M1.get m.next = some (.cells [int 0, int 0] false (m.clock + 1)) := by rw [hM1]; simp
  have b1 : M1.get (m.next + 1) = some (.cells [.sc (.string ⟨⟨(rowOf n).1⟩⟩), int (rowOf n).2.1, int (rowOf n).2.2] false (m.clock + 3)) := by rw [hM1]; simp
  rw [← hM1]
  clear hM1
  refine goH_of (q37 (hA.kp k1) hsm) ?_
  rintro _ m2 ⟨⟨cid, rfl⟩, k2⟩
  have n2 := k2.next
  have d0 := (k2.get m.next (by omega)).trans b0
  have d1 := (k2.get (m.next + 1) (by omega)).trans b1
  have k12 := k1.trans k2
  simp [eq46, ln, d1]
  by_cases c3 : (l.length : Int) < (rowOf n).2.1
  · have e0 : d = ((0, 0), a, 2) := by rw [hd, doM, if_neg (by simp [c1, c2]), if_pos (fun h => by have := h.1; omega)]
    rw [e0] at fin
    simp [c3, d0, build51, undefV, undef]
    exact fin _ _ (by simp) (by simp) ⟨_, by simp; rfl⟩ (Up.kp hA (k12.set (by omega) _))
  by_cases c5 : 0 ≤ (rowOf n).2.2 ∧ (rowOf n).2.2 < l.length
  · have e0 : d = ((0, 0), a, 2) := by rw [hd, doM, if_neg (by simp [c1, c2]), if_pos (fun h => by have := h.2; omega)]
    rw [e0] at fin
    simp [c3, c5, d0, build51, d1]
    exact fin _ _ (by simp) (by simp) ⟨_, by simp; rfl⟩ (Up.kp hA (k12.set (by omega) _))
  have hcnt : countP n l.length := ⟨by omega, by omega⟩
  rw [doM, if_neg (by simp [c1, c2]), if_neg (by simpa using hcnt)] at hd
  obtain ⟨C, hCe⟩ : ∃ C, C = m2.next := ⟨_, rfl⟩
  obtain ⟨M3, hM3⟩ : ∃ M3, M3 = m2.new [.ptr A 0, int n, .lst (vals l), int 0] false := ⟨_, rfl⟩
  have k3 : Kp m2 M3 := by rw [hM3]; simp
  have n3 : M3.next = m2.next + 1 := by rw [hM3]; simp
  have hC3 : has M3 C (clC A n l 0) := ⟨by omega, _, by rw [hM3, hCe]; simp; rfl⟩
  have k13 := k12.trans k3
  have e03 := (k3.get m.next (by omega)).trans d0
  have hXC : ¬ X C := fun h => by have := hX C h; omega
  by_cases c4 : 0 ≤ (rowOf n).2.2
  rotate_left
  · simp [c3, c4, d1, undefV, undef, abuild, placesOf, fillAt, ln]
    rw [← hCe, ← hM3]
    refine go_count 57 l.length (fun i s' m' => Kp M3 m' ∧ ∀ j v, j < i → l[j]? = some v → equalM a v v = true) (by simp) (by omega) ⟨.refl _, fun j v h => by omega⟩ ?_
    rintro i s' m' hi e57 ⟨hkp, hall⟩ hsame hw Q' hn he
    have f0 : s'.at 0 = .ptr A 0 := (hsame 0 (by kernel_rfl)).trans (by simp)
    have f2 : s'.at 2 = .lst (vals l) := (hsame 2 (by kernel_rfl)).trans (by simp)
    have f6 : s'.at 6 = .ptr m.next 0 := (hsame 6 (by kernel_rfl)).trans (by simp)
    have f10 : s'.at 10 = .ptr C 0 := (hsame 10 (by kernel_rfl)).trans (by simp)
    have f55 : s'.at 55 = .lst (vals l) := (hsame 55 (by kernel_rfl)).trans (by simp)
    have f56 : s'.at 56 = int l.length := (hsame 56 (by kernel_rfl)).trans (by simp)
    clear hsame
    have kA := k13.trans hkp
    have n' := hkp.next
    have g0 := (hkp.get m.next (by omega)).trans e03
    simp [e57, f56]
    refine goB_split (fun h => ?_) fun h => ?_
    · have hlt : i < l.length := by simpa using h
      obtain ⟨v, hv⟩ : ∃ v, l[i]? = some v := ⟨_, List.getElem?_eq_getElem hlt⟩
      have hix := vals_at hv
      have k4 : Kp m' ((m'.new [int 0, int 0] false).set m'.next [int v.1, int v.2]) := by simp
      have q := q24 (hA.kp (kA.trans k4)) hsm v v
      have z0 : m.next ≠ m'.next := by omega
      simp [e57, f55, hix, f0, valA_agg, q.go]
      cases hq : equalM a v v with
      | true =>
        simp [e57, hw]
        refine hn _ _ hlt (by simp) ⟨hkp.trans k4, fun j u hj hu => ?_⟩
        by_cases hji : j = i
        · subst hji
          rw [hv] at hu
          cases hu
          exact hq
        · exact hall j u (by omega) hu
      | false =>
        rw [if_pos (fun h => by have := h v (List.mem_of_getElem? hv); rw [hq] at this; cases this)] at hd
        simp [build51, f6, g0, z0]
        refine he _ _ _ (by simp) ?_
        simp
        rw [hd] at fin
        exact fin _ _ (by simp [f6]) (by simp) ⟨_, by simp; rfl⟩ (Up.kp hA ((kA.trans k4).set (Nat.le_refl _) _))
    · have hge : i = l.length := by have := of_decide_eq_false h; omega
      subst hge
      have hEq : ∀ v ∈ l, equalM a v v = true := fun v hv => by
        obtain ⟨j, hj, e⟩ := List.mem_iff_getElem.1 hv
        exact hall j v hj (by rw [List.getElem?_eq_getElem hj, e])
      rw [if_neg (by simpa using hEq)] at hd
      simp
      refine he _ _ _ (by simp) ?_
      simp [f2, ln]
      refine go_count 70 l.length (fun i s2 m4 => Kp M3 m4 ∧ ∀ (j : Nat) v, j < i → l[j]? = some v → goodP a n v j = true) (by simp) (by omega) ⟨hkp, fun j v h => by omega⟩ ?_
      rintro i s2 m4 hi e70 ⟨hkp4, hall4⟩ hsame hw Q' hn he
      have f6 : s2.at 6 = .ptr m.next 0 := (hsame 6 (by kernel_rfl)).trans (by simp [f6])
      have f10 : s2.at 10 = .ptr C 0 := (hsame 10 (by kernel_rfl)).trans (by simp [f10])
      have f69 : s2.at 69 = int l.length := (hsame 69 (by kernel_rfl)).trans (by simp)
      clear hsame
      have kA := k13.trans hkp4
      have n' := hkp4.next
      have g0 := (hkp4.get m.next (by omega)).trans e03
      have hC4 := hC3.kp hkp4
      simp [e70, f69]
      refine goB_split (fun h => ?_) fun h => ?_
      · have hlt : i < l.length := by simpa using h
        obtain ⟨v, hv⟩ : ∃ v, l[i]? = some v := ⟨_, List.getElem?_eq_getElem hlt⟩
        have q := q38 (hA.kp kA) hsm hC4 hv
        simp [e70, f10, q.go]
        cases hq : goodP a n v i with
        | true =>
          simp [e70, hw]
          refine hn _ _ hlt (by simp) ⟨hkp4, fun j u hj hu => ?_⟩
          by_cases hji : j = i
          · subst hji
            rw [hv] at hu
            cases hu
            exact hq
          · exact hall4 j u (by omega) hu
        | false =>
          rw [if_pos (fun h => by have := h i v hv; rw [hq] at this; cases this)] at hd
          simp [build51, f6, g0]
          refine he _ _ _ (by simp) ?_
          simp
          rw [hd] at fin
          exact fin _ _ (by simp [f6]) (by simp) ⟨_, by simp; rfl⟩ (Up.kp hA (kA.set (Nat.le_refl _) _))
      · have hge : i = l.length := by have := of_decide_eq_false h; omega
        subst hge
        have hGd : ∀ (i : Nat) v, l[i]? = some v → goodP a n v i = true := fun j v hv => hall4 j v (List.getElem?_eq_some_iff.1 hv).1 hv
        rw [if_neg (by simpa using hGd)] at hd
        simp
        refine he _ _ _ (by simp) ?_
        simp [f10]
        refine goH_of (hdo c1 c2 hcnt hEq hGd m4 C (hA.kp kA) (fun j h => by have := hX j h; omega) hXC hC4) ?_
        rintro _ m5 ⟨rfl, X', hA5, hX5, kc5, hC5⟩
        have n5 := kc5.next
        obtain ⟨_, w5, g5⟩ := id hC5
        have z0 : C ≠ m5.next := by omega
        have z1 : m.next ≠ m5.next := by omega
        have g5m := (kc5.get m.next (by omega) (fun h => by rcases h with h | h; have := hX _ h; omega; omega)).trans g0
        have up : ∀ cs v, Up X A res.2.1 m (((m5.new [int 0, int 0] false).set m5.next v).set m.next cs) := fun cs v => by
          have kk : Kp m5 ((m5.new [int 0, int 0] false).set m5.next v) := by simp
          refine ⟨X', (hA5.kp kk).kc (kc_set m.next cs _) fun j hj e => ?_, KpC.cut ((((KpC.of (.of kA)).trans (kc5.mono fun j h => h.elim .inl fun h => .inr (by omega))).trans (.of (.of kk))).trans ((kc_set m.next cs _).mono fun j h => .inr (by omega))), fun j hj => (hX5 j hj).1.imp id fun h => by omega⟩
          have e : j = m.next := e
          rcases (hX5 j hj).1 with h | h
          · have := hX j h; omega
          · omega
        simp [f10, g5, z0]
        by_cases hr : res.2.2 = 0
        · rw [if_neg (by simp [hr])] at hd
          simp [hr, f6, g5m, z1, valA_agg]
          rw [hd] at fin
          exact fin _ _ (by simp [f6]) (by simp) ⟨_, by simp; rfl⟩ (up _ _)
        · rw [if_pos hr] at hd
          simp [hr]
          refine go_drawD (by kernel_rfl) ?_
          have z2 : C ≠ m.next := by omega
          have z3 : m.next ≠ C := by omega
          simp [f10, f6, g5, g5m, z0, z1, build51]
          refine goM_of (l := [(4, 5)]) (by kernel_rfl) (?_ : List.all _ _ = true) ?_
          · simp [metAtD, metOkD, rank, verKeptD, Region.wanted, Mem.ver, g5, g5m, z0, z1, z2, z3]
          simp
          rw [hd] at fin
          exact fin _ _ (by simp [f6]) (by simp) ⟨_, by simp; rfl⟩ (up _ _)
  have c6 : ¬ (rowOf n).2.2 < (l.length : Int) := by omega
  simp [c3, c4, c6, d1, abuild, placesOf, fillAt, ln]
  rw [← hCe, ← hM3]
  refine go_count 57 l.length (fun i s' m' => Kp M3 m' ∧ ∀ j v, j < i → l[j]? = some v → equalM a v v = true) (by simp) (by omega) ⟨.refl _, fun j v h => by omega⟩ ?_
  rintro i s' m' hi e57 ⟨hkp, hall⟩ hsame hw Q' hn he
  have f0 : s'.at 0 = .ptr A 0 := (hsame 0 (by kernel_rfl)).trans (by simp)
  have f2 : s'.at 2 = .lst (vals l) := (hsame 2 (by kernel_rfl)).trans (by simp)
  have f6 : s'.at 6 = .ptr m.next 0 := (hsame 6 (by kernel_rfl)).trans (by simp)
  have f10 : s'.at 10 = .ptr C 0 := (hsame 10 (by kernel_rfl)).trans (by simp)
  have f55 : s'.at 55 = .lst (vals l) := (hsame 55 (by kernel_rfl)).trans (by simp)
  have f56 : s'.at 56 = int l.length := (hsame 56 (by kernel_rfl)).trans (by simp)
  clear hsame
  have kA := k13.trans hkp
  have n' := hkp.next
  have g0 := (hkp.get m.next (by omega)).trans e03
  simp [e57, f56]
  refine goB_split (fun h => ?_) fun h => ?_
  · have hlt : i < l.length := by simpa using h
    obtain ⟨v, hv⟩ : ∃ v, l[i]? = some v := ⟨_, List.getElem?_eq_getElem hlt⟩
    have hix := vals_at hv
    have k4 : Kp m' ((m'.new [int 0, int 0] false).set m'.next [int v.1, int v.2]) := by simp
    have q := q24 (hA.kp (kA.trans k4)) hsm v v
    have z0 : m.next ≠ m'.next := by omega
    simp [e57, f55, hix, f0, valA_agg, q.go]
    cases hq : equalM a v v with
    | true =>
      simp [e57, hw]
      refine hn _ _ hlt (by simp) ⟨hkp.trans k4, fun j u hj hu => ?_⟩
      by_cases hji : j = i
      · subst hji
        rw [hv] at hu
        cases hu
        exact hq
      · exact hall j u (by omega) hu
    | false =>
      rw [if_pos (fun h => by have := h v (List.mem_of_getElem? hv); rw [hq] at this; cases this)] at hd
      simp [build51, f6, g0, z0]
      refine he _ _ _ (by simp) ?_
      simp
      rw [hd] at fin
      exact fin _ _ (by simp [f6]) (by simp) ⟨_, by simp; rfl⟩ (Up.kp hA ((kA.trans k4).set (Nat.le_refl _) _))
  · have hge : i = l.length := by have := of_decide_eq_false h; omega
    subst hge
    have hEq : ∀ v ∈ l, equalM a v v = true := fun v hv => by
      obtain ⟨j, hj, e⟩ := List.mem_iff_getElem.1 hv
      exact hall j v hj (by rw [List.getElem?_eq_getElem hj, e])
    rw [if_neg (by simpa using hEq)] at hd
    simp
    refine he _ _ _ (by simp) ?_
    simp [f2, ln]
    refine go_count 70 l.length (fun i s2 m4 => Kp M3 m4 ∧ ∀ (j : Nat) v, j < i → l[j]? = some v → goodP a n v j = true) (by simp) (by omega) ⟨hkp, fun j v h => by omega⟩ ?_
    rintro i s2 m4 hi e70 ⟨hkp4, hall4⟩ hsame hw Q' hn he
    have f6 : s2.at 6 = .ptr m.next 0 := (hsame 6 (by kernel_rfl)).trans (by simp [f6])
    have f10 : s2.at 10 = .ptr C 0 := (hsame 10 (by kernel_rfl)).trans (by simp [f10])
    have f69 : s2.at 69 = int l.length := (hsame 69 (by kernel_rfl)).trans (by simp)
    clear hsame
    have kA := k13.trans hkp4
    have n' := hkp4.next
    have g0 := (hkp4.get m.next (by omega)).trans e03
    have hC4 := hC3.kp hkp4
    simp [e70, f69]
    refine goB_split (fun h => ?_) fun h => ?_
    · have hlt : i < l.length := by simpa using h
      obtain ⟨v, hv⟩ : ∃ v, l[i]? = some v := ⟨_, List.getElem?_eq_getElem hlt⟩
      have q := q38 (hA.kp kA) hsm hC4 hv
      simp [e70, f10, q.go]
      cases hq : goodP a n v i with
      | true =>
        simp [e70, hw]
        refine hn _ _ hlt (by simp) ⟨hkp4, fun j u hj hu => ?_⟩
        by_cases hji : j = i
        · subst hji
          rw [hv] at hu
          cases hu
          exact hq
        · exact hall4 j u (by omega) hu
      | false =>
        rw [if_pos (fun h => by have := h i v hv; rw [hq] at this; cases this)] at hd
        simp [build51, f6, g0]
        refine he _ _ _ (by simp) ?_
        simp
        rw [hd] at fin
        exact fin _ _ (by simp [f6]) (by simp) ⟨_, by simp; rfl⟩ (Up.kp hA (kA.set (Nat.le_refl _) _))
    · have hge : i = l.length := by have := of_decide_eq_false h; omega
      subst hge
      have hGd : ∀ (i : Nat) v, l[i]? = some v → goodP a n v i = true := fun j v hv => hall4 j v (List.getElem?_eq_some_iff.1 hv).1 hv
      rw [if_neg (by simpa using hGd)] at hd
      simp
      refine he _ _ _ (by simp) ?_
      simp [f10]
      refine goH_of (hdo c1 c2 hcnt hEq hGd m4 C (hA.kp kA) (fun j h => by have := hX j h; omega) hXC hC4) ?_
      rintro _ m5 ⟨rfl, X', hA5, hX5, kc5, hC5⟩
      have n5 := kc5.next
      obtain ⟨_, w5, g5⟩ := id hC5
      have z0 : C ≠ m5.next := by omega
      have z1 : m.next ≠ m5.next := by omega
      have g5m := (kc5.get m.next (by omega) (fun h => by rcases h with h | h; have := hX _ h; omega; omega)).trans g0
      have up : ∀ cs v, Up X A res.2.1 m (((m5.new [int 0, int 0] false).set m5.next v).set m.next cs) := fun cs v => by
        have kk : Kp m5 ((m5.new [int 0, int 0] false).set m5.next v) := by simp
        refine ⟨X', (hA5.kp kk).kc (kc_set m.next cs _) fun j hj e => ?_, KpC.cut ((((KpC.of (.of kA)).trans (kc5.mono fun j h => h.elim .inl fun h => .inr (by omega))).trans (.of (.of kk))).trans ((kc_set m.next cs _).mono fun j h => .inr (by omega))), fun j hj => (hX5 j hj).1.imp id fun h => by omega⟩
        have e : j = m.next := e
        rcases (hX5 j hj).1 with h | h
        · have := hX j h; omega
        · omega
      simp [f10, g5, z0]
      by_cases hr : res.2.2 = 0
      · rw [if_neg (by simp [hr])] at hd
        simp [hr, f6, g5m, z1, valA_agg]
        rw [hd] at fin
        exact fin _ _ (by simp [f6]) (by simp) ⟨_, by simp; rfl⟩ (up _ _)
      · rw [if_pos hr] at hd
        simp [hr]
        refine go_drawD (by kernel_rfl) ?_
        have z2 : C ≠ m.next := by omega
        have z3 : m.next ≠ C := by omega
        simp [f10, f6, g5, g5m, z0, z1, build51]
        refine goM_of (l := [(4, 5)]) (by kernel_rfl) (?_ : List.all _ _ = true) ?_
        · simp [metAtD, metOkD, rank, verKeptD, Region.wanted, Mem.ver, g5, g5m, z0, z1, z2, z3]
        simp
        rw [hd] at fin
        exact fin _ _ (by simp [f6]) (by simp) ⟨_, by simp; rfl⟩ (up _ _)
end Go.Proofs.YtnhcmcfgemoehaaGreat

/- The plain law of lists: arenas, without the program. -/
set_option linter.unusedSimpArgs false
set_option linter.unusedVariables false
set_option linter.unusedSectionVars false
namespace Go.Proofs.YtnhcmcfgemoehaaGreat
open Go.V
/-- One arena has become another one. -/
structure Ext (a b : ArM) : Prop where
  room : b.room = a.room
  cells : ∃ t, b.cells = a.cells ++ t
  names : ∃ t, b.names = a.names ++ t
theorem Ext.refl (a : ArM) : Ext a a := ⟨rfl, ⟨[], by simp⟩, [], by simp⟩
theorem Ext.trans {a b c : ArM} (h : Ext a b) (k : Ext b c) : Ext a c := by
  obtain ⟨h1, ⟨t1, h2⟩, ⟨s1, h3⟩⟩ := h
  obtain ⟨k1, ⟨t2, k2⟩, ⟨s2, k3⟩⟩ := k
  exact ⟨k1.trans h1, ⟨t1 ++ t2, by rw [k2, h2, List.append_assoc]⟩, s1 ++ s2, by rw [k3, h3, List.append_assoc]⟩
theorem Ext.at {a b : ArM} (h : Ext a b) {i : Nat} {c : CeM} (hc : a.cells[i]? = some c) : b.cells[i]? = some c := by
  obtain ⟨_, ⟨t, e⟩, _⟩ := h
  rw [e, List.getElem?_append_left (List.getElem?_eq_some_iff.1 hc).1, hc]
theorem Ext.len {a b : ArM} (h : Ext a b) : a.cells.length ≤ b.cells.length := by
  obtain ⟨_, ⟨t, e⟩, _⟩ := h
  rw [e]; simp
theorem Ext.nlen {a b : ArM} (h : Ext a b) : a.names.length ≤ b.names.length := by
  obtain ⟨_, _, ⟨t, e⟩⟩ := h
  rw [e]; simp
theorem below_le {n k k' : Int} (h : below n k = true) (hk : k ≤ k') : below n k' = true := by
  simp [below] at h ⊢
  omega
theorem Ext.good {a b : ArM} (h : Ext a b) {v : Val} (hv : goodM a v = true) : goodM b v = true := by
  have h1 := h.len
  have h2 := h.nlen
  unfold goodM at hv ⊢
  split
  · rename_i c; rwa [if_pos c] at hv
  rename_i c; rw [if_neg c] at hv
  split
  · rename_i c; rwa [if_pos c] at hv
  rename_i c; rw [if_neg c] at hv
  split
  · rename_i c; rwa [if_pos c] at hv
  rename_i c; rw [if_neg c] at hv
  split
  · rename_i c; rwa [if_pos c] at hv
  rename_i c; rw [if_neg c] at hv
  split
  · rename_i c; rw [if_pos c] at hv; exact below_le hv (by omega)
  rename_i c; rw [if_neg c] at hv
  split
  · rename_i c; rwa [if_pos c] at hv
  rename_i c; rw [if_neg c] at hv
  split
  · rename_i c; rw [if_pos c] at hv; exact below_le hv (by omega)
  rename_i c; rw [if_neg c] at hv
  exact hv
/-- A value that is so where only the first cells are. -/
def GoodAt (a : ArM) (i : Nat) (v : Val) : Prop := goodM a v = true ∧ (v.1 = 7 → v.2 < i)
theorem good_7 {a : ArM} {v : Val} (h : goodM a v = true) (h7 : v.1 = 7) : ∃ i : Nat, v = (7, (i : Int)) ∧ i < a.cells.length := by
  obtain ⟨k, n⟩ := v
  simp only at h7
  subst h7
  have h' : below n a.cells.length = true := by simpa [goodM] using h
  simp [below] at h'
  exact ⟨n.toNat, by rw [Int.toNat_of_nonneg h'.1], by omega⟩
theorem good_nil (a : ArM) : goodM a (4, 0) = true := by simp [goodM]
theorem goodAt_len {a : ArM} {v : Val} (h : goodM a v = true) : GoodAt a a.cells.length v := ⟨h, fun h7 => by
  obtain ⟨i, rfl, hi⟩ := good_7 h h7
  exact Int.ofNat_lt.2 hi⟩
theorem GoodAt.ext {a b : ArM} (h : Ext a b) {i : Nat} {v : Val} (hv : GoodAt a i v) : GoodAt b i v := ⟨h.good hv.1, hv.2⟩
/-- Each cell has what it may have, and refers to older ones. -/
def Inv (a : ArM) : Prop := ∀ i c, a.cells[i]? = some c → c.a.length ≤ 4096 ∧ c.s.length ≤ 4096 ∧ kindM c = true ∧ ∀ v ∈ c.a, GoodAt a i v
theorem Inv.small {a : ArM} (h : Inv a) : Small a := fun c hc => by
  obtain ⟨i, hi, e⟩ := List.mem_iff_getElem.1 hc
  have := h i c (by rw [List.getElem?_eq_getElem hi, e])
  exact ⟨this.1, this.2.1⟩
theorem kind_1 {c : CeM} (h : kindM c = true) (h1 : c.k = 1) : ∃ x y, c = ⟨1, 0, [x, y], []⟩ := by
  obtain ⟨k, n, l, s⟩ := c
  simp only at h1
  subst h1
  simp [kindM] at h
  obtain ⟨rfl, rfl, h3⟩ := h
  match l, h3 with
  | [x, y], _ => exact ⟨x, y, rfl⟩
theorem Inv.pairs {a : ArM} (h : Inv a) : Pairs a := fun c hc h1 => by
  obtain ⟨i, hi, e⟩ := List.mem_iff_getElem.1 hc
  obtain ⟨x, y, e⟩ := kind_1 (h i c (by rw [List.getElem?_eq_getElem hi, e])).2.2.1 h1
  exact ⟨x, y, by rw [e]⟩
/-- A cell more, or a fault. -/
theorem alloc_cases (a : ArM) (c : CeM) (ha : Inv a) : ((allocM a c).2.2 ≠ 0 ∧ (allocM a c).1 = a) ∨ ((allocM a c).2.2 = 0 ∧ (allocM a c).1 = pushM a c ∧ (allocM a c).2.1 = (7, (a.cells.length : Int)) ∧ Inv (pushM a c)) := by
  unfold allocM
  by_cases hf : fitsM a c = true
  · rw [if_pos hf]
    by_cases hr : a.room ≤ a.cells.length
    · rw [if_pos hr]; exact .inl ⟨by simp, rfl⟩
    · rw [if_neg hr]
      refine .inr ⟨rfl, rfl, rfl, fun i c' hc' => ?_⟩
      have ext : Ext a (pushM a c) := ⟨rfl, ⟨[c], rfl⟩, [], by simp [pushM]⟩
      simp only [pushM] at hc'
      by_cases hi : i < a.cells.length
      · rw [List.getElem?_append_left hi] at hc'
        obtain ⟨h1, h2, h3, h4⟩ := ha i c' hc'
        exact ⟨h1, h2, h3, fun v hv => (h4 v hv).ext ext⟩
      · have hil := (List.getElem?_eq_some_iff.1 hc').1
        simp at hil
        have e : i = a.cells.length := by omega
        subst e
        rw [List.getElem?_append_right (Nat.le_refl _)] at hc'
        simp at hc'
        subst hc'
        simp [fitsM] at hf
        exact ⟨by omega, by omega, hf.2.2.2.2, fun v hv => (goodAt_len (hf.2.2.1 _ _ hv)).ext ext⟩
  · rw [if_neg hf]; exact .inl ⟨by simp, rfl⟩
theorem ext_push (a : ArM) (c : CeM) : Ext a (pushM a c) := ⟨rfl, ⟨[c], rfl⟩, [], by simp [pushM]⟩
theorem good_push (a : ArM) (c : CeM) : goodM (pushM a c) (7, (a.cells.length : Int)) = true := by
  simp [goodM, pushM, below]
  omega
end Go.Proofs.YtnhcmcfgemoehaaGreat
namespace Go.Proofs.YtnhcmcfgemoehaaGreat
open Go.V
/-- From a value, through pairs, to what is behind them. -/
def Chain (a : ArM) (e : Val) : List Val → Val → Prop
  | [], v => v = e
  | x :: l, v => ∃ (i : Nat) (w : Val), v = (7, (i : Int)) ∧ a.cells[i]? = some ⟨1, 0, [x, w], []⟩ ∧ Chain a e l w
theorem Chain.ext {a b : ArM} (h : Ext a b) {e : Val} : ∀ {l : List Val} {v : Val}, Chain a e l v → Chain b e l v
  | [], _, c => c
  | _ :: _, _, ⟨i, w, h1, h2, h3⟩ => ⟨i, w, h1, h.at h2, h3.ext h⟩
theorem Chain.app {a : ArM} {e f : Val} {r : List Val} (k : Chain a e r f) : ∀ {l : List Val} {v : Val}, Chain a f l v → Chain a e (l ++ r) v
  | [], _, c => by cases c; exact k
  | _ :: _, _, ⟨i, w, h1, h2, h3⟩ => ⟨i, w, h1, h2, Chain.app k h3⟩
end Go.Proofs.YtnhcmcfgemoehaaGreat
namespace Go.Proofs.YtnhcmcfgemoehaaGreat
open Go.V
theorem names_inv {a : ArM} (ha : Inv a) (s : List (List UInt8)) : Ext a ⟨a.room, a.cells, a.names ++ s⟩ ∧ Inv ⟨a.room, a.cells, a.names ++ s⟩ := by
  have e : Ext a ⟨a.room, a.cells, a.names ++ s⟩ := ⟨rfl, ⟨[], by simp⟩, s, rfl⟩
  exact ⟨e, fun i c hc => ⟨(ha i c hc).1, (ha i c hc).2.1, (ha i c hc).2.2.1, fun v hv => ((ha i c hc).2.2.2 v hv).ext e⟩⟩
/-- How many pairs there are. -/
def pairs (l : List CeM) : Nat := l.countP fun c => decide (c.k = 1)
theorem pairs_app (l r : List CeM) : pairs (l ++ r) = pairs l + pairs r := List.countP_append ..
theorem pairs_one (c : CeM) : pairs [c] = if c.k = 1 then 1 else 0 := by simp [pairs, List.countP_cons]
/-- What a step leaves: an arena, with at most so many cells more, and so many pairs; a value of it, where there is no fault. -/
def MadeP (a : ArM) (n k : Nat) (r : ArM × Val × Int) : Prop := Ext a r.1 ∧ Inv r.1 ∧ r.1.cells.length ≤ a.cells.length + n ∧ pairs r.1.cells ≤ pairs a.cells + k ∧ (r.2.2 = 0 → goodM r.1 r.2.1 = true)
theorem made_alloc {a : ArM} (ha : Inv a) (c : CeM) : MadeP a 1 (if c.k = 1 then 1 else 0) (allocM a c) := by
  rcases alloc_cases a c ha with ⟨h1, h2⟩ | ⟨h1, h2, h3, h4⟩
  · exact ⟨by rw [h2]; exact .refl a, by rw [h2]; exact ha, by rw [h2]; omega, by rw [h2]; omega, fun h => absurd h h1⟩
  · exact ⟨by rw [h2]; exact ext_push a c, by rw [h2]; exact h4, by rw [h2]; simp [pushM], by rw [h2]; simp only [pushM]; rw [pairs_app, pairs_one]; exact Nat.le_refl _, fun _ => by rw [h2, h3]; exact good_push a c⟩
theorem MadeP.then {a b : ArM} {n k n2 k2 : Nat} {r : ArM × Val × Int} (h1 : Ext a b) (h2 : b.cells.length ≤ a.cells.length + n) (h3 : pairs b.cells ≤ pairs a.cells + k) (h : MadeP b n2 k2 r) : MadeP a (n + n2) (k + k2) r := ⟨h1.trans h.1, h.2.1, by have := h.2.2.1; omega, by have := h.2.2.2.1; omega, h.2.2.2.2⟩
theorem MadeP.le {a : ArM} {n k n2 k2 : Nat} {r : ArM × Val × Int} (h : MadeP a n k r) (hn : n ≤ n2) (hk : k ≤ k2) : MadeP a n2 k2 r := ⟨h.1, h.2.1, by have := h.2.2.1; omega, by have := h.2.2.2.1; omega, h.2.2.2.2⟩
theorem made_none {a : ArM} (ha : Inv a) {n k : Nat} {v : Val} {e : Int} (h : e = 0 → goodM a v = true) : MadeP a n k (a, v, e) := ⟨.refl a, ha, Nat.le_add_right _ _, Nat.le_add_right _ _, h⟩
theorem made_sym {a : ArM} (ha : Inv a) (s : List UInt8) : MadeP a 0 0 (symM a s) := by
  unfold symM
  split
  · split
    · rename_i i hi
      refine made_none ha fun _ => ?_
      have := (List.findIdx?_eq_some_iff_getElem.1 hi).1
      simp [goodM, below]; omega
    · split
      · exact made_none ha fun h => by simp at h
      · obtain ⟨e1, e2⟩ := names_inv ha [s]
        exact ⟨e1, e2, by simp [nameM], by simp [nameM], fun _ => by simp [goodM, below, nameM]; omega⟩
  · exact made_none ha fun h => by simp at h
theorem made : ∀ (n : Nat) (d : Dat), d.size ≤ n → good d = true → ∀ a, Inv a → MadeP a (2 * d.size - 1) (d.size - 1) (makeM d a)
  | 0, d, hs, _ => by cases d; simp [Dat.size] at hs
  | n + 1, .mk K N S M L T, hs, hg => by
    intro a ha
    obtain ⟨hal, hgL, hgT⟩ := good_mk hg
    rw [Dat.size] at hs ⊢
    have ih := made n
    have pos : ∀ d : Dat, 1 ≤ d.size := fun d => by cases d; rw [Dat.size]; omega
    rw [makeM]
    split
    · rename_i h123
      refine made_none ha fun _ => ?_
      unfold alone at hal
      rcases h123 with rfl | rfl | rfl
      · simp at hal
        simp [goodM, isIn]
        omega
      · simp at hal
        simp [goodM, below]
        omega
      · simp at hal
        simp [goodM, below]
        omega
    split
    · exact (made_sym ha S).le (by omega) (by omega)
    split
    · exact (made_alloc ha _).le (by omega) (by simp)
    split
    · have hv : ∀ (l : List Dat), (∀ d ∈ l, d ∈ L) → ∀ a, Inv a → Ext a (vecM l a).1 ∧ Inv (vecM l a).1 ∧ (vecM l a).1.cells.length ≤ a.cells.length + 2 * sizes l ∧ pairs (vecM l a).1.cells ≤ pairs a.cells + sizes l := by
        intro l
        induction l with
        | nil => intro _ a ha; exact ⟨.refl a, ha, by simp [vecM], by simp [vecM]⟩
        | cons d l ihl =>
          intro hl a ha
          have hsz := size_mem (hl d (by simp))
          have hd := ih d (by omega) (goods_in hgL (hl d (by simp))) a ha
          have h1 := hd.2.2.1
          have h2 := hd.2.2.2.1
          rw [vecM, sizes]
          split
          · exact ⟨hd.1, hd.2.1, by simp only; omega, by simp only; omega⟩
          · obtain ⟨e1, e2, e3, e4⟩ := ihl (fun x hx => hl x (by simp [hx])) _ hd.2.1
            exact ⟨hd.1.trans e1, e2, by simp only; omega, by simp only; omega⟩
      obtain ⟨e1, e2, e3, e4⟩ := hv L (fun _ h => h) a ha
      split
      · rename_i hz
        exact ⟨e1, e2, by simp only; omega, by simp only; omega, fun h => absurd h hz⟩
      · exact (MadeP.then e1 e3 e4 (made_alloc e2 _)).le (by omega) (by simp)
    · have hr0 : MadeP a (2 * sizes T) (sizes T) (if K = 7 then tailM T a else (a, (4, 0), 0)) := by
        split
        · cases T with
          | nil => exact made_none ha fun _ => good_nil a
          | cons t T =>
            rw [tailM, sizes]
            rw [sizes] at hs
            exact (ih t (by omega) (goods_in hgT (by simp)) a ha).le (by omega) (by omega)
        · exact made_none ha fun _ => good_nil a
      generalize (if K = 7 then tailM T a else (a, (4, 0), 0)) = r at hr0
      have hv : ∀ (l : List Dat), (∀ d ∈ l, d ∈ L) → MadeP a (2 * sizes l + 2 * sizes T) (sizes l + sizes T) (lstM l r) := by
        intro l
        induction l with
        | nil => intro _; exact hr0.le (by simp [sizes]) (by simp [sizes])
        | cons d l ihl =>
          intro hl
          have hq := ihl (fun x hx => hl x (by simp [hx]))
          have hsz := size_mem (hl d (by simp))
          have hd := ih d (by omega) (goods_in hgL (hl d (by simp))) _ hq.2.1
          have h1 := pos d
          rw [lstM, sizes]
          split
          · exact hq.le (by omega) (by omega)
          · split
            · rename_i hz
              exact ⟨hq.1.trans hd.1, hd.2.1, by have := hd.2.2.1; have := hq.2.2.1; simp only; omega, by have := hd.2.2.2.1; have := hq.2.2.2.1; simp only; omega, fun h => absurd h hz⟩
            · exact (MadeP.then hq.1 hq.2.2.1 hq.2.2.2.1 (MadeP.then hd.1 hd.2.2.1 hd.2.2.2.1 (made_alloc hd.2.1 _))).le (by omega) (by simp; omega)
      have hL := hv L fun _ h => h
      split
      · rename_i hz
        exact ⟨hL.1, hL.2.1, by have := hL.2.2.1; simp only; omega, by have := hL.2.2.2.1; simp only; omega, fun h => absurd h hz⟩
      · exact hL.le (by omega) (by omega)
end Go.Proofs.YtnhcmcfgemoehaaGreat
namespace Go.Proofs.YtnhcmcfgemoehaaGreat
set_option maxRecDepth 4000
open Go.V
section
variable {X : Nat → Prop} {A : Nat} {a : ArM} {m : Mem}
end
end Go.Proofs.YtnhcmcfgemoehaaGreat

/- The reference: checking, the parts, size, depth. -/
set_option linter.unusedSimpArgs false
set_option linter.unusedVariables false
set_option linter.unusedSectionVars false
namespace Go.Proofs.YtnhcmcfgemoehaaGreat
set_option maxRecDepth 4000
open Go.V
attribute [local simp] Nat.add_assoc
def rs0 : RS := ⟨[], [], 0⟩
/-- The walk's object, made anew. -/
theorem g44 (d : Dat) (hd : d.fits) (m : Mem) : wph Tryz.prog cf (.func 73) [enc d] m fun v m' => ∃ W pv dv, v = .ptr W 0 ∧ RSt m m' W pv dv (rgo d 1 rs0) := by
  refine wph_go Tryz.func73 rfl rfl (by simp [Tryz.f73]) (by simp [Tryz.f73]) fun Q hQ => ?_
  simp only [Tryz.f73, show cf.keepRes 73 = false from rfl, show cf.keepArgs 73 = false from rfl] at hQ ⊢
  simp [abuild, placesOf, fillAt]
  refine goH_of (goes_at d.size d (Nat.le_refl _) hd 1 rs0 m _ (m.next + 1) (.emp 0) (.emp 0) (by omega) (by simp [rs0]) ⟨⟨by simp, m.clock + 2, by simp [rs0]⟩, .inl (by simp [rs0, encs]), .inl (by simp [rs0]), by simp, by omega, fun h => h, fun h => h, fun _ h => h.elim⟩) ?_
  rintro v m' ⟨rfl, hl, pv', dv', h1, h2, _⟩
  simp
  refine hQ _ _ _ ⟨.inr rfl, _, rfl, ?_⟩
  exact ⟨m.next + 1, pv', dv', by simp [oneOf, fzr, fzv, fz1], by simpa [oneOf, fzr, fzv, fz1] using h1⟩
theorem rgo_e (d : Dat) : (rgo d 1 rs0).e = chk d := (rgo_wk d 1 rs0 0 rfl).e
/-- The parts, in order. -/
def nodes (d : Dat) : List Dat := if chk d = 0 then (rgo d 1 rs0).ps else []
theorem g28 (d : Dat) (hd : d.fits) : Gives Tryz.prog cf 40 [enc d] (.lst (encs (nodes d))) := by
  refine gives_go Tryz.func40 rfl rfl rfl (by simp [Tryz.f40]) (by simp [Tryz.f40]) (fun m Q hQ => ?_) rfl (by intro n; simp [AV.bel])
  simp only [Tryz.f40, show cf.keepRes 40 = false from rfl] at hQ ⊢
  simp
  refine goH_of (g44 d hd _) ?_
  rintro v m' ⟨W, pv, dv, rfl, hst⟩
  obtain ⟨wl, wv, we⟩ := hst.w
  have kp : Kp m m' := (Kp.new _ _ _).trans hst.kp
  by_cases h : chk d = 0
  · have hn : nodes d = (rgo d 1 rs0).ps := if_pos h
    simp [we, rgo_e, h]
    refine hQ _ _ _ ⟨.inr rfl, _, rfl, ?_⟩
    obtain ⟨m2, f1, f2⟩ := hst.p.fz hst.kp rfl (fun y hy => by rw [encs_map] at hy; obtain ⟨x, _, rfl⟩ := List.mem_map.1 hy; simp) (okAll_encs _)
    simp [hst.p.fzr, f1, hn]
    exact (Kp.new _ _ _).trans f2
  · have hn : nodes d = [] := if_neg h
    simp [we, rgo_e, h]
    refine hQ _ _ _ ⟨.inr rfl, _, rfl, ?_⟩
    simp [hn, encs, kp]
theorem nodes_length (d : Dat) : ((nodes d).length : Int) = siz d := by
  unfold nodes siz
  split
  · obtain ⟨np, nd, h1, h2, h3, h4, h5⟩ := (rgo_wk d 1 rs0 0 rfl).more
    rw [h1]
    have : wk d 1 (rs0.ps.length : Int) 0 = wk d 1 0 0 := by simp [rs0]
    rw [this] at h4
    rw [h4]
    simp [rs0]
  · rfl
theorem g34 (d : Dat) (hd : d.fits) : Gives Tryz.prog cf 23 [enc d] (int (siz d)) := by
  refine gives_run Tryz.func23 rfl rfl rfl rfl (by simp) (by simp [Tryz.f23]) (by simp [Tryz.f23]) fun m => ?_
  simp [Tryz.f23, show cf.keepRes 23 = false from rfl, (g28 d hd).go, nodes_length]
end Go.Proofs.YtnhcmcfgemoehaaGreat

/- Whether data are few and small. -/
set_option linter.unusedSimpArgs false
set_option linter.unusedVariables false
set_option linter.unusedSectionVars false
namespace Go.Proofs.YtnhcmcfgemoehaaGreat
set_option maxRecDepth 4000
open Go.V
attribute [local simp] Nat.add_assoc
def smallD : Dat → Bool
  | .mk K N S M L T => !decide (1000 < S.length) && (!decide (100 < M.length) && (!decide (300 < L.length) && (!decide (10 < T.length) && !decide (300 < siz (.mk K N S M L T)))))
def smallB (l : List Dat) : Bool := !decide (12 < l.length) && l.all smallD
end Go.Proofs.YtnhcmcfgemoehaaGreat
