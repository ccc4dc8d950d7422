import Derived.Test.YtjiijacibpgciaaGreatTMay2
/- Slices of one's own: clones; a template's budget. -/
set_option linter.unusedSimpArgs false
set_option linter.unusedVariables false
set_option linter.unusedSectionVars false
namespace Go.Proofs.YtjiijacibpgciaaGreat
set_option maxRecDepth 4000
open Go.V
attribute [local simp] Nat.add_assoc

/-- A slice that was made since a memory. -/
def Ow (m m' : Mem) (k : Nat) (ag : Bool) (ys : List AV) (v : AV) : Prop := Acc m m' k ag ys v ∨ (ys = [] ∧ v = .emp 1)
theorem Ow.kp {m m' m2 : Mem} {k : Nat} {ag : Bool} {ys : List AV} {v : AV} (h : Ow m m' k ag ys v) (hk : Kp m' m2) : Ow m m2 k ag ys v := h.imp (fun h => h.kp hk) id
theorem Ow.back {m0 m m' : Mem} {k : Nat} {ag : Bool} {ys : List AV} {v : AV} (h : Ow m m' k ag ys v) (hk : m0.next ≤ m.next) : Ow m0 m' k ag ys v := by
  rcases h with (h | ⟨h, id, w, h1, h2, h3⟩) | h
  · exact .inl (.inl h)
  · exact .inl (.inr ⟨h, id, w, h1, Nat.le_trans hk h2, h3⟩)
  · exact .inr h
theorem kp_skip {m m1 : Mem} (h : Kp m m1) : Kp m m1.skip := by
  unfold Mem.skip
  exact (h.newr _ _).kill h.next
theorem run37 (x : Int) (l : List Int) (hl : l.length < 2 ^ 21) (m : Mem) : EH Tryz.prog cf0 (.func 37) [.lst ((x :: l).map int)] m (.sl (m.next + 1) 0 (l.length + 1) 1 false none) ((m.new [] false).new ((x :: l).map int) false) := by
  refine eh_of ?_
  refine wph_go Tryz.func37 rfl rfl (by simp [Tryz.f37]) (by simp [Tryz.f37]) fun Q hQ => ?_
  simp only [Tryz.f37, show cf0.keepRes 37 = true from rfl, show cf0.keepArgs 37 = true from rfl] at hQ ⊢
  have e1 := nilTest_cons (T := 22) Tryz.underlying22 (x := int x) (l := l.map int)
  have e2 := aapp_full (m := m.new [] false) (m' := m.new [] false) (ys := int x :: l.map int) (ys' := int x :: l.map int) (id := m.next) (v := m.clock + 1) (ag' := false) el22 (by simp) (by simp [okAll_cons]) (by simp [fzvs]) (by simp) (by simp at hl ⊢; omega)
  simp [abin, plain, e1, abuildSlice, zeros, fillAt, abuiltin, srcOf, elemsOf, e2]
  refine hQ _ _ _ ⟨.inr rfl, _, rfl, ?_⟩
  simp [oneOf, flat_cons, flat_ints]
/-- slices.Clone of ints. -/
theorem t37 (l : List Int) (hl : l.length < 2 ^ 21) (m : Mem) : ∃ v m', EH Tryz.prog cw (.func 37) [.lst (l.map int)] m v m' ∧ Kp m m' ∧ Ow m m' 1 false (l.map int) v := by
  cases l with
  | nil =>
    have e : cloneL Tryz.prog 37 [.lst ([].map int)] m = some (.emp 1, m.skip) := by simp [cloneL, elemsOf]
    exact ⟨_, _, eh_hook rfl e, kp_skip (.refl m), .inr ⟨rfl, rfl⟩⟩
  | cons x l =>
    have e : cloneL Tryz.prog 37 [.lst ((x :: l).map int)] m = some (.sl (m.next + 1) 0 (l.length + 1) 1 false none, (m.new [] false).new ((x :: l).map int) false) := by
      simp only [cloneL, elemsOf, List.map_cons]
      exact lim_eq (run37 x l (by simp at hl; omega) m)
    refine ⟨_, _, eh_hook rfl e, by simp, .inl (.inr ⟨by simp, m.next + 1, m.clock + 2, by simp, by omega, by simp, ?_⟩)⟩
    simp [flat_cons, flat_ints]
theorem run53 (x : Got) (l : List Got) (hl : l.length < 2 ^ 21) (m : Mem) : EH Tryz.prog cf0 (.func 53) [.lst (encGs (x :: l))] m (.sl (m.next + 1) 0 (l.length + 1) 14 true none) ((m.new [] false).new (flat (encGs (x :: l))) false) := by
  refine eh_of ?_
  refine wph_go Tryz.func53 rfl rfl (by simp [Tryz.f53]) (by simp [Tryz.f53]) fun Q hQ => ?_
  simp only [Tryz.f53, show cf0.keepRes 53 = true from rfl, show cf0.keepArgs 53 = true from rfl] at hQ ⊢
  have e1 := nilTest_cons (T := 26) Tryz.underlying26 (x := encG x) (l := encGs l)
  have e2 := aapp_full (m := m.new [] false) (m' := m.new [] false) (ys := encG x :: encGs l) (ys' := encG x :: encGs l) (id := m.next) (v := m.clock + 1) (ag' := true) el26 (by simp) (by simp [okAll_cons, okAll_encGs]) (by simp [fzx, fzvs]) (by simp) (by simp at hl ⊢; omega)
  simp only [encGs]
  simp [abin, plain, e1, abuildSlice, zeros, fillAt, abuiltin, srcOf, elemsOf, e2]
  refine hQ _ _ _ ⟨.inr rfl, _, rfl, ?_⟩
  simp [oneOf, flat_cons, encGs]
/-- slices.Clone of what is got. -/
theorem t53 (l : List Got) (hl : l.length < 2 ^ 21) (m : Mem) : ∃ v m', EH Tryz.prog cw (.func 53) [.lst (encGs l)] m v m' ∧ Kp m m' ∧ Ow m m' 14 true (encGs l) v := by
  cases l with
  | nil =>
    have e : cloneL Tryz.prog 53 [.lst (encGs [])] m = some (.emp 1, m.skip) := by simp [cloneL, elemsOf, encGs]
    exact ⟨_, _, eh_hook rfl e, kp_skip (.refl m), .inr ⟨by simp [encGs], rfl⟩⟩
  | cons x l =>
    have e : cloneL Tryz.prog 53 [.lst (encGs (x :: l))] m = some (.sl (m.next + 1) 0 (l.length + 1) 14 true none, (m.new [] false).new (flat (encGs (x :: l))) false) := by
      simp only [cloneL, elemsOf]
      exact lim_eq (run53 x l (by simp at hl; omega) m)
    refine ⟨_, _, eh_hook rfl e, by simp, .inl (.inr ⟨by simp [encGs], m.next + 1, m.clock + 2, by simp, by omega, by simp, ?_⟩)⟩
    simp
/-- A building. -/
abbrev bld (mark left bad : Int) : List AV := [int mark, int left, int bad]
/-- What a building's method does to it. -/
def BK (B : Nat) (mark : Int) (m m' : Mem) : Prop := KpC (fun i => i = B) m m' ∧ ∃ left bad, has m' B (bld mark left bad)
theorem kc_set (B : Nat) (cs : List AV) (m : Mem) : KpC (fun i => i = B) m (m.set B cs) := ⟨by simp, fun id hi hx => by simp [show id ≠ B from hx], fun id hi hx => by simp⟩
theorem t35 (B : Nat) (mark left bad n : Int) (m : Mem) (hB : has m B (bld mark left bad)) : wph Tryz.prog cw (.func 35) [.ptr B 0, int n] m fun v m' => v = .tup [] ∧ BK B mark m m' := by
  obtain ⟨bl, bv, be⟩ := hB
  refine wph_go Tryz.func35 rfl rfl (by simp [Tryz.f35]) (by simp [Tryz.f35]) fun Q hQ => ?_
  simp only [Tryz.f35, show cw.keepRes 35 = false from rfl, show cw.keepArgs 35 = false from rfl] at hQ ⊢
  have fin : ∀ (s' : Sl) (m' : Mem), KpC (fun i => i = B) m m' → (∃ left bad, has m' B (bld mark left bad)) → Q .normal s' m' := fun s' m' k h => hQ _ _ _ (by rw [leave_none (.inl rfl)]; exact ⟨rfl, k, h⟩)
  simp [be]
  by_cases h1 : IntKind.i64.wrap (left - n) < 0
  · by_cases h2 : bad = 0
    · simp [h1, h2]
      exact fin _ _ ((kc_set _ _ _).trans (kc_set _ _ _)) ⟨_, _, by simp; exact bl, _, by simp; exact ⟨⟨rfl, rfl⟩, rfl⟩⟩
    · simp [h1, h2]
      exact fin _ _ (kc_set _ _ _) ⟨_, _, by simp; exact bl, _, by simp; exact ⟨⟨rfl, rfl⟩, rfl⟩⟩
  · simp [h1, undefV, undef]
    exact fin _ _ (kc_set _ _ _) ⟨_, _, by simp; exact bl, _, by simp; exact ⟨⟨rfl, rfl⟩, rfl⟩⟩

/-- A list, or a slice that was made since a memory. -/
def Lv (m0 m : Mem) (k : Nat) (ag : Bool) (ys : List AV) (v : AV) : Prop := (∃ n, n ≤ 1 ∧ ys = [] ∧ v = .emp n) ∨ v = .lst ys ∨ ∃ id w c, v = .sl id 0 ys.length k ag c ∧ m0.next ≤ id ∧ id < m.next ∧ m.get id = some (.cells (flat ys) false w)
theorem Ow.lv {m0 m : Mem} {k : Nat} {ag : Bool} {ys : List AV} {v : AV} (h : Ow m0 m k ag ys v) : Lv m0 m k ag ys v := by
  rcases h with (⟨h1, h2⟩ | ⟨h, id, w, h1, h2, h3, h4⟩) | ⟨h1, h2⟩
  · exact .inl ⟨0, by omega, h1, h2⟩
  · exact .inr (.inr ⟨id, w, none, h1, h2, h3, h4⟩)
  · exact .inl ⟨1, by omega, h1, h2⟩
theorem Lv.keep {X : Nat → Prop} {m0 m m' : Mem} {k : Nat} {ag : Bool} {ys : List AV} {v : AV} (h : Lv m0 m k ag ys v) (kc : KpC X m m') (hx : ∀ j, owns v j → ¬ X j) : Lv m0 m' k ag ys v := by
  rcases h with h | h | ⟨id, w, c, rfl, h2, h3, h4⟩
  · exact .inl h
  · exact .inr (.inl h)
  · exact .inr (.inr ⟨id, w, c, rfl, h2, Nat.lt_of_lt_of_le h3 kc.next, by rw [kc.get id h3 (hx id rfl)]; exact h4⟩)
theorem Lv.lt {m0 m : Mem} {k : Nat} {ag : Bool} {ys : List AV} {v : AV} (h : Lv m0 m k ag ys v) : ∀ j, owns v j → m0.next ≤ j ∧ j < m.next := by
  rcases h with ⟨n, _, _, rfl⟩ | rfl | ⟨id, w, c, rfl, h2, h3, h4⟩
  · intro j hj; exact hj.elim
  · intro j hj; exact hj.elim
  · rintro j rfl; exact ⟨h2, h3⟩
theorem Lv.back {m0 m m' : Mem} {k : Nat} {ag : Bool} {ys : List AV} {v : AV} (h : Lv m m' k ag ys v) (hk : m0.next ≤ m.next) : Lv m0 m' k ag ys v := by
  rcases h with h | h | ⟨id, w, c, h1, h2, h3⟩
  · exact .inl h
  · exact .inr (.inl h)
  · exact .inr (.inr ⟨id, w, c, h1, Nat.le_trans hk h2, h3⟩)
theorem Lv.okc {m0 m : Mem} {k : Nat} {ag : Bool} {ys : List AV} {v : AV} (h : Lv m0 m k ag ys v) : v.okc = true ∧ v.cells = [v] := by
  rcases h with ⟨n, _, _, rfl⟩ | rfl | ⟨id, w, c, rfl, _⟩ <;> exact ⟨rfl, rfl⟩
theorem Lv.fz {m0 m : Mem} {k : Nat} {ag : Bool} {ys : List AV} {v : AV} (h : Lv m0 m k ag ys v) (ha : (ag || k == 1) = true) (hy : ∀ y ∈ ys, y.cells.length = k ∧ (if ag then AV.agg y.cells = y else y.cells = [y])) (ho : okAll k ys = true) : ∃ m2, fz1 m v = (.lst ys, m2) ∧ KpC (owns v) m m2 := by
  rcases h with ⟨n, hn, rfl, rfl⟩ | rfl | ⟨id, w, c, rfl, h2, h3, h4⟩
  · have : n = 0 ∨ n = 1 := by omega
    rcases this with rfl | rfl <;> exact ⟨m, rfl, .refl _ _⟩
  · exact ⟨m, rfl, .refl _ _⟩
  · refine ⟨_, fz1_row ha h4 hy ho, ⟨Nat.le_of_eq (Mem.next_mark _ _ _ _).symm, fun j hj hn => by rw [Mem.get_mark, if_neg (fun e => hn e.symm)], fun j hj hn => by simp⟩⟩
theorem Lv.len {m0 m m' : Mem} {k T e : Nat} {ag : Bool} {ys : List AV} {v : AV} {R : TypeId} (h : Lv m0 m k ag ys v) (hT : Tryz.prog.underlying T = some (.slice e)) : abuiltin Tryz.prog .len #[T] R [v] m' = some (int ys.length, m') := by
  rcases h with ⟨n, _, rfl, rfl⟩ | rfl | ⟨id, w, c, rfl, _⟩
  · exact alen_emp hT
  · exact alen_lst hT
  · exact alen_sl hT
theorem encs_row (L : List Dat) : ∀ y ∈ encs L, y.cells.length = 6 ∧ (if true then AV.agg y.cells = y else y.cells = [y]) := by
  intro y hy
  rw [encs_map] at hy
  obtain ⟨x, _, rfl⟩ := List.mem_map.1 hy
  simp
theorem ints_row (L : List Int) : ∀ y ∈ L.map int, y.cells.length = 1 ∧ (if false then AV.agg y.cells = y else y.cells = [y]) := by
  intro y hy
  obtain ⟨x, _, rfl⟩ := List.mem_map.1 hy
  simp
/-- A datum whose lists are slices of one's own, as it is handed on. -/
theorem fz_dat {m0 m : Mem} {K N : Int} {S : List UInt8} {M : List Int} {L T : List Dat} {xM xL xT : AV} (hM : Lv m0 m 1 false (M.map int) xM) (hL : Lv m0 m 6 true (encs L) xL) (hT : Lv m0 m 6 true (encs T) xT) (d1 : ∀ j, owns xM j → ¬ owns xL j) (d2 : ∀ j, owns xM j → ¬ owns xT j) (d3 : ∀ j, owns xL j → ¬ owns xT j) :
    ∃ m', fzv m (.agg [int K, int N, .sc (.string ⟨⟨S⟩⟩), xM, xL, xT]) = (enc (.mk K N S M L T), m') ∧ KpC (fun i => owns xM i ∨ owns xL i ∨ owns xT i) m m' := by
  obtain ⟨m1, a1, a2⟩ := hM.fz rfl (ints_row M) (okAll_ints _)
  obtain ⟨m2, b1, b2⟩ := (hL.keep a2 fun j hj h => d1 j h hj).fz rfl (encs_row L) (okAll_encs _)
  obtain ⟨m3, c1, c2⟩ := ((hT.keep a2 fun j hj h => d2 j h hj).keep b2 fun j hj h => d3 j h hj).fz rfl (encs_row T) (okAll_encs _)
  refine ⟨m3, ?_, ((a2.mono fun j h => .inl h).trans (b2.mono fun j h => .inr (.inl h))).trans (c2.mono fun j h => .inr (.inr h))⟩
  simp [fzv, fzs, a1, b1, c1, enc]
end Go.Proofs.YtjiijacibpgciaaGreat
