import Derived.Test.YtnhcmcfgemoehaaPNum2
/- An arena with no cells; calls that look at it. -/
set_option linter.unusedSimpArgs false
set_option linter.unusedVariables false
set_option linter.unusedSectionVars false
namespace Go.Proofs.Ytnhcmcfgemoehaa
open Go.V
attribute [local simp] Nat.add_assoc

/-- An arena with no cells. -/
structure Ar (A M : Nat) (m : Mem) : Prop where
  a : A < m.next
  b : M < m.next
  get : ∃ v, m.get A = some (.cells [int 9, .emp 0, .emp 0, .mp M] false v)
  map : ∃ v, m.map M = some ⟨[], 0, v⟩
theorem Ar.kp {A M : Nat} {m m' : Mem} (h : Ar A M m) (k : Kp m m') : Ar A M m' :=
  ⟨Nat.lt_of_lt_of_le h.a k.next, Nat.lt_of_lt_of_le h.b k.next, by rw [k.get _ h.a]; exact h.get, by rw [(k.x _ h.b).2]; exact h.map⟩
theorem Ar.kx {A M : Nat} {X : Nat → Prop} {m m' : Mem} (h : Ar A M m) (k : KpX X m m') (hA : ¬ X A) : Ar A M m' :=
  ⟨Nat.lt_of_lt_of_le h.a k.next, Nat.lt_of_lt_of_le h.b k.next, by rw [k.get _ h.a hA]; exact h.get, by rw [(k.x _ h.b).2]; exact h.map⟩

theorem ptr_nil {x y : Operand} {i j : Nat} : abin Try.prog .eql 23 x y (.ptr i j) (.sc (.pointer none)) = some (.sc (.bool false)) := by
  have : nilTest Try.prog 23 (.ptr i j) (.sc (.pointer none)) = some false := by
    unfold nilTest
    rw [Try.underlying23]
  simp [abin, plain, this]
theorem e5 (m : Mem) : EH Try.prog cp (.func 5) [int 9] m (.tup [.ptr (m.next + 1) 0, int 0]) (m.newMap.new [int 9, .emp 0, .emp 0, .mp m.next] false) := by
  refine eh_of ?_
  refine wph_go Try.func5 rfl rfl (by simp [Try.f5]) (by simp [Try.f5]) fun Q hQ => ?_
  simp only [Try.f5, show cp.keepRes 5 = false from rfl, show cp.keepArgs 5 = false from rfl] at hQ ⊢
  simp [amakeMap_none tmap51, abuild, placesOf, fillAt]
  refine hQ _ _ _ ?_
  simp
theorem ar_new (m : Mem) : Ar (m.next + 1) m.next (m.newMap.new [int 9, .emp 0, .emp 0, .mp m.next] false) := ⟨by simp, by simp, ⟨_, by simp; rfl⟩, ⟨_, by simp; rfl⟩⟩
theorem e23 {A M : Nat} {m : Mem} (h : Ar A M m) : EH Try.prog cp (.func 23) [.ptr A 0] m (.sc (.bool false)) m := by
  obtain ⟨v, hv⟩ := h.get
  refine eh_run Try.func23 rfl rfl rfl rfl (args1 := [.ptr A 0]) (m1 := m) (by simp) (by simp) (by simp [Try.f23]) (by simp [Try.f23]) ?_
  simp [Try.f23, show cp.keepRes 23 = false from rfl, ptr_nil, hv]
theorem mp_nil {x y : Operand} {i : Nat} : abin Try.prog .eql 51 x y (.mp i) (ofConst (.map none)) = some (.sc (.bool false)) := by
  show abin Try.prog .eql 51 x y (.mp i) (.sc (.map none)) = _
  have : nilTest Try.prog 51 (.mp i) (.sc (.map none)) = some false := by
    unfold nilTest
    rw [Try.underlying51]
  simp [abin, plain, this]
theorem iface51 {x : AV} : amakeIface Try.prog 51 x = some (.iface 51 x) := by unfold amakeIface; rw [Try.underlying51]
theorem assert51 {x : AV} : aassert Try.prog 51 false (.iface 51 x) = some x := by unfold aassert; rw [Try.underlying51]; simp
theorem e37 {i v : Nat} {m : Mem} (h : m.map i = some ⟨[], 0, v⟩) : EH Try.prog cp (.func 37) [.iface 51 (.mp i)] m (.iface 51 (.mp m.next)) (m.newMap.setMap m.next [] 0) := by
  have hk : cp.hook 37 = some mcloneH := rfl
  have e : mcloneH [.iface 51 (.mp i)] m = some (.iface 51 (.mp m.next), m.newMap.setMap m.next [] 0) := by
    unfold mcloneH
    simp only [h, Option.map_some]
  exact eh_hook hk e
theorem fz_mp {m : Mem} {i : Nat} : fzvs m [.mp i] = ([.mp i], m) := by simp
theorem e25 {i v : Nat} {m : Mem} (h : m.map i = some ⟨[], 0, v⟩) : EH Try.prog cp (.func 25) [.mp i] m (.mp m.next) (m.newMap.setMap m.next [] 0) := by
  refine eh_of ?_
  refine wph_go Try.func25 rfl rfl (by simp [Try.f25]) (by simp [Try.f25]) fun Q hQ => ?_
  simp only [Try.f25, show cp.keepRes 25 = false from rfl, show cp.keepArgs 25 = false from rfl] at hQ ⊢
  simp [mp_nil, iface51, (e37 h).go, assert51]
  refine hQ _ _ _ ?_
  simp
theorem gcw_one {m m' : Mem} {v : AV} (hb : v.bel m.next = true) (hk : Kp m m') : gcw 1 m (v, m') = some (v, m) := by
  simp only [gcw]
  rw [if_pos]
  simp only [sameX, Bool.and_eq_true, List.all_eq_true, List.mem_range]
  exact ⟨⟨hb, fun id hi => by rw [hk.get id hi]; exact sameO_refl _⟩, fun id hi => by rw [(hk.x id hi).1, (hk.x id hi).2]; exact ⟨sameL_refl _, sameM_refl _⟩⟩
theorem e24 (m : Mem) : EH Try.prog cp (.func 24) [.emp 0] m (.lst []) m := by
  refine eh_hook (h := cloneP Try.prog 24) rfl ?_
  have e : cloneP Try.prog 24 [.emp 0] m = gcw 1 m (.lst [], m.skip) := rfl
  rw [e]
  exact gcw_one rfl (by unfold Mem.skip; exact (Kp.new _ _ _).kill (Nat.le_refl _))
set_option maxHeartbeats 4000000 in
theorem e16 {A M : Nat} {m : Mem} (h : Ar A M m) : wph Try.prog cp (.func 16) [.ptr A 0] m fun v m' => (∃ i, v = .ptr i 0) ∧ Kp m m' := by
  obtain ⟨v, hv⟩ := h.get
  obtain ⟨u, hu⟩ := h.map
  refine wph_go Try.func16 rfl rfl (by simp [Try.f16]) (by simp [Try.f16]) fun Q hQ => ?_
  simp only [Try.f16, show cp.keepRes 16 = false from rfl, show cp.keepArgs 16 = false from rfl] at hQ ⊢
  simp [(e23 h).go]
  refine go_drawD (by kernel_rfl) ?_
  simp [hv, (e24 _).go, (e25 hu).go, abuild, placesOf, fillAt]
  have hA := h.a
  have n0 : A ≠ m.next := by omega
  have n1 : A ≠ m.next + 1 := by omega
  refine goM_of (l := [(3, 8), (8, 12), (3, 13)]) (by kernel_rfl) (?_ : List.all _ _ = true) ?_
  · simp [metAtD, metOkD, rank, verKeptD, Region.wanted, Mem.ver, hv, n0, n1]
  simp [hv, n0, n1]
  refine go_count 29 0 (fun i s' m' => Kp m m' ∧ s'.at 3 = .ptr (m.next + 1) 0 ∧ s'.at 28 = int 0) (by simp) (by omega) ⟨by simp, by simp, by simp⟩ ?_
  rintro i s' m' hi e29 ⟨hkp, e3, e28⟩ hsame hw Q' hn he
  obtain rfl : i = 0 := by omega
  simp [e29, e28]
  refine he _ _ _ (by simp) ?_
  simp [e3]
  refine hQ _ _ _ ?_
  simp
  exact hkp
/-- A number. -/
def numA (n : Int) : AV := .agg [int 1, int n]
theorem e27 {A M : Nat} {m : Mem} (h : Ar A M m) (n : Int) : EH Try.prog cp (.func 27) [.ptr A 0, numA n] m (.sc (.bool (isIn n))) m := by
  refine eh_run Try.func27 rfl rfl rfl rfl (args1 := [.ptr A 0, numA n]) (m1 := m) (by simp [numA]) (by simp) (by simp [Try.f27]) (by simp [Try.f27]) ?_
  simp [Try.f27, show cp.keepRes 27 = false from rfl, numA, (a40 n).go]
theorem two29 : Two Try.prog 29 3 2 := ⟨⟨_, _, Try.underlying29, by decide, by decide, rfl, rfl, rfl, rfl⟩, tagg3, tagg2, by kernel_rfl, by kernel_rfl⟩
theorem num_eq {xo yo : Operand} (a b : Int) : abin Try.prog .eql 29 xo yo (.agg [int 1, int a]) (.agg [int 1, int b]) = some (.sc (.bool (decide (a = b)))) := by
  have := (abin_two (xo := xo) (yo := yo) two29 (x1 := .int .i64 1) (y1 := .int .i64 1) (x2 := .int .i64 a) (y2 := .int .i64 b) (b1 := true) (b2 := decide (a = b)) (fun d => by rw [equalIn_int Try.underlying3]; simp) (fun d => by rw [equalIn_int Try.underlying2])).1
  simpa using this
theorem num_neq {xo yo : Operand} (a b : Int) : abin Try.prog .neq 29 xo yo (.agg [int 1, int a]) (.agg [int 1, int b]) = some (.sc (.bool (!decide (a = b)))) := by
  have := (abin_two (xo := xo) (yo := yo) two29 (x1 := .int .i64 1) (y1 := .int .i64 1) (x2 := .int .i64 a) (y2 := .int .i64 b) (b1 := true) (b2 := decide (a = b)) (fun d => by rw [equalIn_int Try.underlying3]; simp) (fun d => by rw [equalIn_int Try.underlying2])).2
  simpa using this
theorem e42 {L : Nat} {x : AV} {v : Nat} {m : Mem} (h : m.get L = some (.cells [x, int 1024] false v)) : EH Try.prog cp (.func 42) [.ptr L 0] m (.sc (.bool true)) (m.set L [x, int 1023]) := by
  refine eh_of ?_
  refine wph_go Try.func42 rfl rfl (by simp [Try.f42]) (by simp [Try.f42]) fun Q hQ => ?_
  simp only [Try.f42, show cp.keepRes 42 = false from rfl, show cp.keepArgs 42 = false from rfl] at hQ ⊢
  have hw : IntKind.i64.wrap 1023 = 1023 := IntWalk.i64_in _ (by omega)
  simp [h, hw]
  refine hQ _ _ _ ?_
  simp
theorem e28 {L : Nat} {x : AV} {v : Nat} {m : Mem} (n : Int) (hL : L < m.next) (h : m.get L = some (.cells [x, int 1024] false v)) : wph Try.prog cp (.func 28) [.ptr L 0, numA n, numA n] m fun u m' => u = .sc (.bool true) ∧ KpX (fun i => i = L) m m' := by
  refine wph_go Try.func28 rfl rfl (by simp [Try.f28]) (by simp [Try.f28]) fun Q hQ => ?_
  simp only [Try.f28, show cp.keepRes 28 = false from rfl, show cp.keepArgs 28 = false from rfl] at hQ ⊢
  have h2 : ∀ cs ds, ((m.new cs false).new ds false).get L = some (.cells [x, int 1024] false v) := fun cs ds => by
    rw [Mem.get_new, if_neg (by simp; omega), Mem.get_new, if_neg (by omega)]; exact h
  have n1 : m.next ≠ L := by omega
  have n2 : m.next + 1 ≠ L := by omega
  simp [numA, (e42 (h2 _ _)).go, n1, n2, num_eq]
  refine hQ _ _ _ ?_
  simp
  exact KpX.set (X := fun i => i = L) (((KpX.refl _ _).new _ _).new _ _) rfl _
theorem e17 {A M : Nat} {m : Mem} (h : Ar A M m) (n : Int) : EH Try.prog cp (.func 17) [.ptr A 0, numA n, numA n] m (.sc (.bool (isIn n))) m := by
  refine eh_run Try.func17 rfl rfl rfl rfl (args1 := [.ptr A 0, numA n, numA n]) (m1 := m) (by simp [numA]) (by simp) (by simp [Try.f17]) (by simp [Try.f17]) ?_
  have k1 : Kp m ((m.new (numA n).cells false).new (numA n).cells false) := by simp
  have h1 := h.kp k1
  have e := e27 h1 n
  simp [numA] at e
  have e' := (e23 h1)
  simp [numA] at e'
  simp [Try.f17, show cp.keepRes 17 = false from rfl, numA, e'.go, e.go]
  cases hn : isIn n with
  | false => simp [hn]
  | true =>
    simp [hn, e.go, abuild, placesOf, fillAt]
    have q := e28 (L := m.next + 2) (x := .ptr A 0) (v := m.clock + 3) (m := ((m.new (numA n).cells false).new (numA n).cells false).new [.ptr A 0, int 1024] false) n (by simp) (by simp)
    simp [numA] at q
    refine goH_of q ?_
    rintro u m' ⟨rfl, kx⟩
    simp
    refine kx.toKp (m0 := m) (by simp) fun j hj => ?_
    subst hj
    omega
end Go.Proofs.Ytnhcmcfgemoehaa
