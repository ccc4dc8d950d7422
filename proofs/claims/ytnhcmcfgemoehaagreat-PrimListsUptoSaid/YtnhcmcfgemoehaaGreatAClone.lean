import Derived.Test.YtnhcmcfgemoehaaGreatAEqual
/- An arena that goes its own way. -/
set_option linter.unusedSimpArgs false
set_option linter.unusedVariables false
set_option linter.unusedSectionVars false
namespace Go.Proofs.YtnhcmcfgemoehaaGreat
set_option maxRecDepth 4000
open Go.V
attribute [local simp] Nat.add_assoc

theorem Has.elems {t : Nat → Option Nat} {n : Nat} {m : Mem} {x : AV} {l : List (List UInt8)} (h : Has t n 1 false (.emp 0) m x (l.map strA)) : elemsOf m x = some (l.map strA) := by
  rcases h with ⟨h, rfl⟩ | ⟨h, id, v, rfl, h1, _, h2⟩
  · rw [h]; rfl
  · simp only [elemsOf, h2]
    have := chunk_flat (k := 1) (ag := false) rfl (l.map strA) (fun y hy => by obtain ⟨s, _, rfl⟩ := List.mem_map.1 hy; simp)
    rw [if_pos ⟨by rw [flat_length (okAll_str l)]; simp, rfl⟩, List.drop_zero, this]
theorem strs_fzvs (m : Mem) : ∀ l : List (List UInt8), fzvs m (l.map strA) = (l.map strA, m)
  | [] => rfl
  | s :: l => by simp [fzvs, strs_fzvs m l]
theorem q62 {t : Nat → Option Nat} {n : Nat} {m : Mem} {x : AV} {l : List (List UInt8)} (h : Has t n 1 false (.emp 0) m x (l.map strA)) (hl : l.length ≤ 65536) : wph Tryz.prog ca (.func 62) [x] m fun v m' => Kp m m' ∧ v.okc = true ∧ v.cells = [v] := by
  have he := h.elems
  cases l with
  | nil =>
    have e : cloneL Tryz.prog 62 [x] m = some (.emp 1, m.skip) := by
      simp only [cloneL, he, List.map_nil]
    exact ⟨_, _, eh_hook rfl e, kp_skip (.refl m), rfl, rfl⟩
  | cons s l =>
    have run : EH Tryz.prog cf0 (.func 62) [x] m (.sl (m.next + 1) 0 (l.length + 1) 1 false none) ((m.new [] false).new (flat ((s :: l).map strA)) false) := by
      refine eh_of ?_
      refine wph_go Tryz.func62 rfl rfl (by simp [Tryz.f62]) (by simp [Tryz.f62]) fun Q hQ => ?_
      simp only [Tryz.f62, show cf0.keepRes 62 = true from rfl, show cf0.keepArgs 62 = true from rfl] at hQ ⊢
      rcases h with ⟨h, _⟩ | ⟨_, id, w, rfl, h1, _, h2⟩
      · cases h
      have hs : srcOf (m.new [] false) (.sl id 0 ((s :: l).map strA).length 1 false none) = some ((s :: l).map strA) := by
        have hne : id ≠ m.next := by omega
        have e1 : srcOf (m.new [] false) (.sl id 0 ((s :: l).map strA).length 1 false none) = elemsOf (m.new [] false) (.sl id 0 ((s :: l).map strA).length 1 false none) := rfl
        rw [e1, ← he]
        simp only [elemsOf, Mem.get_new, if_neg hne]
      have q := aapp_full (P := Tryz.prog) (T := 85) (k := 1) (ag := false) (ag' := false) (id := m.next) (ys := (s :: l).map strA) (ys' := (s :: l).map strA) (m := m.new [] false) (m' := m.new [] false) (v := m.clock + 1) el85 (by simp) (okAll_str _) (by first | exact strs_fzvs _ _ | simp [fzx, strs_fzvs]) (by simp) (by simp at hl ⊢; omega)
      have nn : ∀ {xo yo : Operand} {N : Nat}, abin Tryz.prog .eql 85 xo yo (.sl id 0 N 1 false none) (.emp 0) = some (.sc (.bool false)) := by
        intro xo yo N
        have : nilTest Tryz.prog 85 (.sl id 0 N 1 false none) (.emp 0) = some false := by simp [nilTest, Tryz.underlying85]
        simp [abin, plain, this]
      simp at hs q
      simp [nn, abuildSlice, fillAt, zeros, hs, q]
      refine hQ _ _ _ ⟨.inr rfl, _, rfl, ?_⟩
      simp [oneOf]
    have e : cloneL Tryz.prog 62 [x] m = some (.sl (m.next + 1) 0 (l.length + 1) 1 false none, (m.new [] false).new (flat ((s :: l).map strA)) false) := by
      simp only [cloneL, he, List.map_cons]
      exact lim_eq run
    exact ⟨_, _, eh_hook rfl e, by simp, rfl, rfl⟩
theorem mp_nil {x y : Operand} {i : Nat} : abin Tryz.prog .eql 89 x y (.mp i) (ofConst (.map none)) = some (.sc (.bool false)) := by
  show abin Tryz.prog .eql 89 x y (.mp i) (.sc (.map none)) = _
  have : nilTest Tryz.prog 89 (.mp i) (.sc (.map none)) = some false := by
    unfold nilTest
    rw [Tryz.underlying89]
  simp [abin, plain, this]
theorem iface89 {x : AV} : amakeIface Tryz.prog 89 x = some (.iface 89 x) := by unfold amakeIface; rw [Tryz.underlying89]
theorem assert89 {x : AV} : aassert Tryz.prog 89 false (.iface 89 x) = some x := by unfold aassert; rw [Tryz.underlying89]; simp
theorem q63 {i : Nat} {M : AMap} {m : Mem} (h : m.map i = some M) : wph Tryz.prog ca (.func 63) [.mp i] m fun v m' => Kp m m' ∧ ∃ j, v = .mp j := by
  obtain ⟨v', m', e, k, j, hj⟩ : ∃ v' m', EH Tryz.prog ca (.func 109) [.iface 89 (.mp i)] m v' m' ∧ Kp m m' ∧ ∃ j, v' = .iface 89 (.mp j) := by
    have hk : ca.hook 109 = some mcloneH := rfl
    refine ⟨.iface 89 (.mp m.next), _, eh_hook hk (by unfold mcloneH; simp only [h, Option.map_some]; rfl), by simp, _, rfl⟩
  refine wph_go Tryz.func63 rfl rfl (by simp [Tryz.f63]) (by simp [Tryz.f63]) fun Q hQ => ?_
  simp only [Tryz.f63, show ca.keepRes 63 = false from rfl, show ca.keepArgs 63 = false from rfl] at hQ ⊢
  subst hj
  simp [mp_nil, iface89, e.go, assert89]
  refine hQ _ _ _ ?_
  simp
  exact k
set_option maxHeartbeats 8000000 in
theorem q37 {X : Nat → Prop} {A : Nat} {a : ArM} {m : Mem} (hA : Ar X A a m) (hsm : Small a) : wph Tryz.prog ca (.func 37) [.ptr A 0] m fun v m' => (∃ i, v = .ptr i 0) ∧ Kp m m' := by
  refine wph_go Tryz.func37 rfl rfl (by simp [Tryz.f37]) (by simp [Tryz.f37]) fun Q hQ => ?_
  simp only [Tryz.f37, show ca.keepRes 37 = false from rfl, show ca.keepArgs 37 = false from rfl] at hQ ⊢
  have q1 := q34 hA
  obtain ⟨t, M, cs, ns, xs, h, hx⟩ := hA
  obtain ⟨w, hv⟩ := h.get
  obtain ⟨w2, hmap⟩ := h.map
  have hAl := h.lt
  have hMl := h.ml
  have hsane := h.sane
  simp [q1.go]
  refine go_drawD (by kernel_rfl) ?_
  simp [hv]
  refine goH_of (q62 h.names hsane.2.2.2) ?_
  rintro vn m1 ⟨k1, on1, on2⟩
  have hv1 := (k1.get A hAl).trans hv
  have hmap1 := (k1.x M hMl).2.trans hmap
  simp [hv1]
  refine goH_of (q63 hmap1) ?_
  rintro _ m2 ⟨k2, jm, rfl⟩
  have k12 := k1.trans k2
  have hv2 := (k12.get A hAl).trans hv
  have n2 := k12.next
  simp [abuild, placesOf, fillAt, on1, on2]
  refine goM_of (l := [(3, 8), (8, 12), (3, 13)]) (by kernel_rfl) (?_ : List.all _ _ = true) ?_
  · simp [metAtD, metOkD, rank, verKeptD, Region.wanted, Mem.ver, hv, hv1, hv2]
  have nA : A ≠ m2.next := by omega
  have lc := fun m' R => len_has (T := 74) (R := R) (m' := m') h.cells Tryz.underlying74
  simp only [List.length_zipWith, h.len, Nat.min_self] at lc
  simp [hv2, nA, lc]
  refine go_count 29 a.cells.length (fun i s' m' => Kp m m' ∧ m2.next < m'.next ∧ ∃ z ys w9, m'.get m2.next = some (.cells [int a.room, z, vn, .mp jm] false w9) ∧ Acc m m' 4 true ys z ∧ ys.length = i ∧ okAll 4 ys = true ∧ ¬ owns z m2.next) (by simp) (by omega) ⟨k12.trans (by simp), by simp, .emp 0, [], _, by simp; rfl, .inl ⟨rfl, rfl⟩, rfl, rfl, fun h => h⟩ ?_
  rintro i s' m' hi e29 ⟨hkp, hlt, z, ys, w9, hN, hacc, hyl, hok, hzN⟩ hsame hw Q' hn he
  have d3 : s'.at 3 = .ptr m2.next 0 := (hsame 3 (by kernel_rfl)).trans (by simp)
  have d27 : s'.at 27 = cs := (hsame 27 (by kernel_rfl)).trans (by simp)
  have d28 : s'.at 28 = int a.cells.length := (hsame 28 (by kernel_rfl)).trans (by simp)
  clear hsame
  simp [e29, d28]
  refine goB_split (fun hc => ?_) fun hc => ?_
  · have hlt2 : i < a.cells.length := by simpa using hc
    obtain ⟨c, hci⟩ : ∃ c, a.cells[i]? = some c := ⟨_, List.getElem?_eq_getElem hlt2⟩
    have h' := h.kc (Y := fun _ => False) (.of (.of hkp)) fun _ _ _ _ h => h
    obtain ⟨C, vc, x, rfl, hC, htC, hgC, hxi, hzi, hrow⟩ := h'.at hci
    have hix := aindexAddr_sl (P := Tryz.prog) (q := .i64) (ag := true) (c := none) (id := C) (off := 0) (len := a.cells.length) (i := i) Tryz.underlying74 tsize78 hlt2
    obtain ⟨f1, f2⟩ := flat_at (zip_ok a.cells xs) hzi
    have hnx := hkp.next
    have nC : C ≠ m'.next := by omega
    have nN : m2.next ≠ m'.next := by omega
    have hcs := hsm c (List.mem_of_getElem? hci)
    simp [e29, d27, hix, hgC, f1, f2]
    obtain ⟨M3, hM3⟩ : ∃ M3, M3 = (m'.new [int 0, int 0, .emp 0, .emp 0] false).set m'.next [int c.k, int c.n, x, .lst (byts c.s)] := ⟨_, rfl⟩
    have k3 : Kp m' M3 := by rw [hM3]; simp
    have n3 : M3.next = m'.next + 1 := by rw [hM3]; simp
    have hN3 := (k3.get m2.next hlt).trans hN
    have g5 : M3.get m'.next = some (.cells [int c.k, int c.n, x, .lst (byts c.s)] false (m'.clock + 2)) := by rw [hM3]; simp
    rw [← hM3]
    clear hM3
    refine go_drawD (by kernel_rfl) ?_
    simp [d3, hN3, g5]
    refine goH_of (q64 (c := c) (x0 := x) ((El.of hrow).kp k3) hcs.1 hcs.2) ?_
    rintro _ m4 ⟨k4, x2, rfl, hf⟩
    have n4 := k4.next
    have hN4 := (k4.get m2.next (by omega)).trans hN3
    have hsrc := src_one (m := m4.new (rowA c x2).cells false) (id := m4.next) (c := some 1) (k := 4) (ag := true) (x := rowA c x2) (w := m4.clock + 1) (f := false) rfl (by simp) (by simp) (rowA_agg c x2)
    obtain ⟨m5, p1, p2, ⟨w5, p3⟩, p4, p5⟩ := acc_app2 (T := 74) ((hacc.kp (k3.trans k4)).kp (.new m4 (rowA c x2).cells false)) hok el74 (zs := [rowA c x2]) (zs' := [rowA c x2]) (List.cons_ne_nil _ _) (by simp [okAll_cons, okAll_nil]) (by simp) (.refl _) (by simp; omega)
    have hN5 : m5.get m2.next = some (.cells [int a.room, z, vn, .mp jm] false w9) := by
      rw [p4 m2.next (by simp; omega) hzN]
      have : m2.next ≠ m4.next := by omega
      simp [this]
      exact hN4
    have nn4 : m2.next ≠ m4.next := by omega
    simp only [rowA_cells] at hsrc p1 p3
    simp [rowA, abuildSlice, zeros, fillAt]
    simp [rowA] at hsrc p1
    simp [abuiltin, hsrc, p1, d3, hN5]
    refine goM_of (l := [(4, 6), (4, 7)]) (by kernel_rfl) (?_ : List.all _ _ = true) ?_
    · simp [metAtD, metOkD, rank, verKeptD, Region.wanted, Mem.ver, d3, hN3, hN4, nn4]
    simp [e29, hw]
    have k34 := (hkp.trans k3).trans k4
    have kp5 : Kp m m5 := by
      refine ⟨by rw [p2]; simp; omega, fun j hj => ?_, fun j hj => ?_⟩
      · have a1 : j ≠ m4.next := by omega
        have := p4 j (by simp; omega) (fun hh => by have := (acc_lt hacc j hh).1; omega)
        simp [a1] at this
        rw [this]
        exact k34.get j hj
      · have b1 := p5 j (by simp; omega)
        have b2 := k34.x j hj
        simp at b1
        exact ⟨b1.1.trans b2.1, b1.2.trans b2.2⟩
    refine hn _ _ hlt2 (by simp) ⟨kp5.set n2 _, by simp [p2]; omega, _, ys ++ [rowA c x2], m5.clock + 1, by simp; rfl, .inr ⟨by simp, m4.next + 1, w5, by simp, by omega, by simp [p2], ?_⟩, by simp [hyl], ?_, fun hh => ?_⟩
    · have a1 : m4.next + 1 ≠ m2.next := by omega
      simp [a1]
      simpa using p3
    · have : okAll 4 (ys ++ [rowA c x2]) = (okAll 4 ys && okAll 4 [rowA c x2]) := by simp [okAll]
      rw [this, hok]
      simp [okAll_cons, okAll_nil]
    · have e : m4.next + 1 = m2.next := hh
      omega
  · simp
    refine he _ _ _ (by simp) ?_
    simp [d3]
    refine hQ _ _ _ ?_
    simp
    exact hkp
end Go.Proofs.YtnhcmcfgemoehaaGreat
