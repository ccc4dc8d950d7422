import Derived.Test.YtnhcmcfgemoehaaGreatAClone
/- A procedure that is called: what its parts do. -/
set_option linter.unusedSimpArgs false
set_option linter.unusedVariables false
set_option linter.unusedSectionVars false
namespace Go.Proofs.YtnhcmcfgemoehaaGreat
set_option maxRecDepth 4000
open Go.V
attribute [local simp] Nat.add_assoc

/-- A call's cells. -/
abbrev clC (A : Nat) (n : Int) (l : List Val) (k : Int) : List AV := [.ptr A 0, int n, .lst (vals l), int k]
/-- What has become of a call's arena and fault. -/
def Cs (X : Nat → Prop) (A C : Nat) (n : Int) (l : List Val) (a : ArM) (k : Int) (m m' : Mem) : Prop :=
  ∃ X', Ar X' A a m' ∧ (∀ j, X' j → (X j ∨ m.next ≤ j) ∧ j < m'.next) ∧ KpC (fun j => X j ∨ j = C) m m' ∧ has m' C (clC A n l k)
section
variable {X : Nat → Prop} {A C : Nat} {n : Int} {l : List Val} {a : ArM} {k : Int} {m : Mem}
theorem Cs.refl (hA : Ar X A a m) (hX : ∀ j, X j → j < m.next) (hC : has m C (clC A n l k)) : Cs X A C n l a k m m := ⟨X, hA, fun j h => ⟨.inl h, hX j h⟩, .refl _ _, hC⟩
theorem Cs.kp {m' : Mem} (hA : Ar X A a m) (hX : ∀ j, X j → j < m.next) (hC : has m C (clC A n l k)) (q : Kp m m') : Cs X A C n l a k m m' := ⟨X, hA.kp q, fun j h => ⟨.inl h, Nat.lt_of_lt_of_le (hX j h) q.next⟩, .of (.of q), hC.kp q⟩
/-- A box of one's own is written behind it. -/
theorem Cs.box {m1 m5 : Mem} {B : Nat} (k1 : Kp m m1) (hX : ∀ j, X j → j < m.next) (hCl : C < m.next) (h : Cs X A C n l a k m1 m5) (hB : m.next ≤ B) (hB1 : B < m1.next) (cs : List AV) : Cs X A C n l a k m (m5.set B cs) := by
  obtain ⟨X', h1, h2, h3, h4⟩ := h
  have n1 := k1.next
  refine ⟨X', h1.kc (kc_set B cs m5) fun j hj e => ?_, fun j hj => ?_, KpC.cut (((KpC.of (.of k1)).trans (h3.mono fun j h => .inl h)).trans ((kc_set B cs m5).mono fun j h => .inr (by omega))), h4.kc (kc_set B cs m5) (by omega)⟩
  · have e : j = B := e
    subst e
    rcases (h2 j hj).1 with h | h
    · have := hX j h; omega
    · omega
  · refine ⟨(h2 j hj).1.imp id fun h => by omega, by simpa using (h2 j hj).2⟩
theorem q112 (hA : Ar X A a m) (hsm : Small a) (hC : has m C (clC A n l k)) (v : Val) : EH Tryz.prog ca (.func 112) [.ptr C 0, valA v] m (ceA (getM a v).1) m := by
  obtain ⟨hl, w, hg⟩ := hC
  have n0 : C ≠ m.next := by omega
  have n1 : C ≠ m.next + 1 := by omega
  have n2 : C ≠ m.next + 2 := by omega
  have q := q57 (hA.kp (m' := (m.new [int v.1, int v.2] false).new [int 0, int 0, .emp 0, .emp 0] false) (by simp)) hsm v
  refine eh_run Tryz.func112 rfl rfl rfl rfl (args1 := [.ptr C 0, valA v]) (m1 := m) (by simp [fzvs]) (by simp) (by simp [Tryz.f112]) (by simp [Tryz.f112]) ?_
  simp only [Tryz.f112, show ca.keepRes 112 = false from rfl]
  simp
  refine go_drawD (by kernel_rfl) ?_
  simp [hg, n0, n1, valA_agg, q.go]
  refine goM_of (l := [(3, 9), (4, 9)]) (by kernel_rfl) (?_ : List.all _ _ = true) ?_
  · simp [metAtD, metOkD, rank, verKeptD, Region.wanted, Mem.ver, hg, n0, n1, n2]
  simp [fzs, ceA]
theorem field78 (c : CeM) : afield Tryz.prog 78 (ceA c) 0 = some (int c.k) := by
  have h1 : (tfield Tryz.prog 78 0).map (fun fd => (fd.type, fd.offset)) = some (3, 0) := by kernel_rfl
  obtain ⟨fd, h1, h2⟩ := Option.map_eq_some_iff.1 h1
  have h3 := congrArg Prod.fst h2
  have h4 := congrArg Prod.snd h2
  dsimp only at h3 h4
  simp only [afield, h1, ceA, h3, h4]
  rw [partOf_sc tagg3]
  rfl
theorem q65 (hA : Ar X A a m) (hsm : Small a) (hC : has m C (clC A n l k)) (v : Val) (kd : Int) : EH Tryz.prog ca (.func 65) [.ptr C 0, valA v, int kd] m (.sc (.bool (decide ((getM a v).1.k = kd)))) m := by
  have k1 : Kp m (m.new [int v.1, int v.2] false) := by simp
  have q := q112 (hA.kp k1) hsm (hC.kp k1) v
  refine eh_run Tryz.func65 rfl rfl rfl rfl (args1 := [.ptr C 0, valA v, int kd]) (m1 := m) (by simp [fzvs]) (by simp) (by simp [Tryz.f65]) (by simp [Tryz.f65]) ?_
  simp [Tryz.f65, show ca.keepRes 65 = false from rfl, valA_agg, q.go, field78]
theorem q126 (n : Int) : Gives Tryz.prog ca 126 [int n] (valA (1, n)) := by
  refine gives_run Tryz.func126 rfl rfl rfl rfl (by simp) (by simp [Tryz.f126]) (by simp [Tryz.f126]) fun m => ?_
  simp [Tryz.f126, show ca.keepRes 126 = false from rfl, abuild, placesOf, fillAt]
  rfl
def failK (k kd : Int) : Int := if k = 0 then kd else k
theorem q134 (hC : has m C (clC A n l k)) (kd : Int) : wph Tryz.prog ca (.func 134) [.ptr C 0, int kd] m fun v m' => v = valA (0, 0) ∧ KpC (fun j => j = C) m m' ∧ has m' C (clC A n l (failK k kd)) := by
  obtain ⟨hl, w, hg⟩ := hC
  have n0 : C ≠ m.next := by omega
  have n0' : m.next ≠ C := by omega
  refine wph_go Tryz.func134 rfl rfl (by simp [Tryz.f134]) (by simp [Tryz.f134]) fun Q hQ => ?_
  simp only [Tryz.f134, show ca.keepRes 134 = false from rfl, show ca.keepArgs 134 = false from rfl] at hQ ⊢
  by_cases h : k = 0
  · simp [hg, n0, n0', h, build51]
    refine hQ _ _ _ ?_
    rw [leave_ret]
    simp [aresult, oneOf, n0, n0', failK, h]
    refine ⟨rfl, KpC.cut (((KpC.of (.of (.new _ _ _))).trans ((kc_set C _ _).mono fun j h => .inl h)).trans ((kc_set m.next _ _).mono fun j h => .inr (by omega))), by simp; omega, m.clock + 2, by simp [n0]⟩
  · simp [hg, n0, n0', h, build51]
    refine hQ _ _ _ ?_
    rw [leave_ret]
    simp [aresult, oneOf, n0, n0', failK, h]
    exact ⟨rfl, (KpC.of (.of (by simp))), by simp; omega, w, by simp [n0, hg]⟩
theorem fzr_valA (m : Mem) (v : Val) : fzr m (valA v) = (valA v, m) := by
  have := valA_fzv v m
  unfold valA at *
  exact this
/-- A new cell, or a fault. -/
def allocC (a : ArM) (k : Int) (c : CeM) : Val × ArM × Int := if k ≠ 0 then ((0, 0), a, k) else if (allocM a c).2.2 ≠ 0 then ((0, 0), (allocM a c).1, 8) else ((allocM a c).2.1, (allocM a c).1, 0)
set_option maxHeartbeats 8000000 in
theorem q127 (hA : Ar X A a m) (hX : ∀ j, X j → j < m.next) (hXC : ¬ X C) (hC : has m C (clC A n l k)) (c : CeM) (h1 : c.a.length < 2 ^ 21) (h2 : c.s.length < 2 ^ 21) : wph Tryz.prog ca (.func 127) [.ptr C 0, ceA c] m fun v m' => v = valA (allocC a k c).1 ∧ Cs X A C n l (allocC a k c).2.1 (allocC a k c).2.2 m m' := by
  have hC0 := hC
  obtain ⟨hl, w, hg⟩ := hC
  have n0 : C ≠ m.next := by omega
  have n1 : C ≠ m.next + 1 := by omega
  have n2 : C ≠ m.next + 2 := by omega
  refine wph_go Tryz.func127 rfl rfl (by simp [Tryz.f127]) (by simp [Tryz.f127]) fun Q hQ => ?_
  simp only [Tryz.f127, show ca.keepRes 127 = false from rfl, show ca.keepArgs 127 = false from rfl] at hQ ⊢
  have fin : ∀ (s' : Sl) (m' : Mem) (v : Val) (a' : ArM) (k' : Int), s'.at 4 = .ptr (m.next + 1) 0 → (∃ w, m'.get (m.next + 1) = some (.cells [int v.1, int v.2] false w)) → allocC a k c = (v, a', k') → Cs X A C n l a' k' m m' → Q .ret s' m' := by
    intro s' m' v a' k' h4 ⟨w, hg⟩ hm hu
    refine hQ _ _ _ ?_
    rw [leave_ret]
    refine ⟨_, by simp [aresult, h4, hg, aload, partOf]; rfl, ?_⟩
    rw [hm]
    simp only [Bool.false_eq_true, if_false, oneOf, valA_agg, fzr_valA]
    exact ⟨trivial, hu⟩
  by_cases hk : k = 0
  rotate_left
  · simp [hg, n0, n1, hk, build51]
    exact fin _ _ (0, 0) a k (by simp) ⟨_, by simp; rfl⟩ (by rw [allocC, if_pos hk]) (Cs.kp hA hX hC0 (by simp))
  subst hk
  obtain ⟨M1, hM1⟩ : ∃ M1, M1 = ((m.new (ceA c).cells false).new [int 0, int 0] false) := ⟨_, rfl⟩
  have k1 : Kp m M1 := by rw [hM1]; simp
  have nM : M1.next = m.next + 2 := by rw [hM1]; simp
  have gc : M1.get m.next = some (.cells [int c.k, int c.n, .lst (vals c.a), .lst (byts c.s)] false (m.clock + 1)) := by rw [hM1]; simp
  have gB : M1.get (m.next + 1) = some (.cells [int 0, int 0] false (m.clock + 2)) := by rw [hM1]; simp
  have gC := (k1.get C hl).trans hg
  have ecA : AV.agg [int c.k, int c.n, .lst (vals c.a), .lst (byts c.s)] = ceA c := rfl
  simp [hg, n0, n1]
  simp at hM1
  rw [← hM1]
  clear hM1
  refine go_drawD (by kernel_rfl) ?_
  simp [gC, gc, ecA]
  refine goH_of (q60 (hA.kp k1) c h1 h2) ?_
  rintro _ m5 ⟨rfl, hup⟩
  obtain ⟨X', hA5, kc5, hX5⟩ := hup.out
  have n5 := kc5.next
  have g5C := (kc5.get C (by omega) hXC).trans gC
  have g5B := (kc5.get (m.next + 1) (by omega) (fun h => by have := hX _ h; omega)).trans gB
  have nC5 : C ≠ m5.next := by omega
  have nB5 : m.next + 1 ≠ m5.next := by omega
  have g5c := (kc5.get m.next (by omega) (fun h => by have := hX _ h; omega)).trans gc
  have nc5 : m.next ≠ m5.next := by omega
  simp
  refine goM_of (l := [(3, 9), (4, 9)]) (by kernel_rfl) (?_ : List.all _ _ = true) ?_
  · simp [metAtD, metOkD, rank, verKeptD, Region.wanted, Mem.ver, gC, gc, g5C, g5c, nC5, nc5, hg, n0, n1, n2]
  have hX1 : ∀ j, X' j → X j ∨ M1.next ≤ j := fun j h => (hX5 j h).1
  by_cases he : (allocM a c).2.2 = 0
  · simp [he, g5B, nB5, valA_agg]
    refine fin _ _ (allocM a c).2.1 (allocM a c).1 0 (by simp) ⟨_, by simp [nB5]; rfl⟩ (by rw [allocC, if_neg (by simp), if_neg (by simp [he])]) ?_
    have k5 : Kp m5 ((m5.new [int 0, int 0] false).set m5.next [int (allocM a c).2.1.1, int (allocM a c).2.1.2]) := by simp
    refine Cs.box k1 hX hl ⟨X', hA5.kp k5, fun j hj => ⟨(hX1 j hj).imp id fun h => by omega, ?_⟩, ?_, ?_⟩ (by omega) (by omega) _
    · have := (hX5 j hj).2
      simp; omega
    · exact (kc5.mono fun j h => .inl h).trans (.of (.of k5))
    · exact ⟨by simp; omega, w, by simp [nC5, g5C]⟩
  · simp [he]
    have k5 : Kp m5 ((m5.new [int 0, int 0] false).set m5.next [int (allocM a c).2.1.1, int (allocM a c).2.1.2]) := by simp
    refine goH_of (q134 (A := A) (n := n) (l := l) (k := 0) (m := (m5.new [int 0, int 0] false).set m5.next [int (allocM a c).2.1.1, int (allocM a c).2.1.2]) ⟨by simp; omega, w, by simp [nC5, g5C]⟩ 8) ?_
    rintro _ m7 ⟨rfl, kc7, hC7⟩
    have n7 := kc7.next
    simp at n7
    have g7B := kc7.get (m.next + 1) (by simp; omega) (by omega)
    simp [nB5, g5B] at g7B
    simp [g7B, valA_agg]
    refine fin _ _ (0, 0) (allocM a c).1 8 (by simp) ⟨_, by simp; rfl⟩ (by rw [allocC, if_neg (by simp), if_pos he]) ?_
    refine Cs.box k1 hX hl ⟨X', (hA5.kp k5).kc kc7 fun j hj e => ?_, fun j hj => ⟨(hX1 j hj).imp id fun h => by omega, ?_⟩, ?_, hC7⟩ (by omega) (by omega) _
    · have e : j = C := e
      subst e
      rcases hX1 j hj with h | h
      · exact absurd h hXC
      · omega
    · have := (hX5 j hj).2
      omega
    · exact ((kc5.mono fun j h => .inl h).trans (.of (.of k5))).trans (kc7.mono fun j h => Or.inr h)
end
end Go.Proofs.YtnhcmcfgemoehaaGreat
