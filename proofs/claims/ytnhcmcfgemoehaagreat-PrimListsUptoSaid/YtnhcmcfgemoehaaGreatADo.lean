import Derived.Test.YtnhcmcfgemoehaaGreatALists
/- What a procedure of lists does; calling one. -/
set_option linter.unusedSimpArgs false
set_option linter.unusedVariables false
set_option linter.unusedSectionVars false
namespace Go.Proofs.YtnhcmcfgemoehaaGreat
set_option maxRecDepth 4000
open Go.V
attribute [local simp] Nat.add_assoc

set_option maxHeartbeats 8000000 in
theorem q39 {X : Nat → Prop} {A C : Nat} {n : Int} {l : List Val} {a : ArM} {m : Mem} (hA : Ar X A a m) (hX : ∀ j, X j → j < m.next) (hXC : ¬ X C) (hC : has m C (clC A n l 0)) (hn : n = 23 ∨ n = 24 ∨ n = 25 ∨ n = 26) {res : Val × ArM × Int}
    (h : ∀ m1, Ar X A a m1 → (∀ j, X j → j < m1.next) → has m1 C (clC A n l 0) → wph Tryz.prog ca (.func 70) [.ptr C 0] m1 fun r m' => r = valA res.1 ∧ Cs X A C n l res.2.1 res.2.2 m1 m') :
    wph Tryz.prog ca (.func 39) [.ptr C 0] m fun r m' => r = valA res.1 ∧ Cs X A C n l res.2.1 res.2.2 m m' := by
  have k1 : Kp m (m.new [int 0, int 0] false) := by simp
  have q := h _ (hA.kp k1) (fun j hj => by have := hX j hj; simp; omega) (hC.kp k1)
  obtain ⟨hCl, w, hg⟩ := hC
  have n0 : C ≠ m.next := by omega
  refine wph_go Tryz.func39 rfl rfl (by simp [Tryz.f39]) (by simp [Tryz.f39]) fun Q hQ => ?_
  simp only [Tryz.f39, show ca.keepRes 39 = false from rfl, show ca.keepArgs 39 = false from rfl] at hQ ⊢
  have fin : ∀ (s' : Sl) (m7 : Mem), s'.at 2 = .ptr m.next 0 → (∃ w, m7.get m.next = some (.cells [int res.1.1, int res.1.2] false w)) → Cs X A C n l res.2.1 res.2.2 m m7 → Q .ret s' m7 := by
    intro s' m7 h2 ⟨w, hg⟩ hcs
    refine hQ _ _ _ ?_
    rw [leave_ret]
    refine ⟨[valA res.1], by simp [aresult, h2, hg, aload, partOf, valA_agg], ?_⟩
    simp only [Bool.false_eq_true, if_false, oneOf, fzr_valA]
    exact ⟨trivial, hcs⟩
  rcases hn with rfl | rfl | rfl | rfl
  all_goals
    simp [hg, n0]
    refine goH_of q ?_
    rintro _ m2 ⟨rfl, hcs⟩
    obtain ⟨X', h1, h2, kc, h4⟩ := id hcs
    have e1 := kc.get m.next (by simp) (fun h => by rcases h with h | h; have := hX _ h; omega; omega)
    simp at e1
    simp [e1, valA_agg]
    exact fin _ _ (by simp) ⟨_, by simp; rfl⟩ (Cs.box k1 hX hCl hcs (Nat.le_refl _) (by simp) _)
end Go.Proofs.YtnhcmcfgemoehaaGreat

/- A procedure is called with values. -/
namespace Go.Proofs.YtnhcmcfgemoehaaGreat
set_option maxRecDepth 4000
open Go.V
attribute [local simp] Nat.add_assoc

/-- May a procedure be called with so many values? -/
def countP (n : Int) (k : Nat) : Prop := (rowOf n).2.1 ≤ k ∧ ((rowOf n).2.2 < 0 ∨ (k : Int) ≤ (rowOf n).2.2)
/-- What a call comes to. -/
noncomputable def doM (a : ArM) (n : Int) (l : List Val) (res : Val × ArM × Int) : Val × ArM × Int := by
  classical
  exact if (rowOf n).1 = [] ∨ 64 ≤ n then ((0, 0), a, 7) else if ¬ countP n l.length then ((0, 0), a, 2)
  else if ¬ (∀ v ∈ l, equalM a v v = true) then ((0, 0), a, 1) else if ¬ (∀ (i : Nat) v, l[i]? = some v → goodP a n v i = true) then ((0, 0), a, 1)
  else if res.2.2 ≠ 0 then ((0, 0), res.2.1, res.2.2) else (res.1, res.2.1, 0)
theorem eq46 {x y : Operand} {i j : Nat} : abin Tryz.prog .eql 46 x y (.ptr i j) (.sc (.pointer none)) = some (.sc (.bool false)) := by
  have : nilTest Tryz.prog 46 (.ptr i j) (.sc (.pointer none)) = some false := by
    unfold nilTest
    rw [Tryz.underlying46]
  simp [abin, plain, this]
set_option maxHeartbeats 16000000 in
theorem q22 {X : Nat → Prop} {A : Nat} {n : Int} {l : List Val} {a : ArM} {m : Mem} (hA : Ar X A a m) (hX : ∀ j, X j → j < m.next) (hsm : Small a) (hll : l.length ≤ 4096) {res : Val × ArM × Int}
    (hdo : (rowOf n).1 ≠ [] → ¬ 64 ≤ n → countP n l.length → (∀ v ∈ l, equalM a v v = true) → (∀ (i : Nat) v, l[i]? = some v → goodP a n v i = true) → ∀ m1 C, Ar X A a m1 → (∀ j, X j → j < m1.next) → ¬ X C → has m1 C (clC A n l 0) → wph Tryz.prog ca (.func 39) [.ptr C 0] m1 fun r m' => r = valA res.1 ∧ Cs X A C n l res.2.1 res.2.2 m1 m') :
    wph Tryz.prog ca (.func 22) [.ptr A 0, int n, .lst (vals l)] m fun v m' => v = .tup [valA (doM a n l res).1, int (doM a n l res).2.2] ∧ Up X A (doM a n l res).2.1 m m' := by
  refine wph_go Tryz.func22 rfl rfl (by simp [Tryz.f22]) (by simp [Tryz.f22]) fun Q hQ => ?_
  simp only [Tryz.f22, show ca.keepRes 22 = false from rfl, show ca.keepArgs 22 = false from rfl] at hQ ⊢
  obtain ⟨d, hd⟩ : ∃ d, d = doM a n l res := ⟨_, rfl⟩
  rw [← hd] at hQ
  have ln : ∀ (R : TypeId) (m : Mem), abuiltin Tryz.prog .len #[66] R [.lst (vals l)] m = some (int l.length, m) := fun R m => by rw [alen_lst Tryz.underlying66, vals_length]
  have fin : ∀ (s' : Sl) (m7 : Mem), s'.at 6 = .ptr m.next 0 → s'.at 7 = int d.2.2 → (∃ w, m7.get m.next = some (.cells [int d.1.1, int d.1.2] false w)) → Up X A d.2.1 m m7 → Q .ret s' m7 := by
    intro s' m7 h6 h7 ⟨w, hg⟩ hu
    refine hQ _ _ _ ?_
    rw [leave_ret]
    refine ⟨[valA d.1, int d.2.2], by simp [aresult, h6, h7, hg, aload, partOf, valA_agg], ?_⟩
    simp only [Bool.false_eq_true, if_false, oneOf]
    have hz := fzr_val m7 d.1 d.2.2
    rw [valA_agg] at hz
    rw [hz]
    exact ⟨rfl, hu⟩
  simp [(q31 n).go]
  simp only [rowC]
  simp
  by_cases c1 : (rowOf n).1 = []
  · have e0 : d = ((0, 0), a, 7) := by rw [hd, doM, if_pos (.inl c1)]
    rw [e0] at fin
    simp [c1, build51]
    exact fin _ _ (by simp) (by simp) ⟨_, by simp; rfl⟩ (Up.kp hA (by simp))
  by_cases c2 : 64 ≤ n
  · have e0 : d = ((0, 0), a, 7) := by rw [hd, doM, if_pos (.inr c2)]
    rw [e0] at fin
    simp [c1, c2, build51]
    exact fin _ _ (by simp) (by simp) ⟨_, by simp; rfl⟩ (Up.kp hA (by simp))
  simp [c1, c2]
  obtain ⟨M1, hM1⟩ : ∃ M1, M1 = ((m.new [int 0, int 0] false).new [.sc (.string ⟨⟨[]⟩⟩), int 0, int 0] false).set (m.next + 1) [.sc (.string ⟨⟨(rowOf n).1⟩⟩), int (rowOf n).2.1, int (rowOf n).2.2] := ⟨_, rfl⟩
  have k1 : Kp m M1 := by rw [hM1]; simp
  have n1 : M1.next = m.next + 2 := by rw [hM1]; simp
  have b0 : M1.get m.next = some (.cells [int 0, int 0] false (m.clock + 1)) := by rw [hM1]; simp
  have b1 : M1.get (m.next + 1) = some (.cells [.sc (.string ⟨⟨(rowOf n).1⟩⟩), int (rowOf n).2.1, int (rowOf n).2.2] false (m.clock + 3)) := by rw [hM1]; simp
  rw [← hM1]
  clear hM1
  refine goH_of (q37 (hA.kp k1) hsm) ?_
  rintro _ m2 ⟨⟨cid, rfl⟩, k2⟩
  have n2 := k2.next
  have d0 := (k2.get m.next (by omega)).trans b0
  have d1 := (k2.get (m.next + 1) (by omega)).trans b1
  have k12 := k1.trans k2
  simp [eq46, ln, d1]
  by_cases c3 : (l.length : Int) < (rowOf n).2.1
  · have e0 : d = ((0, 0), a, 2) := by rw [hd, doM, if_neg (by simp [c1, c2]), if_pos (fun h => by have := h.1; omega)]
    rw [e0] at fin
    simp [c3, d0, build51, undefV, undef]
    exact fin _ _ (by simp) (by simp) ⟨_, by simp; rfl⟩ (Up.kp hA (k12.set (by omega) _))
  by_cases c5 : 0 ≤ (rowOf n).2.2 ∧ (rowOf n).2.2 < l.length
  · have e0 : d = ((0, 0), a, 2) := by rw [hd, doM, if_neg (by simp [c1, c2]), if_pos (fun h => by have := h.2; omega)]
    rw [e0] at fin
    simp [c3, c5, d0, build51, d1]
    exact fin _ _ (by simp) (by simp) ⟨_, by simp; rfl⟩ (Up.kp hA (k12.set (by omega) _))
  have hcnt : countP n l.length := ⟨by omega, by omega⟩
  rw [doM, if_neg (by simp [c1, c2]), if_neg (by simpa using hcnt)] at hd
  obtain ⟨C, hCe⟩ : ∃ C, C = m2.next := ⟨_, rfl⟩
  obtain ⟨M3, hM3⟩ : ∃ M3, M3 = m2.new [.ptr A 0, int n, .lst (vals l), int 0] false := ⟨_, rfl⟩
  have k3 : Kp m2 M3 := by rw [hM3]; simp
  have n3 : M3.next = m2.next + 1 := by rw [hM3]; simp
  have hC3 : has M3 C (clC A n l 0) := ⟨by omega, _, by rw [hM3, hCe]; simp; rfl⟩
  have k13 := k12.trans k3
  have e03 := (k3.get m.next (by omega)).trans d0
  have hXC : ¬ X C := fun h => by have := hX C h; omega
  by_cases c4 : 0 ≤ (rowOf n).2.2
  rotate_left
  · simp [c3, c4, d1, undefV, undef, abuild, placesOf, fillAt, ln]
    rw [← hCe, ← hM3]
    refine go_count 57 l.length (fun i s' m' => Kp M3 m' ∧ ∀ j v, j < i → l[j]? = some v → equalM a v v = true) (by simp) (by omega) ⟨.refl _, fun j v h => by omega⟩ ?_
    rintro i s' m' hi e57 ⟨hkp, hall⟩ hsame hw Q' hn he
    have f0 : s'.at 0 = .ptr A 0 := (hsame 0 (by kernel_rfl)).trans (by simp)
    have f2 : s'.at 2 = .lst (vals l) := (hsame 2 (by kernel_rfl)).trans (by simp)
    have f6 : s'.at 6 = .ptr m.next 0 := (hsame 6 (by kernel_rfl)).trans (by simp)
    have f10 : s'.at 10 = .ptr C 0 := (hsame 10 (by kernel_rfl)).trans (by simp)
    have f55 : s'.at 55 = .lst (vals l) := (hsame 55 (by kernel_rfl)).trans (by simp)
    have f56 : s'.at 56 = int l.length := (hsame 56 (by kernel_rfl)).trans (by simp)
    clear hsame
    have kA := k13.trans hkp
    have n' := hkp.next
    have g0 := (hkp.get m.next (by omega)).trans e03
    simp [e57, f56]
    refine goB_split (fun h => ?_) fun h => ?_
    · have hlt : i < l.length := by simpa using h
      obtain ⟨v, hv⟩ : ∃ v, l[i]? = some v := ⟨_, List.getElem?_eq_getElem hlt⟩
      have hix := vals_at hv
      have k4 : Kp m' ((m'.new [int 0, int 0] false).set m'.next [int v.1, int v.2]) := by simp
      have q := q24 (hA.kp (kA.trans k4)) hsm v v
      have z0 : m.next ≠ m'.next := by omega
      simp [e57, f55, hix, f0, valA_agg, q.go]
      cases hq : equalM a v v with
      | true =>
        simp [e57, hw]
        refine hn _ _ hlt (by simp) ⟨hkp.trans k4, fun j u hj hu => ?_⟩
        by_cases hji : j = i
        · subst hji
          rw [hv] at hu
          cases hu
          exact hq
        · exact hall j u (by omega) hu
      | false =>
        rw [if_pos (fun h => by have := h v (List.mem_of_getElem? hv); rw [hq] at this; cases this)] at hd
        simp [build51, f6, g0, z0]
        refine he _ _ _ (by simp) ?_
        simp
        rw [hd] at fin
        exact fin _ _ (by simp [f6]) (by simp) ⟨_, by simp; rfl⟩ (Up.kp hA ((kA.trans k4).set (Nat.le_refl _) _))
    · have hge : i = l.length := by have := of_decide_eq_false h; omega
      subst hge
      have hEq : ∀ v ∈ l, equalM a v v = true := fun v hv => by
        obtain ⟨j, hj, e⟩ := List.mem_iff_getElem.1 hv
        exact hall j v hj (by rw [List.getElem?_eq_getElem hj, e])
      rw [if_neg (by simpa using hEq)] at hd
      simp
      refine he _ _ _ (by simp) ?_
      simp [f2, ln]
      refine go_count 70 l.length (fun i s2 m4 => Kp M3 m4 ∧ ∀ (j : Nat) v, j < i → l[j]? = some v → goodP a n v j = true) (by simp) (by omega) ⟨hkp, fun j v h => by omega⟩ ?_
      rintro i s2 m4 hi e70 ⟨hkp4, hall4⟩ hsame hw Q' hn he
      have f6 : s2.at 6 = .ptr m.next 0 := (hsame 6 (by kernel_rfl)).trans (by simp [f6])
      have f10 : s2.at 10 = .ptr C 0 := (hsame 10 (by kernel_rfl)).trans (by simp [f10])
      have f69 : s2.at 69 = int l.length := (hsame 69 (by kernel_rfl)).trans (by simp)
      clear hsame
      have kA := k13.trans hkp4
      have n' := hkp4.next
      have g0 := (hkp4.get m.next (by omega)).trans e03
      have hC4 := hC3.kp hkp4
      simp [e70, f69]
      refine goB_split (fun h => ?_) fun h => ?_
      · have hlt : i < l.length := by simpa using h
        obtain ⟨v, hv⟩ : ∃ v, l[i]? = some v := ⟨_, List.getElem?_eq_getElem hlt⟩
        have q := q38 (hA.kp kA) hsm hC4 hv
        simp [e70, f10, q.go]
        cases hq : goodP a n v i with
        | true =>
          simp [e70, hw]
          refine hn _ _ hlt (by simp) ⟨hkp4, fun j u hj hu => ?_⟩
          by_cases hji : j = i
          · subst hji
            rw [hv] at hu
            cases hu
            exact hq
          · exact hall4 j u (by omega) hu
        | false =>
          rw [if_pos (fun h => by have := h i v hv; rw [hq] at this; cases this)] at hd
          simp [build51, f6, g0]
          refine he _ _ _ (by simp) ?_
          simp
          rw [hd] at fin
          exact fin _ _ (by simp [f6]) (by simp) ⟨_, by simp; rfl⟩ (Up.kp hA (kA.set (Nat.le_refl _) _))
      · have hge : i = l.length := by have := of_decide_eq_false h; omega
        subst hge
        have hGd : ∀ (i : Nat) v, l[i]? = some v → goodP a n v i = true := fun j v hv => hall4 j v (List.getElem?_eq_some_iff.1 hv).1 hv
        rw [if_neg (by simpa using hGd)] at hd
        simp
        refine he _ _ _ (by simp) ?_
        simp [f10]
        refine goH_of (hdo c1 c2 hcnt hEq hGd m4 C (hA.kp kA) (fun j h => by have := hX j h; omega) hXC hC4) ?_
        rintro _ m5 ⟨rfl, X', hA5, hX5, kc5, hC5⟩
        have n5 := kc5.next
        obtain ⟨_, w5, g5⟩ := id hC5
        have z0 : C ≠ m5.next := by omega
        have z1 : m.next ≠ m5.next := by omega
        have g5m := (kc5.get m.next (by omega) (fun h => by rcases h with h | h; have := hX _ h; omega; omega)).trans g0
        have up : ∀ cs v, Up X A res.2.1 m (((m5.new [int 0, int 0] false).set m5.next v).set m.next cs) := fun cs v => by
          have kk : Kp m5 ((m5.new [int 0, int 0] false).set m5.next v) := by simp
          refine ⟨X', (hA5.kp kk).kc (kc_set m.next cs _) fun j hj e => ?_, KpC.cut ((((KpC.of (.of kA)).trans (kc5.mono fun j h => h.elim .inl fun h => .inr (by omega))).trans (.of (.of kk))).trans ((kc_set m.next cs _).mono fun j h => .inr (by omega))), fun j hj => (hX5 j hj).1.imp id fun h => by omega⟩
          have e : j = m.next := e
          rcases (hX5 j hj).1 with h | h
          · have := hX j h; omega
          · omega
        simp [f10, g5, z0]
        by_cases hr : res.2.2 = 0
        · rw [if_neg (by simp [hr])] at hd
          simp [hr, f6, g5m, z1, valA_agg]
          rw [hd] at fin
          exact fin _ _ (by simp [f6]) (by simp) ⟨_, by simp; rfl⟩ (up _ _)
        · rw [if_pos hr] at hd
          simp [hr]
          refine go_drawD (by kernel_rfl) ?_
          have z2 : C ≠ m.next := by omega
          have z3 : m.next ≠ C := by omega
          simp [f10, f6, g5, g5m, z0, z1, build51]
          refine goM_of (l := [(4, 5)]) (by kernel_rfl) (?_ : List.all _ _ = true) ?_
          · simp [metAtD, metOkD, rank, verKeptD, Region.wanted, Mem.ver, g5, g5m, z0, z1, z2, z3]
          simp
          rw [hd] at fin
          exact fin _ _ (by simp [f6]) (by simp) ⟨_, by simp; rfl⟩ (up _ _)
  have c6 : ¬ (rowOf n).2.2 < (l.length : Int) := by omega
  simp [c3, c4, c6, d1, abuild, placesOf, fillAt, ln]
  rw [← hCe, ← hM3]
  refine go_count 57 l.length (fun i s' m' => Kp M3 m' ∧ ∀ j v, j < i → l[j]? = some v → equalM a v v = true) (by simp) (by omega) ⟨.refl _, fun j v h => by omega⟩ ?_
  rintro i s' m' hi e57 ⟨hkp, hall⟩ hsame hw Q' hn he
  have f0 : s'.at 0 = .ptr A 0 := (hsame 0 (by kernel_rfl)).trans (by simp)
  have f2 : s'.at 2 = .lst (vals l) := (hsame 2 (by kernel_rfl)).trans (by simp)
  have f6 : s'.at 6 = .ptr m.next 0 := (hsame 6 (by kernel_rfl)).trans (by simp)
  have f10 : s'.at 10 = .ptr C 0 := (hsame 10 (by kernel_rfl)).trans (by simp)
  have f55 : s'.at 55 = .lst (vals l) := (hsame 55 (by kernel_rfl)).trans (by simp)
  have f56 : s'.at 56 = int l.length := (hsame 56 (by kernel_rfl)).trans (by simp)
  clear hsame
  have kA := k13.trans hkp
  have n' := hkp.next
  have g0 := (hkp.get m.next (by omega)).trans e03
  simp [e57, f56]
  refine goB_split (fun h => ?_) fun h => ?_
  · have hlt : i < l.length := by simpa using h
    obtain ⟨v, hv⟩ : ∃ v, l[i]? = some v := ⟨_, List.getElem?_eq_getElem hlt⟩
    have hix := vals_at hv
    have k4 : Kp m' ((m'.new [int 0, int 0] false).set m'.next [int v.1, int v.2]) := by simp
    have q := q24 (hA.kp (kA.trans k4)) hsm v v
    have z0 : m.next ≠ m'.next := by omega
    simp [e57, f55, hix, f0, valA_agg, q.go]
    cases hq : equalM a v v with
    | true =>
      simp [e57, hw]
      refine hn _ _ hlt (by simp) ⟨hkp.trans k4, fun j u hj hu => ?_⟩
      by_cases hji : j = i
      · subst hji
        rw [hv] at hu
        cases hu
        exact hq
      · exact hall j u (by omega) hu
    | false =>
      rw [if_pos (fun h => by have := h v (List.mem_of_getElem? hv); rw [hq] at this; cases this)] at hd
      simp [build51, f6, g0, z0]
      refine he _ _ _ (by simp) ?_
      simp
      rw [hd] at fin
      exact fin _ _ (by simp [f6]) (by simp) ⟨_, by simp; rfl⟩ (Up.kp hA ((kA.trans k4).set (Nat.le_refl _) _))
  · have hge : i = l.length := by have := of_decide_eq_false h; omega
    subst hge
    have hEq : ∀ v ∈ l, equalM a v v = true := fun v hv => by
      obtain ⟨j, hj, e⟩ := List.mem_iff_getElem.1 hv
      exact hall j v hj (by rw [List.getElem?_eq_getElem hj, e])
    rw [if_neg (by simpa using hEq)] at hd
    simp
    refine he _ _ _ (by simp) ?_
    simp [f2, ln]
    refine go_count 70 l.length (fun i s2 m4 => Kp M3 m4 ∧ ∀ (j : Nat) v, j < i → l[j]? = some v → goodP a n v j = true) (by simp) (by omega) ⟨hkp, fun j v h => by omega⟩ ?_
    rintro i s2 m4 hi e70 ⟨hkp4, hall4⟩ hsame hw Q' hn he
    have f6 : s2.at 6 = .ptr m.next 0 := (hsame 6 (by kernel_rfl)).trans (by simp [f6])
    have f10 : s2.at 10 = .ptr C 0 := (hsame 10 (by kernel_rfl)).trans (by simp [f10])
    have f69 : s2.at 69 = int l.length := (hsame 69 (by kernel_rfl)).trans (by simp)
    clear hsame
    have kA := k13.trans hkp4
    have n' := hkp4.next
    have g0 := (hkp4.get m.next (by omega)).trans e03
    have hC4 := hC3.kp hkp4
    simp [e70, f69]
    refine goB_split (fun h => ?_) fun h => ?_
    · have hlt : i < l.length := by simpa using h
      obtain ⟨v, hv⟩ : ∃ v, l[i]? = some v := ⟨_, List.getElem?_eq_getElem hlt⟩
      have q := q38 (hA.kp kA) hsm hC4 hv
      simp [e70, f10, q.go]
      cases hq : goodP a n v i with
      | true =>
        simp [e70, hw]
        refine hn _ _ hlt (by simp) ⟨hkp4, fun j u hj hu => ?_⟩
        by_cases hji : j = i
        · subst hji
          rw [hv] at hu
          cases hu
          exact hq
        · exact hall4 j u (by omega) hu
      | false =>
        rw [if_pos (fun h => by have := h i v hv; rw [hq] at this; cases this)] at hd
        simp [build51, f6, g0]
        refine he _ _ _ (by simp) ?_
        simp
        rw [hd] at fin
        exact fin _ _ (by simp [f6]) (by simp) ⟨_, by simp; rfl⟩ (Up.kp hA (kA.set (Nat.le_refl _) _))
    · have hge : i = l.length := by have := of_decide_eq_false h; omega
      subst hge
      have hGd : ∀ (i : Nat) v, l[i]? = some v → goodP a n v i = true := fun j v hv => hall4 j v (List.getElem?_eq_some_iff.1 hv).1 hv
      rw [if_neg (by simpa using hGd)] at hd
      simp
      refine he _ _ _ (by simp) ?_
      simp [f10]
      refine goH_of (hdo c1 c2 hcnt hEq hGd m4 C (hA.kp kA) (fun j h => by have := hX j h; omega) hXC hC4) ?_
      rintro _ m5 ⟨rfl, X', hA5, hX5, kc5, hC5⟩
      have n5 := kc5.next
      obtain ⟨_, w5, g5⟩ := id hC5
      have z0 : C ≠ m5.next := by omega
      have z1 : m.next ≠ m5.next := by omega
      have g5m := (kc5.get m.next (by omega) (fun h => by rcases h with h | h; have := hX _ h; omega; omega)).trans g0
      have up : ∀ cs v, Up X A res.2.1 m (((m5.new [int 0, int 0] false).set m5.next v).set m.next cs) := fun cs v => by
        have kk : Kp m5 ((m5.new [int 0, int 0] false).set m5.next v) := by simp
        refine ⟨X', (hA5.kp kk).kc (kc_set m.next cs _) fun j hj e => ?_, KpC.cut ((((KpC.of (.of kA)).trans (kc5.mono fun j h => h.elim .inl fun h => .inr (by omega))).trans (.of (.of kk))).trans ((kc_set m.next cs _).mono fun j h => .inr (by omega))), fun j hj => (hX5 j hj).1.imp id fun h => by omega⟩
        have e : j = m.next := e
        rcases (hX5 j hj).1 with h | h
        · have := hX j h; omega
        · omega
      simp [f10, g5, z0]
      by_cases hr : res.2.2 = 0
      · rw [if_neg (by simp [hr])] at hd
        simp [hr, f6, g5m, z1, valA_agg]
        rw [hd] at fin
        exact fin _ _ (by simp [f6]) (by simp) ⟨_, by simp; rfl⟩ (up _ _)
      · rw [if_pos hr] at hd
        simp [hr]
        refine go_drawD (by kernel_rfl) ?_
        have z2 : C ≠ m.next := by omega
        have z3 : m.next ≠ C := by omega
        simp [f10, f6, g5, g5m, z0, z1, build51]
        refine goM_of (l := [(4, 5)]) (by kernel_rfl) (?_ : List.all _ _ = true) ?_
        · simp [metAtD, metOkD, rank, verKeptD, Region.wanted, Mem.ver, g5, g5m, z0, z1, z2, z3]
        simp
        rw [hd] at fin
        exact fin _ _ (by simp [f6]) (by simp) ⟨_, by simp; rfl⟩ (up _ _)
end Go.Proofs.YtnhcmcfgemoehaaGreat
