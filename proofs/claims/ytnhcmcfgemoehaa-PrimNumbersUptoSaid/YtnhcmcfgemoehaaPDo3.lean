import Derived.Test.YtnhcmcfgemoehaaPDo2
/- A procedure of numbers, called. -/
set_option linter.unusedSimpArgs false
set_option linter.unusedVariables false
set_option linter.unusedSectionVars false
namespace Go.Proofs.Ytnhcmcfgemoehaa
open Go.V
attribute [local simp] Nat.add_assoc
set_option maxRecDepth 20000 in
set_option maxHeartbeats 8000000 in
/-- With as many values as may be. -/
theorem e7 {A M : Nat} {b : Bool} {p : Int} {l : List Int} {t n k le mo : Int} {nm : List UInt8} {args0 : List AV} {m0 m : Mem} (hz : fzvs m0 args0 = ([.ptr A 0, int p, .lst (l.map numA)], m)) (hp : numP p) (hl : l.length ≤ 1000) (hr : rowOf p = (nm, le, mo)) (hnm : nm ≠ []) (h1 : le ≤ l.length) (h2 : mo < 0 ∨ (l.length : Int) ≤ mo) (hA : Ar A M m) (hb : l.all isIn = b)
    (hd : b = true → Mk 30 p l t n k) : EH Try.prog cp (.func 7) args0 m0 (.tup [.agg [int (if b && decide (k = 0) then t else 0), int (if b && decide (k = 0) then n else 0)], int (if b then k else 1)]) m := by
  have hA0 := hA.a
  have n0 : A ≠ m.next := by omega
  have n1 : A ≠ m.next + 1 := by omega
  have hp64 : ¬ (64 : Int) ≤ p := by rcases hp with rfl | rfl | rfl | rfl | rfl | rfl <;> decide
  have h15 := g15 p
  rw [hr] at h15
  simp [hnm, rowC] at h15
  refine eh_run Try.func7 rfl rfl rfl rfl hz (by simp) (by simp [Try.f7]) (by have := fzvs_length args0 m0; rw [hz] at this; simp at this; simp [Try.f7]; omega) ?_
  simp only [Try.f7, show cp.keepRes 7 = false from rfl]
  simp [h15.go, hp64]
  refine goH_of (e16 (hA.kp (by simp))) ?_
  rintro u m2 ⟨⟨ci, rfl⟩, kp2⟩
  have kpm : Kp m m2 := Kp.trans (by simp) kp2
  have hA2 := hA.kp kpm
  have hn2 := kp2.next
  simp at hn2
  obtain ⟨w1, hw1⟩ : ∃ v, m2.get m.next = some (.cells [int 0, int 0] false v) := ⟨_, by rw [kp2.get m.next (by simp)]; first | (simp; done) | (simp; rfl)⟩
  obtain ⟨w2, hw2⟩ : ∃ v, m2.get (m.next + 1) = some (.cells [.sc (.string ⟨⟨nm⟩⟩), int le, int mo] false v) := ⟨_, by rw [kp2.get (m.next + 1) (by simp)]; first | (simp; done) | (simp; rfl)⟩
  have h1' : ¬ (l.length : Int) < le := by omega
  have hC : Cl m2.next A p l 0 (m2.new [.ptr A 0, int p, .lst (l.map numA), int 0] false) := ⟨by simp, ⟨_, by simp; rfl⟩⟩
  have h2' : 0 ≤ mo → ¬ mo < (l.length : Int) := fun h => by omega
  have kpC : Kp m (m2.new [.ptr A 0, int p, .lst (l.map numA), int 0] false) := kpm.newr _ _
  have hA3 := hA.kp kpC
  have n6 : m.next ≠ m2.next := by omega
  rcases Classical.em (0 ≤ mo) with hm | hm
  all_goals
    first
      | simp [ptr_nil, hw1, hw2, h1', hm, h2' hm, abuild, placesOf, fillAt]
      | simp [ptr_nil, hw1, hw2, h1', hm, abuild, placesOf, fillAt]
    refine go_count 57 l.length (fun i s' m' => Kp m m' ∧ m2.next < m'.next ∧ (∃ v, m'.get m.next = some (.cells [int 0, int 0] false v)) ∧ Cl m2.next A p l 0 m' ∧ Ar A M m' ∧ ∀ j n, j < i → l[j]? = some n → isIn n = true) (by simp) (by omega) ⟨kpC, by simp, ⟨w1, by simp [n6]; exact hw1⟩, hC, hA3, fun j n hj => absurd hj (Nat.not_lt_zero j)⟩ ?_
    rintro i s' m' hi e57 ⟨hkp, hlt, ⟨v6, hv6⟩, hCl, hAr, hno⟩ hsame hw Q' hn he
    have e0 : s'.at 0 = .ptr A 0 := (hsame 0 (by kernel_rfl)).trans (by simp)
    have e2 : s'.at 2 = .lst (l.map numA) := (hsame 2 (by kernel_rfl)).trans (by simp)
    have e6 : s'.at 6 = .ptr m.next 0 := (hsame 6 (by kernel_rfl)).trans (by simp)
    have e10 : s'.at 10 = .ptr m2.next 0 := (hsame 10 (by kernel_rfl)).trans (by simp)
    have e55 : s'.at 55 = .lst (l.map numA) := (hsame 55 (by kernel_rfl)).trans (by simp)
    have e56 : s'.at 56 = int l.length := (hsame 56 (by kernel_rfl)).trans (by simp)
    clear hsame
    have hCn := hCl.c
    simp [e57, e56]
    refine goB_split (fun h => ?_) fun h => ?_
    · have hlt2 : i < l.length := by have := of_decide_eq_true h; omega
      obtain ⟨n', hp'⟩ : ∃ n, l[i]? = some n := ⟨_, List.getElem?_eq_getElem hlt2⟩
      have hx := aindexAddr_lst (q := .i64) (x := numA n') (l := l.map numA) (i := i) Try.underlying33 tsize29 (by rw [List.getElem?_map, hp']; rfl) (by simp [numA])
      have kpn : Kp m' ((m'.new [int 0, int 0] false).set m'.next [int 1, int n']) := (Kp.new _ _ _).set (Nat.le_refl _) _
      have q := e17 (hAr.kp kpn) n'
      have n7 : m'.next ≠ m.next := by have := hkp.next; omega
      have n8 : m.next ≠ m'.next := n7.symm
      simp [numA] at q
      simp [e57, e55, hx, numA, e0, q.go]
      cases hin : isIn n' with
      | false =>
        have hbf : b = false := by
          rw [← hb]
          exact List.all_eq_false.2 ⟨n', List.mem_of_getElem? hp', by simp [hin]⟩
        subst hbf
        simp [e6, n8, hv6, abuild, placesOf, fillAt]
        refine he _ _ _ (by simp) ?_
        simp [e6, n8, hv6]
        exact (hkp.newr _ _).set (by have := hkp.next; omega) _
      | true =>
        simp [e57, hw]
        refine hn _ _ hlt2 (by simp) ⟨(hkp.newr _ _).set (by have := hkp.next; omega) _, by simp; omega, ⟨v6, by simp [n8]; exact hv6⟩, hCl.kp kpn, hAr.kp kpn, fun j n hj hj' => ?_⟩
        by_cases ej : j = i
        · subst ej; rw [hp'] at hj'; cases hj'; exact hin
        · exact hno j n (by omega) hj'
    · have hge : i = l.length := by have := of_decide_eq_false h; omega
      subst hge
      have hbt : b = true := by
        rw [← hb, List.all_eq_true]
        intro x hx
        obtain ⟨j, hj, rfl⟩ := List.mem_iff_getElem.1 hx
        exact hno j _ hj (List.getElem?_eq_getElem hj)
      subst hbt
      have hdo := e19 hp (hd rfl)
      simp
      refine he _ _ _ (by simp) ?_
      simp [e2]
      refine go_count 70 l.length (fun i s'' m'' => Kp m m'' ∧ m2.next < m''.next ∧ (∃ v, m''.get m.next = some (.cells [int 0, int 0] false v)) ∧ Cl m2.next A p l 0 m'' ∧ Ar A M m'') (by simp) (by omega) ⟨hkp, hlt, ⟨v6, hv6⟩, hCl, hAr⟩ ?_
      rintro i s'' m'' hi e70 ⟨hkp, hlt, ⟨v6, hv6⟩, hCl, hAr⟩ hsame hw Q'' hn he
      have d0 : s''.at 0 = .ptr A 0 := (hsame 0 (by kernel_rfl)).trans (by simp [e0])
      have d6 : s''.at 6 = .ptr m.next 0 := (hsame 6 (by kernel_rfl)).trans (by simp [e6])
      have d10 : s''.at 10 = .ptr m2.next 0 := (hsame 10 (by kernel_rfl)).trans (by simp [e10])
      have d69 : s''.at 69 = int l.length := (hsame 69 (by kernel_rfl)).trans (by simp)
      clear hsame
      simp [e70, d69]
      refine goB_split (fun h => ?_) fun h => ?_
      · have hlt2 : i < l.length := by have := of_decide_eq_true h; omega
        obtain ⟨n', hp'⟩ : ∃ n, l[i]? = some n := ⟨_, List.getElem?_eq_getElem hlt2⟩
        simp [e70, d10, (e18 hp hCl hp').go, hw]
        refine hn _ _ hlt2 (by simp) ⟨hkp, hlt, ⟨v6, hv6⟩, hCl, hAr⟩
      · have hge : i = l.length := by have := of_decide_eq_false h; omega
        subst hge
        simp
        refine he _ _ _ (by simp) ?_
        simp [d10]
        refine goH_of (hdo _ _ _ hCl) ?_
        rintro u m5 ⟨rfl, k1, k2⟩
        have hkn := hkp.next
        obtain ⟨z, hz6⟩ : ∃ v, m5.get m.next = some (.cells [int 0, int 0] false v) := ⟨v6, by rw [k1.get m.next (by omega) (by omega)]; exact hv6⟩
        obtain ⟨y, hy⟩ := k2.get
        have kp5 : Kp m m5 := k1.toKp hkp fun j hj => by have : j = m2.next := hj; omega
        have k5n := k1.next
        have n9 : m2.next ≠ m5.next := by omega
        have n10 : m.next ≠ m5.next := by omega
        simp [d10, d6, n9, hy]
        by_cases hk0 : k = 0
        · subst hk0
          simp [d6, n10, hz6]
          exact (kp5.newr _ _).set (by omega) _
        · simp [hk0]
          refine go_drawD (by kernel_rfl) ?_
          simp [d10, d6, n9, n10, hy, hz6, abuild, placesOf, fillAt]
          refine goM_of (l := [(4, 5)]) (by kernel_rfl) (?_ : List.all _ _ = true) ?_
          · simp [metAtD, metOkD, rank, verKeptD, Region.wanted, Mem.ver, d10, d6, n9, n10, n6, n6.symm, hy, hz6]
          simp [d6, n10, n6, hy, hz6]
          exact (kp5.newr _ _).set (by omega) _
end Go.Proofs.Ytnhcmcfgemoehaa
