import Derived.Test.YtnhcmcfgemoehaaGreatAGood
/- A new arena, a new cell. -/
set_option linter.unusedSimpArgs false
set_option linter.unusedVariables false
set_option linter.unusedSectionVars false
namespace Go.Proofs.YtnhcmcfgemoehaaGreat
set_option maxRecDepth 4000
open Go.V
attribute [local simp] Nat.add_assoc

theorem q20 {m : Mem} {n : Int} (h1 : 1 ≤ n) (h2 : n ≤ 65536) : EH Tryz.prog ca (.func 20) [int n] m (.tup [.ptr (m.next + 1) 0, int 0]) (m.newMap.new [int n, .emp 0, .emp 0, .mp m.next] false) := by
  have a1 : ¬ n < 1 := by omega
  have a2 : ¬ 65536 < n := by omega
  refine eh_of ?_
  refine wph_go Tryz.func20 rfl rfl (by simp [Tryz.f20]) (by simp [Tryz.f20]) fun Q hQ => ?_
  simp only [Tryz.f20, show ca.keepRes 20 = false from rfl, show ca.keepArgs 20 = false from rfl] at hQ ⊢
  simp [a1, a2, amakeMap_none tmap89, abuild, placesOf, fillAt]
  refine hQ _ _ _ ?_
  simp
theorem ar_new {m : Mem} {n : Int} (h1 : 1 ≤ n) (h2 : n ≤ 65536) : Ar (fun j => m.next ≤ j) (m.next + 1) ⟨n, [], []⟩ (m.newMap.new [int n, .emp 0, .emp 0, .mp m.next] false) := by
  refine ⟨fun j => if j = m.next + 1 then some 0 else if j = m.next then some 3 else none, m.next, .emp 0, .emp 0, [], ⟨by simp, by simp, ⟨_, by simp; rfl⟩, by simp, by simp, ⟨_, by simp [symE]; rfl⟩, .inl ⟨rfl, rfl⟩, .inl ⟨rfl, rfl⟩, rfl, fun i c x h => by simp at h, h1, h2, by simp; omega, by simp⟩, fun j hj => ?_⟩
  dsimp only at hj
  split at hj
  · rename_i e; subst e; simp
  · split at hj
    · rename_i e; subst e; simp
    · exact absurd rfl hj
def pushM (a : ArM) (c : CeM) : ArM := ⟨a.room, a.cells ++ [c], a.names⟩
def allocM (a : ArM) (c : CeM) : ArM × Val × Int := if fitsM a c = true then (if a.room ≤ a.cells.length then (a, (0, 0), 111) else (pushM a c, (7, (a.cells.length : Int)), 0)) else (a, (0, 0), 110)
theorem zip_snoc {c : CeM} {x : AV} : ∀ (l : List CeM) (xs : List AV), xs.length = l.length → List.zipWith rowA (l ++ [c]) (xs ++ [x]) = List.zipWith rowA l xs ++ [rowA c x] := by
  intro l xs h
  rw [List.zipWith_append h.symm]
  rfl
/-- A cell more. -/
theorem ar_push {X : Nat → Prop} {A M N : Nat} {a : ArM} {c : CeM} {m m' : Mem} {t : Nat → Option Nat} {cs ns x : AV} {xs : List AV} (h : ArT t A M cs ns xs a m) (hx : ∀ j, t j ≠ none → X j ∧ j < m.next)
    (k : KpC (fun j => j = A ∨ owns cs j) m m') (hN : m.next ≤ N) (hN2 : N < m'.next) (hgN : ∃ v, m'.get N = some (.cells (flat (List.zipWith rowA a.cells xs ++ [rowA c x])) false v)) (hgA : ∃ v, m'.get A = some (.cells [int a.room, .sl N 0 (a.cells.length + 1) 4 true none, ns, .mp M] false v))
    (hf : Fresh m m' x c.a) (hxN : ¬ owns x N) (hr : (a.cells.length : Int) < a.room) : Up X A (pushM a c) m m' := by
  obtain ⟨lt, ta, ⟨v, get⟩, ml, tm, ⟨v2, map⟩, cells, names, len, row, sane⟩ := h
  have hC : ∀ j, owns cs j → t j = some 1 := by
    intro j hj
    rcases cells with ⟨_, rfl⟩ | ⟨_, C, w, rfl, _, h2, _⟩
    · exact hj.elim
    · have : C = j := hj
      rw [← this]; exact h2
  have tc : ∀ j n, j < m.next → t j = some n → n ≠ 0 → n ≠ 1 → m'.get j = m.get j ∧ (m'.loop j = m.loop j ∧ m'.map j = m.map j) := by
    intro j n hj ht h0 h1
    have hn : ¬ (j = A ∨ owns cs j) := by
      rintro (rfl | h)
      · rw [ta] at ht; cases ht; exact h0 rfl
      · rw [hC j h] at ht; cases ht; exact h1 rfl
    exact ⟨k.get j hj hn, k.x j hj hn⟩
  have kn := k.next
  have told : ∀ j, j < m.next → (if j < m.next then t j else if j < m'.next then (if j = N then some 1 else some (4 + a.cells.length)) else none) = t j := fun j hj => if_pos hj
  refine ⟨fun j => X j ∨ m.next ≤ j, ⟨fun j => if j < m.next then t j else if j < m'.next then (if j = N then some 1 else some (4 + a.cells.length)) else none, M, .sl N 0 (a.cells.length + 1) 4 true none, ns, xs ++ [x], ⟨by omega, (told A lt).trans ta, hgA, by omega, (told M ml).trans tm, ⟨v2, by rw [(tc M 3 ml tm (by omega) (by omega)).2.2]; exact map⟩, ?_, ?_, by simp [pushM, len], ?_, ?_⟩, ?_⟩, ?_, fun j h => h⟩
  · obtain ⟨w, hw⟩ := hgN
    refine .inr ⟨by simp [pushM, zip_snoc _ _ len], N, w, by simp [pushM, zip_snoc _ _ len, len], hN2, ?_, by simp only [pushM, zip_snoc _ _ len]; exact hw⟩
    have : ¬ N < m.next := by omega
    simp [this, hN2]
  · refine names.mono kn fun j hj ht => ⟨(tc j 2 hj ht (by omega) (by omega)).1, (told j hj).trans ht⟩
  · intro i c' x' hc' hx'
    simp only [pushM] at hc'
    rcases Nat.lt_or_ge i a.cells.length with hi | hi
    · rw [List.getElem?_append_left hi] at hc'
      rw [List.getElem?_append_left (by omega)] at hx'
      refine (row i c' x' hc' hx').mono kn fun j hj ht => ⟨(tc j (4 + i) hj ht (by omega) (by omega)).1, (told j hj).trans ht⟩
    · have hlen := (List.getElem?_eq_some_iff.1 hc').1
      simp at hlen
      obtain rfl : i = a.cells.length := by omega
      rw [List.getElem?_append_right (by omega)] at hc'
      rw [List.getElem?_append_right (by omega), len] at hx'
      simp at hc' hx'
      subst hc'
      subst hx'
      rcases hf with ⟨e1, e2⟩ | ⟨h, id, w, rfl, h1, h2, h3⟩
      · exact .inl ⟨by rw [e1]; rfl, e2⟩
      · refine .inr ⟨by cases hca : c.a with | nil => exact absurd hca h | cons y l => simp [vals_cons], id, w, by simp, h2, ?_, h3⟩
        have a1 : ¬ id < m.next := by omega
        have a2 : id ≠ N := fun e => hxN e
        simp [a1, h2, a2]
  · obtain ⟨s1, s2, s3, s4⟩ := sane
    exact ⟨s1, s2, by simp [pushM]; omega, s4⟩
  · intro j hj
    dsimp only at hj
    by_cases h1 : j < m.next
    · rw [if_pos h1] at hj
      exact ⟨.inl (hx j hj).1, by omega⟩
    · rw [if_neg h1] at hj
      by_cases h2 : j < m'.next
      · exact ⟨.inr (by omega), h2⟩
      · rw [if_neg h2] at hj
        exact absurd rfl hj
  · refine k.mono fun j hj => ?_
    rcases hj with rfl | hj
    · exact (hx j (by rw [ta]; simp)).1
    · exact (hx j (by rw [hC j hj]; simp)).1
theorem Has.acc {t : Nat → Option Nat} {n k : Nat} {ag : Bool} {m : Mem} {x : AV} {ys : List AV} (h : Has t n k ag (.emp 0) m x ys) : Acc Mem.empty m k ag ys x := by
  rcases h with h | ⟨h, id, v, h1, h2, _, h3⟩
  · exact .inl h
  · exact .inr ⟨h, id, v, h1, Nat.zero_le _, h2, h3⟩
theorem build51 : abuild Tryz.prog 51 [] = some (.agg [int 0, int 0]) := by simp [abuild, placesOf, fillAt]
theorem build51b (x y : Int) : abuild Tryz.prog 51 [(0, int x), (1, int y)] = some (valA (x, y)) := by simp [abuild, placesOf, fillAt, valA]
set_option maxHeartbeats 4000000 in
theorem q60 {X : Nat → Prop} {A : Nat} {a : ArM} {m : Mem} (hA : Ar X A a m) (c : CeM) (ha : c.a.length < 2 ^ 21) (hs : c.s.length < 2 ^ 21) : wph Tryz.prog ca (.func 60) [.ptr A 0, ceA c] m fun v m' => v = .tup [valA (allocM a c).2.1, int (allocM a c).2.2] ∧ Up X A (allocM a c).1 m m' := by
  refine wph_go Tryz.func60 rfl rfl (by simp [Tryz.f60]) (by simp [Tryz.f60]) fun Q hQ => ?_
  simp only [Tryz.f60, show ca.keepRes 60 = false from rfl, show ca.keepArgs 60 = false from rfl] at hQ ⊢
  have k1 : Kp m ((m.new (ceA c).cells false).new [int 0, int 0] false) := by simp
  have q1 := q34 (hA.kp k1)
  have q2 := q107 (hA.kp k1) c ha hs
  have hA1 := hA.kp k1
  simp only [ceA_cells] at k1 q1 q2 hA1
  have ecA : AV.agg [int c.k, int c.n, .lst (vals c.a), .lst (byts c.s)] = ceA c := rfl
  simp [q1.go, ecA, q2.go]
  unfold allocM at hQ
  cases hfit : fitsM a c with
  | false =>
    rw [hfit] at hQ
    simp [build51]
    refine hQ _ _ _ ?_
    rw [leave_ret]
    simp [aresult, oneOf, valA]
    exact Up.kp hA (by simp)
  | true =>
    rw [hfit] at hQ
    obtain ⟨t, M, cs, ns, xs, h0, hx0⟩ := id hA
    have h := h0.kc (Y := fun _ => False) (.of (.of k1)) fun _ _ _ _ h => h
    have hx : ∀ j, t j ≠ none → X j ∧ j < m.next := hx0
    have ownC : ∀ j, owns cs j → j < m.next ∧ t j = some 1 := by
      intro j hj
      rcases h0.cells with ⟨_, rfl⟩ | ⟨_, C, u, rfl, hc1, hc2, _⟩
      · exact hj.elim
      · have e : C = j := hj
        subst e
        exact ⟨hc1, hc2⟩
    obtain ⟨w, hv⟩ := h.get
    have hAlt := h.lt
    have lc := fun m' R => len_has (T := 74) (R := R) (m' := m') h.cells Tryz.underlying74
    simp only [List.length_zipWith, h.len, Nat.min_self] at lc
    simp
    refine go_draw0 (by kernel_rfl) (by kernel_rfl) ?_
    simp [hv, lc]
    refine goB_split (fun hr => ?_) fun hr => ?_
    · have hr' : a.room ≤ a.cells.length := by simpa using hr
      simp [build51]
      refine hQ _ _ _ ?_
      rw [leave_ret]
      simp [aresult, oneOf, valA, hr']
      exact Up.kp hA (by simp)
    · have hr' : ¬ a.room ≤ a.cells.length := by simpa using hr
      rw [if_pos rfl, if_neg hr'] at hQ
      have hcs : c.a.length ≤ 4096 ∧ c.s.length ≤ 4096 := by
        have := hfit
        simp [fitsM] at this
        omega
      have nA : A ≠ m.next := by have := hA.lt; omega
      have nA1 : A ≠ m.next + 1 := by have := hA.lt; omega
      simp
      refine go_drawD (by kernel_rfl) ?_
      simp [hv]
      refine goH_of (q64 (c := c) (x0 := .lst (vals c.a)) (.inl rfl) hcs.1 hcs.2) ?_
      rintro _ m2 ⟨k2, x2, rfl, hf⟩
      have hv2 := (k2.get A (by have := hA.lt; simp; omega)).trans hv
      have n2 := k2.next
      simp at n2
      have hsrc := src_one (m := m2.new (rowA c x2).cells false) (id := m2.next) (c := some 1) (k := 4) (ag := true) (x := rowA c x2) (w := m2.clock + 1) (f := false) rfl (by simp) (by simp) (rowA_agg c x2)
      obtain ⟨m3, p1, p2, ⟨w3, p3⟩, p4, p5⟩ := acc_app2 (T := 74) ((h.cells.acc.kp k2).kp (.new m2 (rowA c x2).cells false)) (zip_ok _ _) el74 (zs := [rowA c x2]) (zs' := [rowA c x2]) (List.cons_ne_nil _ _) (by simp [okAll_cons, okAll_nil]) (by simp) (.refl _) (by have := h.sane; simp [h.len]; omega)
      simp only [rowA_cells] at hsrc p1 p2 p3 p4 p5
      have nA2 : A < m2.next := by have := hA.lt; omega
      have nA3 : A ≠ m2.next := by omega
      have wl : IntKind.i64.wrap ((a.cells.length : Int) + 1 - 1) = (a.cells.length : Int) := by rw [IntWalk.i64_in _ (by have := h.sane; omega)]; omega
      have nown : ¬ owns cs A := fun hh => by
        have := (ownC A hh).2
        rw [h.ta] at this
        cases this
      have hb3 : m3.get (m.next + 1) = some (.cells [int 0, int 0] false (m.clock + 2)) := by
        rw [p4 (m.next + 1) (by simp; omega) (fun hh => by have := (ownC _ hh).1; omega)]
        have : m.next + 1 ≠ m2.next := by omega
        simp [this]
        rw [k2.get (m.next + 1) (by simp)]
        simp
      have hv3 : m3.get A = some (.cells [int a.room, cs, ns, .mp M] false w) := by
        rw [p4 A (by simp; omega) nown]
        have : A ≠ m2.next := by omega
        simp [this]
        exact hv2
      simp [rowA, abuildSlice, zeros, fillAt]
      simp [rowA] at hsrc p1
      simp [abuiltin, hsrc, p1, hv3]
      refine goM_of (l := [(4, 6), (4, 7)]) (by kernel_rfl) (?_ : List.all _ _ = true) ?_
      · simp [metAtD, metOkD, rank, verKeptD, Region.wanted, Mem.ver, hv, hv2, nA, nA1, nA3]
      have nA4 := Ne.symm nA1
      simp [hv3, alen_sl Tryz.underlying74, h.len, wl, build51b, hb3, nA1, nA4]
      refine hQ _ _ _ ?_
      rw [leave_ret]
      have wl2 : IntKind.i64.wrap (a.cells.length : Int) = (a.cells.length : Int) := IntWalk.i64_in _ (by have := h.sane; omega)
      simp [aresult, oneOf, wl2]
      refine ⟨rfl, ?_⟩
      have p5n : m2.next + 1 < m3.next := by rw [p2]; simp
      have kc : KpC (fun j => j = A ∨ owns cs j) m ((m3.set A [int a.room, AV.sl (m2.next + 1) 0 (a.cells.length + 1) 4 true none, ns, AV.mp M]).set (m.next + 1) [int 7, int a.cells.length]) := by
        refine ⟨by simp; omega, fun j hj hn => ?_, fun j hj hn => ?_⟩
        · have a1 : j ≠ A := fun e => hn (.inl e)
          have a2 : ¬ owns cs j := fun e => hn (.inr e)
          have a3 : j ≠ m.next + 1 := by omega
          have a4 : j ≠ m2.next := by omega
          have a5 : j ≠ m.next := by omega
          have := p4 j (by simp; omega) a2
          simp [a4] at this
          simp [a1, a3, this]
          rw [k2.get j (by simp; omega)]
          simp [a3, a5]
        · have b1 := p5 j (by simp; omega)
          have b2 := k2.x j (by simp; omega)
          simp at b1 b2
          simp
          exact ⟨b1.1.trans b2.1, b1.2.trans b2.2⟩
      refine ar_push (N := m2.next + 1) (x := x2) h0 hx0 kc (by omega) (by simp; omega) ⟨w3, ?_⟩ ⟨m3.clock + 1, ?_⟩ (hf.keep (by simp) (by simp; omega) fun j hj1 hj2 => ?_) (fun hh => ?_) (by omega)
      · have b1 : m2.next + 1 ≠ A := by omega
        have b2 : m2.next ≠ m.next := by omega
        simp [b1, b2]
        simpa using p3
      · simp [nA1]
      · simp at hj1
        have b1 : j ≠ A := by have := hA.lt; omega
        have b2 : j ≠ m.next + 1 := by omega
        have b3 : j ≠ m2.next := by omega
        have := p4 j (by simp; omega) (fun hh => by have := (ownC _ hh).1; omega)
        simp [b3] at this
        simp [b1, b2, this]
      · rcases hf with ⟨_, rfl⟩ | ⟨_, id, u, rfl, _, hid, _⟩
        · exact hh
        · have e : id = m2.next + 1 := hh
          omega
end Go.Proofs.YtnhcmcfgemoehaaGreat

/- A symbol. -/
namespace Go.Proofs.YtnhcmcfgemoehaaGreat
set_option maxRecDepth 4000
open Go.V
attribute [local simp] Nat.add_assoc

def nameM (a : ArM) (s : List UInt8) : ArM := ⟨a.room, a.cells, a.names ++ [s]⟩
def symM (a : ArM) (s : List UInt8) : ArM × Val × Int :=
  if Sym s = true then (match a.names.findIdx? fun x => decide (x = s) with
    | some i => (a, (5, (i : Int)), 0)
    | none => if 4096 ≤ a.names.length then (a, (0, 0), 111) else (nameM a s, (5, (a.names.length : Int)), 0)) else (a, (0, 0), 110)
theorem symE_keys : ∀ (l : List (List UInt8)) (i : Nat), (symE i l).map (·.1) = l.map fun s => Value.string ⟨⟨s⟩⟩
  | [], _ => rfl
  | s :: l, i => by simp [symE, symE_keys l (i + 1)]
theorem symE_get : ∀ (l : List (List UInt8)) (i k : Nat) (s : List UInt8), l[k]? = some s → (symE i l)[k]? = some (.string ⟨⟨s⟩⟩, int ((i + k : Nat) : Int), i + k)
  | [], _, k, _, h => by simp at h
  | x :: l, i, 0, s, h => by simp at h; subst h; simp [symE]
  | x :: l, i, k + 1, s, h => by
    have := symE_get l (i + 1) k s (by simpa using h)
    simp [symE, this]
    omega
theorem symE_snoc : ∀ (l : List (List UInt8)) (i : Nat) (s : List UInt8), symE i (l ++ [s]) = symE i l ++ [(.string ⟨⟨s⟩⟩, int ((i + l.length : Nat) : Int), i + l.length)]
  | [], i, s => by simp [symE]
  | x :: l, i, s => by
    simp [symE, symE_snoc l (i + 1) s]
    omega
theorem ar_name {X : Nat → Prop} {A M N : Nat} {a : ArM} {s : List UInt8} {m m' : Mem} {t : Nat → Option Nat} {cs ns : AV} {xs : List AV} (h : ArT t A M cs ns xs a m) (hx : ∀ j, t j ≠ none → X j ∧ j < m.next)
    (k : KpC (fun j => j = A ∨ j = M ∨ owns ns j) m m') (hN : m.next ≤ N) (hN2 : N < m'.next) (hgN : ∃ v, m'.get N = some (.cells (flat ((a.names ++ [s]).map strA)) false v)) (hgA : ∃ v, m'.get A = some (.cells [int a.room, cs, .sl N 0 (a.names.length + 1) 1 false none, .mp M] false v))
    (hM : ∃ v, m'.map M = some ⟨symE 0 (a.names ++ [s]), a.names.length + 1, v⟩) (hl : a.names.length < 4096) : Up X A (nameM a s) m m' := by
  obtain ⟨lt, ta, ⟨v, get⟩, ml, tm, ⟨v2, map⟩, cells, names, len, row, sane⟩ := h
  have hC : ∀ j, owns ns j → t j = some 2 := by
    intro j hj
    rcases names with ⟨_, rfl⟩ | ⟨_, C, w, rfl, _, h2, _⟩
    · exact hj.elim
    · have : C = j := hj
      rw [← this]; exact h2
  have tc : ∀ j n, j < m.next → t j = some n → n ≠ 0 → n ≠ 2 → n ≠ 3 → m'.get j = m.get j := by
    intro j n hj ht h0 h1 h3
    refine k.get j hj ?_
    rintro (rfl | rfl | h)
    · rw [ta] at ht; cases ht; exact h0 rfl
    · rw [tm] at ht; cases ht; exact h3 rfl
    · rw [hC j h] at ht; cases ht; exact h1 rfl
  have kn := k.next
  have told : ∀ j, j < m.next → (if j < m.next then t j else if j = N then some 2 else none) = t j := fun j hj => if_pos hj
  refine ⟨fun j => X j ∨ m.next ≤ j, ⟨fun j => if j < m.next then t j else if j = N then some 2 else none, M, cs, .sl N 0 (a.names.length + 1) 1 false none, xs, ⟨by omega, (told A lt).trans ta, hgA, by omega, (told M ml).trans tm, by simpa [nameM] using hM, ?_, ?_, len, ?_, ?_⟩, ?_⟩, ?_, fun j h => h⟩
  · exact cells.mono kn fun j hj ht => ⟨tc j 1 hj ht (by omega) (by omega) (by omega), (told j hj).trans ht⟩
  · obtain ⟨w, hw⟩ := hgN
    have : ¬ N < m.next := by omega
    exact .inr ⟨by simp [nameM], N, w, by simp [nameM], hN2, by simp [this], hw⟩
  · intro i c x hc hx'
    exact (row i c x hc hx').mono kn fun j hj ht => ⟨tc j (4 + i) hj ht (by omega) (by omega) (by omega), (told j hj).trans ht⟩
  · obtain ⟨s1, s2, s3, s4⟩ := sane
    exact ⟨s1, s2, s3, by simp [nameM]; omega⟩
  · intro j hj
    dsimp only at hj
    by_cases h1 : j < m.next
    · rw [if_pos h1] at hj
      exact ⟨.inl (hx j hj).1, by omega⟩
    · rw [if_neg h1] at hj
      by_cases h2 : j = N
      · subst h2; exact ⟨.inr hN, hN2⟩
      · rw [if_neg h2] at hj
        exact absurd rfl hj
  · refine k.mono fun j hj => ?_
    rcases hj with rfl | rfl | hj
    · exact (hx j (by rw [ta]; simp)).1
    · exact (hx j (by rw [tm]; simp)).1
    · exact (hx j (by rw [hC j hj]; simp)).1
theorem okAll_str (l : List (List UInt8)) : okAll 1 (l.map strA) = true := by
  induction l with
  | nil => rfl
  | cons s l ih => rw [List.map_cons, okAll_cons, ih]; simp
set_option maxHeartbeats 4000000 in
theorem q59 {X : Nat → Prop} {A : Nat} {a : ArM} {m : Mem} (hA : Ar X A a m) (s : List UInt8) (hs : s.length < 2 ^ 62) : wph Tryz.prog ca (.func 59) [.ptr A 0, strA s] m fun v m' => v = .tup [valA (symM a s).2.1, int (symM a s).2.2] ∧ Up X A (symM a s).1 m m' := by
  refine wph_go Tryz.func59 rfl rfl (by simp [Tryz.f59]) (by simp [Tryz.f59]) fun Q hQ => ?_
  simp only [Tryz.f59, show ca.keepRes 59 = false from rfl, show ca.keepArgs 59 = false from rfl] at hQ ⊢
  have k1 : Kp m (m.new [int 0, int 0] false) := by simp
  have q1 := q34 (hA.kp k1)
  have q2 := ca_gives (g12 s hs)
  simp [q1.go, q2.go]
  unfold symM at hQ
  cases hsy : Sym s with
  | false =>
    rw [hsy] at hQ
    simp [build51]
    refine hQ _ _ _ ?_
    rw [leave_ret]
    simp [aresult, oneOf, valA]
    exact Up.kp hA (by simp)
  | true =>
    rw [hsy, if_pos rfl] at hQ
    obtain ⟨t, M, cs, ns, xs, h0, hx0⟩ := id hA
    have h := h0.kc (Y := fun _ => False) (.of (.of k1)) fun _ _ _ _ h => h
    obtain ⟨w, hv⟩ := h.get
    obtain ⟨w2, hmap⟩ := h.map
    have hl := alookup_str (P := Tryz.prog) (ok := true) tmap89 Tryz.underlying9 hmap (symE_keys a.names 0) s
    have nA : A ≠ m.next := by have := hA.lt; omega
    have hAlt := hA.lt
    simp [hv]
    cases hf : a.names.findIdx? fun x => decide (x = s) with
    | some i =>
      rw [hf] at hl hQ
      have hi : i < a.names.length := by
        rw [List.findIdx?_eq_some_iff_getElem] at hf
        exact hf.1
      have hg := symE_get a.names 0 i _ (List.getElem?_eq_getElem hi)
      simp only [hg, Nat.zero_add] at hl
      have wi : IntKind.i64.wrap (i : Int) = (i : Int) := IntWalk.i64_in _ (by have := h.sane; omega)
      simp [hl, build51b, wi]
      refine hQ _ _ _ ?_
      rw [leave_ret]
      simp [aresult, oneOf]
      exact ⟨rfl, Up.kp hA (by simp)⟩
    | none =>
      rw [hf] at hl hQ
      simp only [tzero3, Option.map_some] at hl
      have ln := fun m' R => len_has (T := 85) (R := R) (m' := m') h.names Tryz.underlying85
      simp only [List.length_map] at ln
      simp [hl, hv, ln]
      refine goB_split (fun hr => ?_) fun hr => ?_
      · have hr' : 4096 ≤ a.names.length := by have := of_decide_eq_true hr; omega
        dsimp only at hQ
        rw [if_pos hr'] at hQ
        simp [build51]
        refine hQ _ _ _ ?_
        rw [leave_ret]
        simp [aresult, oneOf]
        exact ⟨rfl, Up.kp hA (by simp)⟩
      · have hr' : ¬ 4096 ≤ a.names.length := by have := of_decide_eq_false hr; omega
        dsimp only at hQ
        rw [if_neg hr'] at hQ
        have hu := amapUpdate_new (P := Tryz.prog) tmap89 Tryz.underlying9 hmap (symE_keys a.names 0) hf (int a.names.length)
        have ownC : ∀ j, owns ns j → j < m.next ∧ t j = some 2 := by
          intro j hj
          rcases h0.names with ⟨_, rfl⟩ | ⟨_, C, u, rfl, hc1, hc2, _⟩
          · exact hj.elim
          · have e : C = j := hj
            subst e
            exact ⟨hc1, hc2⟩
        have nM : M ≠ A := fun e => by have q := h0.tm; rw [e, h0.ta] at q; cases q
        have nown : ∀ j, owns ns j → ¬ j = M := fun j hj e => by have q := (ownC j hj).2; rw [e, h0.tm] at q; cases q
        have nownA : ¬ owns ns A := fun hh => by have q := (ownC A hh).2; rw [h0.ta] at q; cases q
        obtain ⟨M1, hM1⟩ : ∃ M1, M1 = (m.new [int 0, int 0] false).setMap M (symE 0 a.names ++ [(.string ⟨⟨s⟩⟩, int a.names.length, a.names.length)]) (a.names.length + 1) := ⟨_, rfl⟩
        have g1 : ∀ j, M1.get j = (m.new [int 0, int 0] false).get j := fun j => by rw [hM1]; simp
        have n1 : M1.next = m.next + 1 := by rw [hM1]; simp
        have kM : KpC (fun j => j = M) m M1 := ⟨by omega, fun j hj _ => by rw [g1, Mem.get_new, if_neg (by omega)], fun j hj hn => by rw [hM1]; simp [show j ≠ M from hn, Ne.symm (show j ≠ M from hn)]⟩
        have hvA : M1.get A = some (.cells [int a.room, cs, ns, .mp M] false w) := by rw [g1]; exact hv
        have hsrc := src_one (m := M1.new (strA s).cells false) (id := M1.next) (c := some 1) (k := 1) (ag := false) (x := strA s) (w := M1.clock + 1) (f := false) rfl (by simp) (by simp) (by simp)
        obtain ⟨m3, p1, p2, ⟨w3, p3⟩, p4, p5⟩ := acc_app2 (T := 85) ((acc_keptC h0.names.acc kM nown).kp (.new M1 (strA s).cells false)) (okAll_str _) el85 (zs := [strA s]) (zs' := [strA s]) (List.cons_ne_nil _ _) (by simp [okAll_cons, okAll_nil]) (by simp) (.refl _) (by simp; omega)
        have hv3 : m3.get A = some (.cells [int a.room, cs, ns, .mp M] false w) := by
          rw [p4 A (by simp; omega) nownA]
          have : A ≠ M1.next := by omega
          simp [this]
          exact hvA
        simp [hv, hu, abuildSlice, zeros, fillAt]
        rw [← hM1]
        simp [n1] at hsrc p1
        have wl : IntKind.i64.wrap (a.names.length : Int) = (a.names.length : Int) := IntWalk.i64_in _ (by omega)
        have nA4 : m.next ≠ A := Ne.symm nA
        have hb3 : m3.get m.next = some (.cells [int 0, int 0] false (m.clock + 1)) := by
          rw [p4 m.next (by simp; omega) (fun hh => by have := (ownC _ hh).1; omega)]
          have : m.next ≠ M1.next := by omega
          simp [this, g1]
        simp [abuiltin, hsrc, p1, hv3, build51b, wl, hb3, nA4, nA]
        refine hQ _ _ _ ?_
        rw [leave_ret]
        simp [aresult, oneOf, wl]
        refine ⟨rfl, ?_⟩
        simp at p2 p3
        refine ar_name (N := m.next + 2) h0 hx0 (⟨by simp; omega, fun j hj hn => ?_, fun j hj hn => ?_⟩ : KpC (fun j => j = A ∨ j = M ∨ owns ns j) m _) (by omega) (by simp; omega) ⟨w3, ?_⟩ ⟨m3.clock + 1, ?_⟩ ?_ (by omega)
        · have a1 : j ≠ A := fun e => hn (.inl e)
          have a2 : ¬ owns ns j := fun e => hn (.inr (.inr e))
          have a3 : j ≠ m.next := by omega
          have := p4 j (by simp; omega) a2
          simp [show j ≠ M1.next by omega, g1, a3] at this
          simp [a1, a3, this]
        · have a2 : j ≠ M := fun e => hn (.inr (.inl e))
          have b1 := p5 j (by simp; omega)
          have b2 := kM.x j hj a2
          simp at b1 b2
          simp
          exact ⟨b1.1.trans b2.1, b1.2.trans b2.2⟩
        · have b1 : m.next + 2 ≠ A := by omega
          simp [b1]
          rw [n1] at p3
          simpa using p3
        · simp [nA]
        · have b1 := p5 M (by have := h0.ml; simp; omega)
          simp at b1
          refine ⟨?_, ?_⟩
          rotate_left
          · simp [b1.2]
            rw [hM1]
            simp [symE_snoc]
            rfl
end Go.Proofs.YtnhcmcfgemoehaaGreat
