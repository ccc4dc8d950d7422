import Derived.Test.YtnhcmcfgemoehaaPArena
/- A procedure that is called. -/
set_option linter.unusedSimpArgs false
set_option linter.unusedVariables false
set_option linter.unusedSectionVars false
namespace Go.Proofs.Ytnhcmcfgemoehaa
open Go.V
attribute [local simp] Nat.add_assoc

/-- A call: its procedure, its values, its fault. -/
structure Cl (C A : Nat) (p : Int) (l : List Int) (k : Int) (m : Mem) : Prop where
  c : C < m.next
  get : ∃ v, m.get C = some (.cells [.ptr A 0, int p, .lst (l.map numA), int k] false v)
theorem Cl.kp {C A : Nat} {p : Int} {l : List Int} {k : Int} {m m' : Mem} (h : Cl C A p l k m) (q : Kp m m') : Cl C A p l k m' := ⟨Nat.lt_of_lt_of_le h.c q.next, by rw [q.get _ h.c]; exact h.get⟩
/-- Only the call may change. -/
abbrev KC (C : Nat) (m m' : Mem) : Prop := KpX (fun i => i = C) m m'
def zA : AV := .agg [int 0, int 0]
theorem e67 {C A : Nat} {p : Int} {l : List Int} {m : Mem} (k : Int) (h : Cl C A p l 0 m) : wph Try.prog cp (.func 67) [.ptr C 0, int k] m fun u m' => u = zA ∧ KC C m m' ∧ Cl C A p l k m' := by
  obtain ⟨v, hv⟩ := h.get
  have hc := h.c
  have n0 : m.next ≠ C := by omega
  have n1 : C ≠ m.next := by omega
  refine wph_go Try.func67 rfl rfl (by simp [Try.f67]) (by simp [Try.f67]) fun Q hQ => ?_
  simp only [Try.f67, show cp.keepRes 67 = false from rfl, show cp.keepArgs 67 = false from rfl] at hQ ⊢
  simp [hv, n0, n1, abuild, placesOf, fillAt]
  refine hQ _ _ _ ?_
  simp [n0, n1, zA]
  refine ⟨?_, by simp; omega, ⟨_, by simp [n0, n1]; rfl⟩⟩
  exact KpX.setn (KpX.set (X := fun i => i = C) ((KpX.refl _ _).new _ _) rfl _) (Nat.le_refl _) _
/-- What fix says, as a fault. -/
def kdOf (e : Int) : Int := if e = 0 then 0 else if e = 10 then 4 else if e = 11 then 5 else 6
def valOf (n e : Int) : AV := if e = 0 then numA n else zA
set_option maxRecDepth 20000 in
theorem e51 {C A : Nat} {p : Int} {l : List Int} {m : Mem} (n e : Int) (h : Cl C A p l 0 m) : wph Try.prog cp (.func 51) [.ptr C 0, int n, int e] m fun u m' => u = valOf n e ∧ KC C m m' ∧ Cl C A p l (kdOf e) m' := by
  refine wph_go Try.func51 rfl rfl (by simp [Try.f51]) (by simp [Try.f51]) fun Q hQ => ?_
  simp only [Try.f51, show cp.keepRes 51 = false from rfl, show cp.keepArgs 51 = false from rfl] at hQ ⊢
  have h1 := h.kp (Kp.new m [int 0, int 0] false)
  have fin : ∀ m', KC C (m.new [int 0, int 0] false) m' → KC C m (m'.set m.next [int 0, int 0]) := fun m' k => KpX.setn (((KpX.refl _ _).new _ _).trans k) (Nat.le_refl _) _
  have fin2 : ∀ (k : Int) m', Cl C A p l k m' → Cl C A p l k (m'.set m.next [int 0, int 0]) := fun k m' q => ⟨q.c, by
    obtain ⟨v, hv⟩ := q.get
    have := h.c
    exact ⟨v, by rw [Mem.get_set, if_neg (by omega)]; exact hv⟩⟩
  rcases Classical.em (e = 0) with e0 | e0
  · subst e0
    simp [(a59 n).go]
    refine hQ _ _ _ ?_
    simp [valOf, numA, kdOf]
    refine ⟨KpX.setn ((KpX.refl _ _).new _ _) (Nat.le_refl _) _, h.kp ((Kp.new _ _ _).set (Nat.le_refl _) _)⟩
  · rcases Classical.em (e = 10) with e1 | e1
    · simp [e1]
      refine goH_of (e67 4 h1) ?_
      rintro u m' ⟨rfl, k1, k2⟩
      have hnx : m.next < m'.next := by have := k1.next; simp at this; omega
      obtain ⟨v, hv⟩ : ∃ v, m'.get m.next = some (.cells [int 0, int 0] false v) := ⟨_, by rw [k1.get m.next (by simp) (by have := h.c; omega)]; simp; rfl⟩
      simp [zA, hv]
      refine hQ _ _ _ ?_
      simp [valOf, e0, e1, zA, kdOf, hv]
      exact ⟨fin m' k1, fin2 4 m' k2⟩
    · rcases Classical.em (e = 11) with e2 | e2
      · simp [e2]
        refine goH_of (e67 5 h1) ?_
        rintro u m' ⟨rfl, k1, k2⟩
        obtain ⟨v, hv⟩ : ∃ v, m'.get m.next = some (.cells [int 0, int 0] false v) := ⟨_, by rw [k1.get m.next (by simp) (by have := h.c; omega)]; simp; rfl⟩
        simp [zA, hv]
        refine hQ _ _ _ ?_
        simp [valOf, e0, e2, zA, kdOf, hv]
        exact ⟨fin m' k1, fin2 5 m' k2⟩
      · simp [e0, e1, e2]
        refine goH_of (e67 6 h1) ?_
        rintro u m' ⟨rfl, k1, k2⟩
        obtain ⟨v, hv⟩ : ∃ v, m'.get m.next = some (.cells [int 0, int 0] false v) := ⟨_, by rw [k1.get m.next (by simp) (by have := h.c; omega)]; simp; rfl⟩
        simp [zA, hv]
        refine hQ _ _ _ ?_
        simp [valOf, e0, e1, e2, zA, kdOf, hv]
        exact ⟨fin m' k1, fin2 6 m' k2⟩
set_option maxHeartbeats 4000000 in
/-- Numbers put together. -/
theorem e46 {C : Nat} {l : List Int} {f : FuncId} {m : Mem} (a : Nat → Int) (hl : l.length ≤ 1000) (ht : f = 47 ∨ f = 48 ∨ f = 53 ∨ f = 54) (hs : ∀ i n, l[i]? = some n → Gives Try.prog cp f [int (a i), int n] (.tup [int (a (i + 1)), int 0])) : wph Try.prog cp (.func 46) [.ptr C 0, int (a 0), .lst (l.map numA), .fn (.func f) [] []] m fun u m' => u = numA (a l.length) ∧ Kp m m' := by
  refine wph_go Try.func46 rfl rfl (by simp [Try.f46]) (by simp [Try.f46]) fun Q hQ => ?_
  simp only [Try.f46, show cp.keepRes 46 = false from rfl, show cp.keepArgs 46 = false from rfl] at hQ ⊢
  simp
  refine go_count 15 l.length (fun i s' m' => Kp m m' ∧ m.next < m'.next ∧ (∃ v, m'.get m.next = some (.cells [int 0, int 0] false v)) ∧ s'.at 13 = .lst (l.map numA) ∧ s'.at 14 = int l.length ∧ s'.at 3 = .fn (.func f) [] [] ∧ s'.at 1 = int (a i) ∧ s'.at 8 = .ptr m.next 0) (by simp) (by omega) ⟨by simp, by simp, ⟨_, by simp; rfl⟩, by simp, by simp, by simp, by simp, by simp⟩ ?_
  rintro i s' m' hi e15 ⟨hkp, hlt, ⟨v, hv⟩, e13, e14, e3, e1, e8⟩ hsame hw Q' hn he
  simp [e15, e14]
  refine goB_split (fun h => ?_) fun h => ?_
  · have hlt2 : i < l.length := by have := of_decide_eq_true h; omega
    obtain ⟨n, hp⟩ : ∃ n, l[i]? = some n := ⟨_, List.getElem?_eq_getElem hlt2⟩
    have hx := aindexAddr_lst (q := .i64) (x := numA n) (l := l.map numA) (i := i) Try.underlying33 tsize29 (by rw [List.getElem?_map, hp]; rfl) (by simp [numA])
    have n1 : m'.next ≠ m.next := by omega
    simp [e15, e13, hx, numA, e3, e1, (hs i n hp).go, hw]
    refine hn _ _ hlt2 (by simp) ⟨(hkp.newr _ _).set (by have := hkp.next; omega) _, by simp; omega, ⟨v, by simp [n1.symm]; exact hv⟩, by simp [e13, numA], by simp [e14], by simp [e3], by simp, by simp [e8]⟩
  · have hge : i = l.length := by have := of_decide_eq_false h; omega
    subst hge
    simp
    refine he _ _ _ (by simp) ?_
    simp [e1, e8, (a59 _).go, hv]
    refine hQ _ _ _ ?_
    simp [numA, e8, hv]
    exact hkp
end Go.Proofs.Ytnhcmcfgemoehaa
