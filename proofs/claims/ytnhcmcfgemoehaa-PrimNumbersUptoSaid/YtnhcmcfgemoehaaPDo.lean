import Derived.Test.YtnhcmcfgemoehaaPCall
/- What a procedure makes of numbers. -/
set_option linter.unusedSimpArgs false
set_option linter.unusedVariables false
set_option linter.unusedSectionVars false
namespace Go.Proofs.Ytnhcmcfgemoehaa
open Go.V
attribute [local simp] Nat.add_assoc

theorem KC.fin {C i : Nat} {cs ds : List AV} {m m' : Mem} (k : KC C (m.new cs false) m') (hi : i = m.next) : KC C m (m'.set i ds) := by
  subst hi
  exact KpX.setn (((KpX.refl _ _).new _ _).trans k) (Nat.le_refl _) _
theorem Cl.fin {C A i : Nat} {p k : Int} {l : List Int} {ds : List AV} {m' : Mem} (q : Cl C A p l k m') (hi : i ≠ C) : Cl C A p l k (m'.set i ds) := ⟨q.c, by
    obtain ⟨v, hv⟩ := q.get
    exact ⟨v, by rw [Mem.get_set, if_neg (fun e => hi e.symm)]; exact hv⟩⟩
theorem ix0 {x : Int} {l : List Int} : aindexAddr Try.prog 33 (.lst (numA x :: l.map numA)) (int 0) = some (.cptr (numA x) 0) := aindexAddr_lst0 Try.underlying33 tsize29 (by simp [numA])
theorem ix1 {x y : Int} {l : List Int} : aindexAddr Try.prog 33 (.lst (numA x :: numA y :: l.map numA)) (int 1) = some (.cptr (numA y) 0) := aindexAddr_lst (i := 1) Try.underlying33 tsize29 rfl (by simp [numA])

theorem nums_ok : ∀ l : List Int, okAll 2 (l.map numA) = true
  | [] => rfl
  | x :: l => by rw [List.map_cons, okAll_cons, nums_ok l]; simp [numA]
theorem asl1 {x : Int} {l : List Int} : aslice Try.prog 33 (.lst (numA x :: l.map numA)) (some (int 1)) none none = some (.lst (l.map numA)) := by
  have := aslice_lst (T := 33) (xs := numA x :: l.map numA) (k := 2) (lo := some (int 1)) (hi := none) (l := some 1) (h := none) Try.underlying33 tsize29 (obnd_nat (n := 1)) obnd_none (by simp) (by simp) (nums_ok (x :: l))
  have e : (l.map numA).take l.length = l.map numA := List.take_of_length_le (by simp)
  simp at this
  rw [e] at this
  exact this
set_option maxRecDepth 20000 in
set_option maxHeartbeats 4000000 in
theorem e30q {C A : Nat} {x y : Int} {m : Mem} (h : Cl C A 3 [x, y] 0 m) : wph Try.prog cp (.func 30) [.ptr C 0] m fun u m' => u = valOf (quoR x y).1 (quoR x y).2 ∧ KC C m m' ∧ Cl C A 3 [x, y] (kdOf (quoR x y).2) m' := by
  obtain ⟨v, hv⟩ := h.get
  have hc := h.c
  have n1 : C ≠ m.next := by omega
  have i0 := ix0 (x := x) (l := [y])
  have i1 := ix1 (x := x) (y := y) (l := [])
  simp [numA] at i0 i1 hv
  refine wph_go Try.func30 rfl rfl (by simp [Try.f30]) (by simp [Try.f30]) fun Q hQ => ?_
  simp only [Try.f30, show cp.keepRes 30 = false from rfl, show cp.keepArgs 30 = false from rfl] at hQ ⊢
  simp [hv, n1, i0, i1, (a55 x y).go]
  refine goH_of (e51 (quoR x y).1 (quoR x y).2 (h.kp (Kp.new m [int 0, int 0] false))) ?_
  rintro u m' ⟨rfl, k1, k2⟩
  obtain ⟨w, hw⟩ : ∃ v, m'.get m.next = some (.cells [int 0, int 0] false v) := ⟨_, by rw [k1.get m.next (by simp) (by omega)]; simp; rfl⟩
  unfold valOf
  split
  · rename_i he
    rw [he] at k2
    simp [numA, hw]
    refine hQ _ _ _ ?_
    simp [hw, valOf, numA, he]
    exact ⟨KC.fin k1 rfl, k2.fin (by omega)⟩
  · simp [zA, hw]
    refine hQ _ _ _ ?_
    simp [hw, valOf, zA, *]
    exact ⟨KC.fin k1 rfl, k2.fin (by omega)⟩
set_option maxRecDepth 20000 in
set_option maxHeartbeats 4000000 in
theorem e30r {C A : Nat} {x y : Int} {m : Mem} (h : Cl C A 4 [x, y] 0 m) : wph Try.prog cp (.func 30) [.ptr C 0] m fun u m' => u = valOf (remR x y).1 (remR x y).2 ∧ KC C m m' ∧ Cl C A 4 [x, y] (kdOf (remR x y).2) m' := by
  obtain ⟨v, hv⟩ := h.get
  have hc := h.c
  have n1 : C ≠ m.next := by omega
  have i0 := ix0 (x := x) (l := [y])
  have i1 := ix1 (x := x) (y := y) (l := [])
  simp [numA] at i0 i1 hv
  refine wph_go Try.func30 rfl rfl (by simp [Try.f30]) (by simp [Try.f30]) fun Q hQ => ?_
  simp only [Try.f30, show cp.keepRes 30 = false from rfl, show cp.keepArgs 30 = false from rfl] at hQ ⊢
  simp [hv, n1, i0, i1, (a56 x y).go]
  refine goH_of (e51 (remR x y).1 (remR x y).2 (h.kp (Kp.new m [int 0, int 0] false))) ?_
  rintro u m' ⟨rfl, k1, k2⟩
  obtain ⟨w, hw⟩ : ∃ v, m'.get m.next = some (.cells [int 0, int 0] false v) := ⟨_, by rw [k1.get m.next (by simp) (by omega)]; simp; rfl⟩
  unfold valOf
  split
  · rename_i he
    rw [he] at k2
    simp [numA, hw]
    refine hQ _ _ _ ?_
    simp [hw, valOf, numA, he]
    exact ⟨KC.fin k1 rfl, k2.fin (by omega)⟩
  · simp [zA, hw]
    refine hQ _ _ _ ?_
    simp [hw, valOf, zA, *]
    exact ⟨KC.fin k1 rfl, k2.fin (by omega)⟩
set_option maxRecDepth 20000 in
set_option maxHeartbeats 4000000 in
theorem e30a {C A : Nat} {x y : Int} {m : Mem} (a : Nat → Int) (h0 : a 0 = 0) (hs : ∀ i n, ([x, y])[i]? = some n → Gives Try.prog cp 47 [int (a i), int n] (.tup [int (a (i + 1)), int 0])) (h : Cl C A 0 ([x, y]) 0 m) : wph Try.prog cp (.func 30) [.ptr C 0] m fun u m' => u = numA (a ([x, y]).length) ∧ KC C m m' ∧ Cl C A 0 ([x, y]) 0 m' := by
  obtain ⟨v, hv⟩ := h.get
  have hc := h.c
  have n1 : C ≠ m.next := by omega
  have i0 := ix0 (x := x) (l := [y])
  have i1 := ix1 (x := x) (y := y) (l := [])
  simp [numA] at i0 i1 hv
  refine wph_go Try.func30 rfl rfl (by simp [Try.f30]) (by simp [Try.f30]) fun Q hQ => ?_
  simp only [Try.f30, show cp.keepRes 30 = false from rfl, show cp.keepArgs 30 = false from rfl] at hQ ⊢
  simp [hv, n1, i0, i1]
  have q := e46 (C := C) (m := m.new [int 0, int 0] false) a (by simp) (by simp) hs
  rw [h0] at q
  simp [numA] at q
  refine goH_of q ?_
  rintro u m' ⟨rfl, k1⟩
  obtain ⟨w, hw⟩ : ∃ v, m'.get m.next = some (.cells [int 0, int 0] false v) := ⟨_, by rw [k1.get m.next (by simp)]; simp; rfl⟩
  have k2 : Kp m m' := (Kp.new _ _ _).trans k1
  simp [hw]
  refine hQ _ _ _ ?_
  simp [hw, numA]
  exact ⟨.of (k2.set (Nat.le_refl _) _), h.kp (k2.set (Nat.le_refl _) _)⟩
set_option maxRecDepth 20000 in
set_option maxHeartbeats 4000000 in
theorem e30m {C A : Nat} {x y : Int} {m : Mem} (a : Nat → Int) (h0 : a 0 = 1) (hs : ∀ i n, ([x, y])[i]? = some n → Gives Try.prog cp 48 [int (a i), int n] (.tup [int (a (i + 1)), int 0])) (h : Cl C A 2 ([x, y]) 0 m) : wph Try.prog cp (.func 30) [.ptr C 0] m fun u m' => u = numA (a ([x, y]).length) ∧ KC C m m' ∧ Cl C A 2 ([x, y]) 0 m' := by
  obtain ⟨v, hv⟩ := h.get
  have hc := h.c
  have n1 : C ≠ m.next := by omega
  have i0 := ix0 (x := x) (l := [y])
  have i1 := ix1 (x := x) (y := y) (l := [])
  simp [numA] at i0 i1 hv
  refine wph_go Try.func30 rfl rfl (by simp [Try.f30]) (by simp [Try.f30]) fun Q hQ => ?_
  simp only [Try.f30, show cp.keepRes 30 = false from rfl, show cp.keepArgs 30 = false from rfl] at hQ ⊢
  simp [hv, n1, i0, i1]
  have q := e46 (C := C) (m := m.new [int 0, int 0] false) a (by simp) (by simp) hs
  rw [h0] at q
  simp [numA] at q
  refine goH_of q ?_
  rintro u m' ⟨rfl, k1⟩
  obtain ⟨w, hw⟩ : ∃ v, m'.get m.next = some (.cells [int 0, int 0] false v) := ⟨_, by rw [k1.get m.next (by simp)]; simp; rfl⟩
  have k2 : Kp m m' := (Kp.new _ _ _).trans k1
  simp [hw]
  refine hQ _ _ _ ?_
  simp [hw, numA]
  exact ⟨.of (k2.set (Nat.le_refl _) _), h.kp (k2.set (Nat.le_refl _) _)⟩
set_option maxRecDepth 20000 in
set_option maxHeartbeats 4000000 in
theorem e30mn1 {C A : Nat} {x : Int} {m : Mem} (a : Nat → Int) (h0 : a 0 = x) (hs : ∀ i n, (([] : List Int))[i]? = some n → Gives Try.prog cp 53 [int (a i), int n] (.tup [int (a (i + 1)), int 0])) (h : Cl C A 51 ([x]) 0 m) : wph Try.prog cp (.func 30) [.ptr C 0] m fun u m' => u = numA (a (([] : List Int)).length) ∧ KC C m m' ∧ Cl C A 51 ([x]) 0 m' := by
  obtain ⟨v, hv⟩ := h.get
  have hc := h.c
  have n1 : C ≠ m.next := by omega
  have i0 := ix0 (x := x) (l := [])
  have asl := asl1 (x := x) (l := [])
  simp [numA] at i0 hv asl
  refine wph_go Try.func30 rfl rfl (by simp [Try.f30]) (by simp [Try.f30]) fun Q hQ => ?_
  simp only [Try.f30, show cp.keepRes 30 = false from rfl, show cp.keepArgs 30 = false from rfl] at hQ ⊢
  simp [hv, n1, i0, asl]
  have q := e46 (C := C) (m := m.new [int 0, int 0] false) a (l := []) (by simp) (by simp) hs
  rw [h0] at q
  simp [numA] at q
  refine goH_of q ?_
  rintro u m' ⟨rfl, k1⟩
  obtain ⟨w, hw⟩ : ∃ v, m'.get m.next = some (.cells [int 0, int 0] false v) := ⟨_, by rw [k1.get m.next (by simp)]; simp; rfl⟩
  have k2 : Kp m m' := (Kp.new _ _ _).trans k1
  simp [hw]
  refine hQ _ _ _ ?_
  simp [hw, numA]
  exact ⟨.of (k2.set (Nat.le_refl _) _), h.kp (k2.set (Nat.le_refl _) _)⟩
set_option maxRecDepth 20000 in
set_option maxHeartbeats 4000000 in
theorem e30mn2 {C A : Nat} {x y : Int} {r : List Int} (hl : r.length < 1000) {m : Mem} (a : Nat → Int) (h0 : a 0 = x) (hs : ∀ i n, (y :: r)[i]? = some n → Gives Try.prog cp 53 [int (a i), int n] (.tup [int (a (i + 1)), int 0])) (h : Cl C A 51 (x :: y :: r) 0 m) : wph Try.prog cp (.func 30) [.ptr C 0] m fun u m' => u = numA (a (y :: r).length) ∧ KC C m m' ∧ Cl C A 51 (x :: y :: r) 0 m' := by
  obtain ⟨v, hv⟩ := h.get
  have hc := h.c
  have n1 : C ≠ m.next := by omega
  have i0 := ix0 (x := x) (l := y :: r)
  have i1 := ix1 (x := x) (y := y) (l := r)
  have asl := asl1 (x := x) (l := y :: r)
  have lt1 : (1 : Int) < (r.length : Int) + 2 := by omega
  have lt0 : (0 : Int) < (r.length : Int) + 2 := by omega
  simp [numA] at i0 i1 hv asl
  refine wph_go Try.func30 rfl rfl (by simp [Try.f30]) (by simp [Try.f30]) fun Q hQ => ?_
  simp only [Try.f30, show cp.keepRes 30 = false from rfl, show cp.keepArgs 30 = false from rfl] at hQ ⊢
  simp [hv, n1, i0, i1, asl, lt0, lt1]
  have q := e46 (C := C) (m := m.new [int 0, int 0] false) a (l := y :: r) (by simp; omega) (by simp) hs
  rw [h0] at q
  simp [numA] at q
  refine goH_of q ?_
  rintro u m' ⟨rfl, k1⟩
  obtain ⟨w, hw⟩ : ∃ v, m'.get m.next = some (.cells [int 0, int 0] false v) := ⟨_, by rw [k1.get m.next (by simp)]; simp; rfl⟩
  have k2 : Kp m m' := (Kp.new _ _ _).trans k1
  simp [hw]
  refine hQ _ _ _ ?_
  simp [hw, numA]
  exact ⟨.of (k2.set (Nat.le_refl _) _), h.kp (k2.set (Nat.le_refl _) _)⟩
set_option maxRecDepth 20000 in
set_option maxHeartbeats 4000000 in
theorem e30mx1 {C A : Nat} {x : Int} {m : Mem} (a : Nat → Int) (h0 : a 0 = x) (hs : ∀ i n, (([] : List Int))[i]? = some n → Gives Try.prog cp 54 [int (a i), int n] (.tup [int (a (i + 1)), int 0])) (h : Cl C A 52 ([x]) 0 m) : wph Try.prog cp (.func 30) [.ptr C 0] m fun u m' => u = numA (a (([] : List Int)).length) ∧ KC C m m' ∧ Cl C A 52 ([x]) 0 m' := by
  obtain ⟨v, hv⟩ := h.get
  have hc := h.c
  have n1 : C ≠ m.next := by omega
  have i0 := ix0 (x := x) (l := [])
  have asl := asl1 (x := x) (l := [])
  simp [numA] at i0 hv asl
  refine wph_go Try.func30 rfl rfl (by simp [Try.f30]) (by simp [Try.f30]) fun Q hQ => ?_
  simp only [Try.f30, show cp.keepRes 30 = false from rfl, show cp.keepArgs 30 = false from rfl] at hQ ⊢
  simp [hv, n1, i0, asl]
  have q := e46 (C := C) (m := m.new [int 0, int 0] false) a (l := []) (by simp) (by simp) hs
  rw [h0] at q
  simp [numA] at q
  refine goH_of q ?_
  rintro u m' ⟨rfl, k1⟩
  obtain ⟨w, hw⟩ : ∃ v, m'.get m.next = some (.cells [int 0, int 0] false v) := ⟨_, by rw [k1.get m.next (by simp)]; simp; rfl⟩
  have k2 : Kp m m' := (Kp.new _ _ _).trans k1
  simp [hw]
  refine hQ _ _ _ ?_
  simp [hw, numA]
  exact ⟨.of (k2.set (Nat.le_refl _) _), h.kp (k2.set (Nat.le_refl _) _)⟩
set_option maxRecDepth 20000 in
set_option maxHeartbeats 4000000 in
theorem e30mx2 {C A : Nat} {x y : Int} {r : List Int} (hl : r.length < 1000) {m : Mem} (a : Nat → Int) (h0 : a 0 = x) (hs : ∀ i n, (y :: r)[i]? = some n → Gives Try.prog cp 54 [int (a i), int n] (.tup [int (a (i + 1)), int 0])) (h : Cl C A 52 (x :: y :: r) 0 m) : wph Try.prog cp (.func 30) [.ptr C 0] m fun u m' => u = numA (a (y :: r).length) ∧ KC C m m' ∧ Cl C A 52 (x :: y :: r) 0 m' := by
  obtain ⟨v, hv⟩ := h.get
  have hc := h.c
  have n1 : C ≠ m.next := by omega
  have i0 := ix0 (x := x) (l := y :: r)
  have i1 := ix1 (x := x) (y := y) (l := r)
  have asl := asl1 (x := x) (l := y :: r)
  have lt1 : (1 : Int) < (r.length : Int) + 2 := by omega
  have lt0 : (0 : Int) < (r.length : Int) + 2 := by omega
  simp [numA] at i0 i1 hv asl
  refine wph_go Try.func30 rfl rfl (by simp [Try.f30]) (by simp [Try.f30]) fun Q hQ => ?_
  simp only [Try.f30, show cp.keepRes 30 = false from rfl, show cp.keepArgs 30 = false from rfl] at hQ ⊢
  simp [hv, n1, i0, i1, asl, lt0, lt1]
  have q := e46 (C := C) (m := m.new [int 0, int 0] false) a (l := y :: r) (by simp; omega) (by simp) hs
  rw [h0] at q
  simp [numA] at q
  refine goH_of q ?_
  rintro u m' ⟨rfl, k1⟩
  obtain ⟨w, hw⟩ : ∃ v, m'.get m.next = some (.cells [int 0, int 0] false v) := ⟨_, by rw [k1.get m.next (by simp)]; simp; rfl⟩
  have k2 : Kp m m' := (Kp.new _ _ _).trans k1
  simp [hw]
  refine hQ _ _ _ ?_
  simp [hw, numA]
  exact ⟨.of (k2.set (Nat.le_refl _) _), h.kp (k2.set (Nat.le_refl _) _)⟩
end Go.Proofs.Ytnhcmcfgemoehaa
