import Derived.Test.YtpagdpaiienjcaaGreatDoorELaw0
/- ExpandNone: the law's own text. -/
set_option linter.unusedSimpArgs false
set_option linter.unusedVariables false
set_option linter.unusedSectionVars false
namespace Go.Proofs.YtpagdpaiienjcaaGreatDoor
open Go.V
attribute [local simp] Nat.add_assoc
set_option maxRecDepth 20000 in
set_option maxHeartbeats 4000000 in
theorem e3 (d : Dat) (hd : d.fits) (m : Mem) : EH Tryz.prog cs (.func 3) [enc d] m (.sc (.bool true)) m := by
  refine eh_run Tryz.func3 rfl rfl rfl rfl (args1 := [enc d]) (m1 := m) (by simp [fzvs]) (by simp) (by simp [Tryz.f3]) (by simp [Tryz.f3]) ?_
  simp [Tryz.f3, show cs.keepRes 3 = false from rfl, (e4 _).go, abuildSlice, zeros, fillAt]
  refine goH_fz (e5 d hd) (?_ : (fzvs _ _).1 = _) ?_
  · simp [fzvs, fz1, chunk]
  cases hs : smB d with
  | false =>
    simp [fz1, chunk, (e4 _).go]
  | true =>
    simp [fz1, chunk, abuild, placesOf, fillAt, abuildSlice, zeros]
    refine go_count 23 2 (fun i s' m' => Kp m m' ∧ m.next + 3 < m'.next ∧ (∃ v, m'.get m.next = some (.cells (enc d).cells false v)) ∧ (∃ v, m'.get (m.next + 2) = some (.cells [.sc (.pointer none), .emp 0, .sc (.map none), int 0] false v)) ∧ (∃ v, m'.get (m.next + 3) = some (.cells [.sc (.pointer none), .ptr (m.next + 2) 0] false v))) (by simp) (by omega) ⟨by simp, by simp, ⟨_, by simp; rfl⟩, ⟨_, by simp; rfl⟩, ⟨_, by simp; rfl⟩⟩ ?_
    rintro i s' m' hi e23 ⟨hkp, hlt, ⟨v0, g0⟩, ⟨v2, g2⟩, ⟨v3, g3⟩⟩ hsame hw Q' hn he
    have d1 : s'.at 1 = .ptr m.next 0 := (hsame 1 (by kernel_rfl)).trans (by simp)
    have d21 : s'.at 21 = .sl (m.next + 3) 0 2 1 false (some 2) := (hsame 21 (by kernel_rfl)).trans (by simp)
    have d22 : s'.at 22 = int 2 := (hsame 22 (by kernel_rfl)).trans (by simp)
    clear hsame
    simp [e23, d22]
    refine goB_split (fun h => ?_) fun h => ?_
    · have hlt2 : i < 2 := by have := of_decide_eq_true h; omega
      obtain ⟨x, hxi, hx⟩ : ∃ x, [AV.sc (.pointer none), .ptr (m.next + 2) 0][i]? = some x ∧ Nn x m' := by
        rcases i with _ | _ | i
        · exact ⟨_, rfl, .inl rfl⟩
        · exact ⟨_, rfl, .inr ⟨m.next + 2, v2, rfl, by omega, g2⟩⟩
        · omega
      have hix := aindexAddr_sl (q := .i64) (ag := false) (c := some 2) (id := m.next + 3) (off := 0) (len := 2) (i := i) Tryz.underlying34 tsize28 hlt2
      simp at hix
      simp [e23, d21, d1, hix, g3, g0, hxi]
      obtain ⟨a1, a2, a3⟩ := nn_arg hx
      have h8 := e8
      have h8b := e8b
      simp only [zc, zb] at h8 h8b
      have n1 : m.next ≠ m'.next := by omega
      refine goH_eh (e6 hx d) ?_
      simp [zc, d1, n1, g0, abuildSlice, zeros, fillAt]
      refine goH_eh (e7f (hx.kp ?_) d ?_) ?_
      · simp [fzvs, a1, fz1, chunk]
      · simp [fzvs, a1, fz1, chunk]
      simp [zc, fzvs, a1, fz1, chunk, (h8 _).go, (h8b _).go, abuild, placesOf, fillAt]
      refine goH_eh (e10 (hx.kp (by simp))) ?_
      simp
      refine goH_eh (e9 (by simp) (by simp; rfl)) ?_
      simp
      refine goH_eh (e11 (hx.kp (by simp))) ?_
      simp
      refine goH_eh (e12 (hx.kp (by simp))) ?_
      simp [np28, e23, hw]
      refine hn _ _ hlt2 (by simp) ?_
      have key : ∀ M, Kp m' M → (Kp m M ∧ m.next + 3 < M.next ∧ (∃ v, M.get m.next = some (.cells (enc d).cells false v)) ∧ (∃ v, M.get (m.next + 2) = some (.cells [.sc (.pointer none), .emp 0, .sc (.map none), int 0] false v)) ∧ (∃ v, M.get (m.next + 3) = some (.cells [.sc (.pointer none), .ptr (m.next + 2) 0] false v))) := fun M k => ⟨hkp.trans k, Nat.lt_of_lt_of_le hlt k.next, ⟨v0, (k.get _ (by omega)).trans g0⟩, ⟨v2, (k.get _ (by omega)).trans g2⟩, ⟨v3, (k.get _ (by omega)).trans g3⟩⟩
      exact key _ (by simp)
    · have hge : i = 2 := by have := of_decide_eq_false h; omega
      simp
      refine he _ _ _ (by simp) ?_
      simp
      exact hkp
end Go.Proofs.YtpagdpaiienjcaaGreatDoor
