import Derived.Test.YtipmoeclkamciaaYRef4
/- The reference's depth. -/
set_option linter.unusedSimpArgs false
set_option linter.unusedVariables false
set_option linter.unusedSectionVars false
namespace Go.Proofs.Ytipmoeclkamciaa
open Go.V
attribute [local simp] Nat.add_assoc

theorem dep_ds (d : Dat) (h : chk d = 0) : (rgo d 1 rs0).ds.foldl max 0 = dep d := by
  obtain ⟨np, nd, h1, h2, h3, h4, h5⟩ := (rgo_wk d 1 rs0 0 rfl).more
  have : wk d 1 (rs0.ps.length : Int) 0 = wk d 1 0 0 := by simp [rs0]
  rw [this] at h5
  have e : dep d = (wk d 1 0 0).2.2 := by unfold dep; rw [if_pos h]
  rw [e, h5, h2]
  simp [rs0]
theorem rgo_ds_len (d : Dat) : (rgo d 1 rs0).ds.length = (rgo d 1 rs0).ps.length := by
  obtain ⟨np, nd, h1, h2, h3, h4, h5⟩ := (rgo_wk d 1 rs0 0 rfl).more
  rw [h1, h2]; simp [rs0, h3]

set_option maxHeartbeats 2000000 in
theorem g35 (d : Dat) (hd : d.fits) : Gives Try.prog cf 35 [enc d] (int (dep d)) := by
  refine gives_go Try.func35 rfl rfl rfl (by simp [Try.f35]) (by simp [Try.f35]) fun m Q hQ => ?_
  simp only [Try.f35, show cf.keepRes 35 = false from rfl] at hQ ⊢
  simp
  refine goH_of (g44 d hd _) ?_
  rintro v m' ⟨W, pv, dv, rfl, hst⟩
  obtain ⟨wl, wv, we⟩ := hst.w
  have kp : Kp m m' := (Kp.new _ _ _).trans hst.kp
  have hds := dep_ds d
  have hacc := hst.d
  have hpl : chk d = 0 → (rgo d 1 rs0).ds.length ≤ 4096 := by
    intro h
    rw [rgo_ds_len]
    have := nodes_len d
    unfold nodes at this
    rwa [if_pos h] at this
  rw [rgo_e] at we
  generalize (rgo d 1 rs0).ds = D at *
  have hlen : abuiltin Try.prog .len #[22] 3 [dv] m' = some (int D.length, m') := by
    rcases hacc with ⟨h1, rfl⟩ | ⟨h, id, w, rfl, h2, h3, h4⟩
    · have : D = [] := by simpa using h1
      rw [this]; exact alen_emp Try.underlying22
    · rw [alen_sl Try.underlying22]; simp
  have fin : ∀ s4 : Sl, s4.at 2 = int (dep d) → Q .ret s4 m' := fun s4 h => hQ _ _ _ (leave_sc (.inr rfl) h ⟨rfl, kp⟩)
  simp
  by_cases hc : chk d = 0
  · have hl := hpl hc
    refine go_count 5 D.length (fun i s m2 => m2 = m' ∧ s.at 4 = int ((D.take i).foldl max 0)) (by simp) (by omega) ⟨rfl, by simp⟩ ?_
    rintro i s m2 hi e5 ⟨rfl, e4⟩ hs hw Q' hn he
    have e3 : s.at 3 = .ptr W 0 := (hs 3 (by kernel_rfl)).trans (by simp)
    clear hs
    simp [e5, e3, we, hlen, hc]
    by_cases hlt : i < D.length
    · rcases hacc with ⟨h1, rfl⟩ | ⟨h, id, w, rfl, h2, h3, h4⟩
      · have : D = [] := by simpa using h1
        rw [this] at hlt; simp at hlt
      · obtain ⟨x, hx⟩ : ∃ x, D[i]? = some x := ⟨_, List.getElem?_eq_getElem hlt⟩
        have ix : aindexAddr Try.prog 22 (.sl id 0 D.length 1 false none) (int i) = some (.ptr id (0 + i * 1)) := aindexAddr_sl Try.underlying22 tsize3 (by simpa using hlt)
        have hf : (flat (D.map int))[i]? = some (int x) := by rw [flat_ints, List.getElem?_map, hx]; rfl
        have ht : D.take (i + 1) = D.take i ++ [x] := by
          obtain ⟨h1, h2⟩ := List.getElem?_eq_some_iff.1 hx
          rw [List.take_succ_eq_append_getElem h1, h2]
        simp [hlt, hc, e5, e3, e4, we, ix, h4, hf, amax2, hw]
        refine hn _ _ hlt (by simp) ⟨rfl, ?_⟩
        rw [ht]
        simp
    · have hle : i = D.length := by omega
      simp [hlt, undefV, undef]
      refine he _ _ _ (by simp) ?_
      simp [e4]
      refine fin _ ?_
      simp [hle, hds hc]
  · refine go_count 5 0 (fun i s m2 => m2 = m' ∧ s.at 4 = int 0) (by simp) (by omega) ⟨rfl, by simp⟩ ?_
    rintro i s m2 hi e5 ⟨rfl, e4⟩ hs hw Q' hn he
    have e3 : s.at 3 = .ptr W 0 := (hs 3 (by kernel_rfl)).trans (by simp)
    clear hs
    have hd0 : dep d = 0 := by unfold dep; rw [if_neg hc]
    simp [e5, e3, we, hlen, hc]
    by_cases hlt : i < D.length
    · simp [hlt, e3, we, hc]
      refine he _ _ _ (by simp) ?_
      simp [e4]
      exact fin _ (by simp [hd0])
    · simp [hlt, undefV, undef]
      refine he _ _ _ (by simp) ?_
      simp [e4]
      exact fin _ (by simp [hd0])
end Go.Proofs.Ytipmoeclkamciaa
