import Derived.Test.YtnhcmcfgemoehaaGreatYRef2
import Derived.Test.YtnhcmcfgemoehaaGreatYParts
/- The reference: checking, the parts, size, depth. -/
set_option linter.unusedSimpArgs false
set_option linter.unusedVariables false
set_option linter.unusedSectionVars false
namespace Go.Proofs.YtnhcmcfgemoehaaGreat
set_option maxRecDepth 4000
open Go.V
attribute [local simp] Nat.add_assoc

def rs0 : RS := ⟨[], [], 0⟩
/-- The walk's object, made anew. -/
theorem g44 (d : Dat) (hd : d.fits) (m : Mem) : wph Tryz.prog cf (.func 73) [enc d] m fun v m' => ∃ W pv dv, v = .ptr W 0 ∧ RSt m m' W pv dv (rgo d 1 rs0) := by
  refine wph_go Tryz.func73 rfl rfl (by simp [Tryz.f73]) (by simp [Tryz.f73]) fun Q hQ => ?_
  simp only [Tryz.f73, show cf.keepRes 73 = false from rfl, show cf.keepArgs 73 = false from rfl] at hQ ⊢
  simp [abuild, placesOf, fillAt]
  refine goH_of (goes_at d.size d (Nat.le_refl _) hd 1 rs0 m _ (m.next + 1) (.emp 0) (.emp 0) (by omega) (by simp [rs0]) ⟨⟨by simp, m.clock + 2, by simp [rs0]⟩, .inl (by simp [rs0, encs]), .inl (by simp [rs0]), by simp, by omega, fun h => h, fun h => h, fun _ h => h.elim⟩) ?_
  rintro v m' ⟨rfl, hl, pv', dv', h1, h2, _⟩
  simp
  refine hQ _ _ _ ⟨.inr rfl, _, rfl, ?_⟩
  exact ⟨m.next + 1, pv', dv', by simp [oneOf, fzr, fzv, fz1], by simpa [oneOf, fzr, fzv, fz1] using h1⟩

theorem rgo_e (d : Dat) : (rgo d 1 rs0).e = chk d := (rgo_wk d 1 rs0 0 rfl).e
theorem g15 (d : Dat) (hd : d.fits) : Gives Tryz.prog cf 79 [enc d] (int (chk d)) := by
  refine gives_go Tryz.func79 rfl rfl rfl (by simp [Tryz.f79]) (by simp [Tryz.f79]) fun m Q hQ => ?_
  simp only [Tryz.f79, show cf.keepRes 79 = false from rfl] at hQ ⊢
  simp
  refine goH_of (g44 d hd _) ?_
  rintro v m' ⟨W, pv, dv, rfl, hst⟩
  obtain ⟨wl, wv, we⟩ := hst.w
  simp [we]
  exact hQ _ _ _ (leave_sc (.inr rfl) at_set_eq ⟨by rw [rgo_e], (Kp.new _ _ _).trans hst.kp⟩)
/-- The parts, in order. -/
def nodes (d : Dat) : List Dat := if chk d = 0 then (rgo d 1 rs0).ps else []
theorem g28 (d : Dat) (hd : d.fits) : Gives Tryz.prog cf 40 [enc d] (.lst (encs (nodes d))) := by
  refine gives_go Tryz.func40 rfl rfl rfl (by simp [Tryz.f40]) (by simp [Tryz.f40]) (fun m Q hQ => ?_) rfl (by intro n; simp [AV.bel])
  simp only [Tryz.f40, show cf.keepRes 40 = false from rfl] at hQ ⊢
  simp
  refine goH_of (g44 d hd _) ?_
  rintro v m' ⟨W, pv, dv, rfl, hst⟩
  obtain ⟨wl, wv, we⟩ := hst.w
  have kp : Kp m m' := (Kp.new _ _ _).trans hst.kp
  by_cases h : chk d = 0
  · have hn : nodes d = (rgo d 1 rs0).ps := if_pos h
    simp [we, rgo_e, h]
    refine hQ _ _ _ ⟨.inr rfl, _, rfl, ?_⟩
    obtain ⟨m2, f1, f2⟩ := hst.p.fz hst.kp rfl (fun y hy => by rw [encs_map] at hy; obtain ⟨x, _, rfl⟩ := List.mem_map.1 hy; simp) (okAll_encs _)
    simp [hst.p.fzr, f1, hn]
    exact (Kp.new _ _ _).trans f2
  · have hn : nodes d = [] := if_neg h
    simp [we, rgo_e, h]
    refine hQ _ _ _ ⟨.inr rfl, _, rfl, ?_⟩
    simp [hn, encs, kp]
theorem nodes_length (d : Dat) : ((nodes d).length : Int) = siz d := by
  unfold nodes siz
  split
  · obtain ⟨np, nd, h1, h2, h3, h4, h5⟩ := (rgo_wk d 1 rs0 0 rfl).more
    rw [h1]
    have : wk d 1 (rs0.ps.length : Int) 0 = wk d 1 0 0 := by simp [rs0]
    rw [this] at h4
    rw [h4]
    simp [rs0]
  · rfl
theorem g34 (d : Dat) (hd : d.fits) : Gives Tryz.prog cf 23 [enc d] (int (siz d)) := by
  refine gives_run Tryz.func23 rfl rfl rfl rfl (by simp) (by simp [Tryz.f23]) (by simp [Tryz.f23]) fun m => ?_
  simp [Tryz.f23, show cf.keepRes 23 = false from rfl, (g28 d hd).go, nodes_length]
end Go.Proofs.YtnhcmcfgemoehaaGreat
