import Derived.Test.YtjiijacibpgciaaGreatYRef2
import Derived.Test.YtjiijacibpgciaaGreatYParts
/- The reference: checking, the parts, size, depth. -/
set_option linter.unusedSimpArgs false
set_option linter.unusedVariables false
set_option linter.unusedSectionVars false
namespace Go.Proofs.YtjiijacibpgciaaGreat
set_option maxRecDepth 4000
open Go.V
attribute [local simp] Nat.add_assoc

def rs0 : RS := ⟨[], [], 0⟩
/-- The walk's object, made anew. -/
theorem g44 (d : Dat) (hd : d.fits) (m : Mem) : wph Tryz.prog cf (.func 22) [enc d] m fun v m' => ∃ W pv dv, v = .ptr W 0 ∧ RSt m m' W pv dv (rgo d 1 rs0) := by
  refine wph_go Tryz.func22 rfl rfl (by simp [Tryz.f22]) (by simp [Tryz.f22]) fun Q hQ => ?_
  simp only [Tryz.f22, show cf.keepRes 22 = false from rfl, show cf.keepArgs 22 = false from rfl] at hQ ⊢
  simp [abuild, placesOf, fillAt]
  refine goH_of (goes_at d.size d (Nat.le_refl _) hd 1 rs0 m _ (m.next + 1) (.emp 0) (.emp 0) (by omega) (by simp [rs0]) ⟨⟨by simp, m.clock + 2, by simp [rs0]⟩, .inl (by simp [rs0, encs]), .inl (by simp [rs0]), by simp, by omega, fun h => h, fun h => h, fun _ h => h.elim⟩) ?_
  rintro v m' ⟨rfl, hl, pv', dv', h1, h2, _⟩
  simp
  refine hQ _ _ _ ⟨.inr rfl, _, rfl, ?_⟩
  exact ⟨m.next + 1, pv', dv', by simp [oneOf, fzr, fzv, fz1], by simpa [oneOf, fzr, fzv, fz1] using h1⟩

theorem rgo_e (d : Dat) : (rgo d 1 rs0).e = chk d := (rgo_wk d 1 rs0 0 rfl).e
theorem g15 (d : Dat) (hd : d.fits) : Gives Tryz.prog cf 60 [enc d] (int (chk d)) := by
  refine gives_go Tryz.func60 rfl rfl rfl (by simp [Tryz.f60]) (by simp [Tryz.f60]) fun m Q hQ => ?_
  simp only [Tryz.f60, show cf.keepRes 60 = false from rfl] at hQ ⊢
  simp
  refine goH_of (g44 d hd _) ?_
  rintro v m' ⟨W, pv, dv, rfl, hst⟩
  obtain ⟨wl, wv, we⟩ := hst.w
  simp [we]
  exact hQ _ _ _ (leave_sc (.inr rfl) at_set_eq ⟨by rw [rgo_e], (Kp.new _ _ _).trans hst.kp⟩)
/-- The parts, in order. -/
def nodes (d : Dat) : List Dat := if chk d = 0 then (rgo d 1 rs0).ps else []
theorem g28 (d : Dat) (hd : d.fits) : Gives Tryz.prog cf 9 [enc d] (.lst (encs (nodes d))) := by
  refine gives_go Tryz.func9 rfl rfl rfl (by simp [Tryz.f9]) (by simp [Tryz.f9]) (fun m Q hQ => ?_) rfl (by intro n; simp [AV.bel])
  simp only [Tryz.f9, show cf.keepRes 9 = false from rfl] at hQ ⊢
  simp
  refine goH_of (g44 d hd _) ?_
  rintro v m' ⟨W, pv, dv, rfl, hst⟩
  obtain ⟨wl, wv, we⟩ := hst.w
  have kp : Kp m m' := (Kp.new _ _ _).trans hst.kp
  by_cases h : chk d = 0
  · have hn : nodes d = (rgo d 1 rs0).ps := if_pos h
    simp [we, rgo_e, h]
    refine hQ _ _ _ ⟨.inr rfl, _, rfl, ?_⟩
    obtain ⟨m2, f1, f2⟩ := hst.p.fz hst.kp rfl (fun y hy => by rw [encs_map] at hy; obtain ⟨x, _, rfl⟩ := List.mem_map.1 hy; simp) (okAll_encs _)
    simp [hst.p.fzr, f1, hn]
    exact (Kp.new _ _ _).trans f2
  · have hn : nodes d = [] := if_neg h
    simp [we, rgo_e, h]
    refine hQ _ _ _ ⟨.inr rfl, _, rfl, ?_⟩
    simp [hn, encs, kp]
theorem nodes_length (d : Dat) : ((nodes d).length : Int) = siz d := by
  unfold nodes siz
  split
  · obtain ⟨np, nd, h1, h2, h3, h4, h5⟩ := (rgo_wk d 1 rs0 0 rfl).more
    rw [h1]
    have : wk d 1 (rs0.ps.length : Int) 0 = wk d 1 0 0 := by simp [rs0]
    rw [this] at h4
    rw [h4]
    simp [rs0]
  · rfl
theorem g34 (d : Dat) (hd : d.fits) : Gives Tryz.prog cf 14 [enc d] (int (siz d)) := by
  refine gives_run Tryz.func14 rfl rfl rfl rfl (by simp) (by simp [Tryz.f14]) (by simp [Tryz.f14]) fun m => ?_
  simp [Tryz.f14, show cf.keepRes 14 = false from rfl, (g28 d hd).go, nodes_length]
end Go.Proofs.YtjiijacibpgciaaGreat
