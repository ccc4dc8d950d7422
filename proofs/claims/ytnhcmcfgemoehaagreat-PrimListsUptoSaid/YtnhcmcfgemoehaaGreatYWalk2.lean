import Derived.Test.YtnhcmcfgemoehaaGreatYWalk
/- Checking, size, depth. -/
set_option linter.unusedSimpArgs false
set_option linter.unusedVariables false
set_option linter.unusedSectionVars false
namespace Go.Proofs.YtnhcmcfgemoehaaGreat
set_option maxRecDepth 4000
open Go.V

theorem g43 (d : Dat) (hd : d.fits) : Gives Tryz.prog cf 58 [enc d, .sc .nilFunc] (.tup [int (wk d 1 0 0).2.1, int (wk d 1 0 0).2.2, int (wk d 1 0 0).1]) := by
  refine gives_go Tryz.func58 rfl rfl rfl (by simp [Tryz.f58]) (by simp [Tryz.f58]) fun m Q hQ => ?_
  simp only [Tryz.f58, show cf.keepRes 58 = false from rfl] at hQ ⊢
  simp [Nat.add_assoc]
  refine goH_of (g58 (m.next + 2) (m.next + 3) (m.next + 1) (m.next + 4) (m.next + 5) (by omega) d.size d (Nat.le_refl _) hd 1 0 0 _ (by omega) (by omega) ⟨⟨?_, ?_⟩, ⟨?_, ?_⟩, ⟨?_, ?_⟩, ⟨?_, ?_⟩, ⟨?_, ?_⟩⟩) ?_
  all_goals first
    | (simp [Nat.add_assoc]; done)
    | skip
  rintro v m1 ⟨rfl, st, hp, kx⟩
  obtain ⟨pl, pv, pe⟩ := st.p
  obtain ⟨ql, qv, qe⟩ := st.q
  simp
  refine go_draw_of (by kernel_rfl) ?_
  simp [pe, qe]
  refine goM_nil (by kernel_rfl) ?_
  simp
  refine hQ _ _ _ ⟨.inr rfl, _, rfl, ?_⟩
  simp [oneOf, fzr]
  refine kx.kp ?_ fun id hid => ?_
  · exact (((((((((((Kp.new _ _ _).newr _ _).newr _ _).newr _ _).set (by omega) _).set (by omega) _).newr _ _).set (by omega) _).newr _ _).set (by omega) _))
  · unfold two; omega

def chk (d : Dat) : Int := (wk d 1 0 0).1
def siz (d : Dat) : Int := if chk d = 0 then (wk d 1 0 0).2.1 else 0
def dep (d : Dat) : Int := if chk d = 0 then (wk d 1 0 0).2.2 else 0

theorem g14 (d : Dat) (hd : d.fits) : Gives Tryz.prog cf 35 [enc d] (int (chk d)) := by
  refine gives_go Tryz.func35 rfl rfl rfl (by simp [Tryz.f35]) (by simp [Tryz.f35]) fun m Q hQ => ?_
  simp only [Tryz.f35, show cf.keepRes 35 = false from rfl] at hQ ⊢
  simp
  refine goH_gives (g43 d hd) fun m1 k1 => ?_
  simp
  exact hQ _ _ _ (leave_sc (.inr rfl) at_set_eq ⟨rfl, (Kp.new _ _ _).trans k1⟩)

end Go.Proofs.YtnhcmcfgemoehaaGreat
