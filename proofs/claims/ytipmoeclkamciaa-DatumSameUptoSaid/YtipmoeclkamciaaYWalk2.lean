import Derived.Test.YtipmoeclkamciaaYWalk
/- Checking, size, depth. -/
set_option linter.unusedSimpArgs false
set_option linter.unusedVariables false
set_option linter.unusedSectionVars false
namespace Go.Proofs.Ytipmoeclkamciaa
open Go.V

theorem g43 (d : Dat) (hd : d.fits) : Gives Try.prog cf 43 [enc d, .sc .nilFunc] (.tup [int (wk d 1 0 0).2.1, int (wk d 1 0 0).2.2, int (wk d 1 0 0).1]) := by
  refine gives_go Try.func43 rfl rfl rfl (by simp [Try.f43]) (by simp [Try.f43]) fun m Q hQ => ?_
  simp only [Try.f43, show cf.keepRes 43 = false from rfl] at hQ ⊢
  simp [Nat.add_assoc]
  refine goH_of (g58 (m.next + 2) (m.next + 3) (m.next + 1) (m.next + 4) (m.next + 5) (by omega) d.size d (Nat.le_refl _) hd 1 0 0 _ (by omega) (by omega) ⟨⟨?_, ?_⟩, ⟨?_, ?_⟩, ⟨?_, ?_⟩, ⟨?_, ?_⟩, ⟨?_, ?_⟩⟩) ?_
  all_goals first
    | (simp [Nat.add_assoc]; done)
    | skip
  rintro v m1 ⟨rfl, st, hp, kx⟩
  obtain ⟨pl, pv, pe⟩ := st.p
  obtain ⟨ql, qv, qe⟩ := st.q
  simp
  refine go_draw_of (by kernel_rfl) ?_
  simp [pe, qe]
  refine goM_nil (by kernel_rfl) ?_
  simp
  refine hQ _ _ _ ⟨.inr rfl, _, rfl, ?_⟩
  simp [oneOf, fzr]
  refine kx.kp ?_ fun id hid => ?_
  · exact (((((((((((Kp.new _ _ _).newr _ _).newr _ _).newr _ _).set (by omega) _).set (by omega) _).newr _ _).set (by omega) _).newr _ _).set (by omega) _))
  · unfold two; omega

def chk (d : Dat) : Int := (wk d 1 0 0).1
def siz (d : Dat) : Int := if chk d = 0 then (wk d 1 0 0).2.1 else 0
def dep (d : Dat) : Int := if chk d = 0 then (wk d 1 0 0).2.2 else 0

theorem g14 (d : Dat) (hd : d.fits) : Gives Try.prog cf 14 [enc d] (int (chk d)) := by
  refine gives_go Try.func14 rfl rfl rfl (by simp [Try.f14]) (by simp [Try.f14]) fun m Q hQ => ?_
  simp only [Try.f14, show cf.keepRes 14 = false from rfl] at hQ ⊢
  simp
  refine goH_gives (g43 d hd) fun m1 k1 => ?_
  simp
  exact hQ _ _ _ (leave_sc (.inr rfl) at_set_eq ⟨rfl, (Kp.new _ _ _).trans k1⟩)

theorem g16 (d : Dat) (hd : d.fits) : Gives Try.prog cf 16 [enc d] (int (siz d)) := by
  refine gives_go Try.func16 rfl rfl rfl (by simp [Try.f16]) (by simp [Try.f16]) fun m Q hQ => ?_
  simp only [Try.f16, show cf.keepRes 16 = false from rfl] at hQ ⊢
  simp
  refine goH_gives (g43 d hd) fun m1 k1 => ?_
  by_cases h : (wk d 1 0 0).1 = 0
  all_goals
    simp [h]
    exact hQ _ _ _ (leave_sc (.inr rfl) at_set_eq ⟨by simp [siz, chk, h], (Kp.new _ _ _).trans k1⟩)

theorem g17 (d : Dat) (hd : d.fits) : Gives Try.prog cf 17 [enc d] (int (dep d)) := by
  refine gives_go Try.func17 rfl rfl rfl (by simp [Try.f17]) (by simp [Try.f17]) fun m Q hQ => ?_
  simp only [Try.f17, show cf.keepRes 17 = false from rfl] at hQ ⊢
  simp
  refine goH_gives (g43 d hd) fun m1 k1 => ?_
  by_cases h : (wk d 1 0 0).1 = 0
  all_goals
    simp [h]
    exact hQ _ _ _ (leave_sc (.inr rfl) at_set_eq ⟨by simp [dep, chk, h], (Kp.new _ _ _).trans k1⟩)
end Go.Proofs.Ytipmoeclkamciaa
