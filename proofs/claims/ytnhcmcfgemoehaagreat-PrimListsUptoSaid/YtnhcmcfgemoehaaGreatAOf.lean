import Derived.Test.YtnhcmcfgemoehaaGreatAMake
/- The value of any datum; how many cells and symbols there are. -/
set_option linter.unusedSimpArgs false
set_option linter.unusedVariables false
set_option linter.unusedSectionVars false
namespace Go.Proofs.YtnhcmcfgemoehaaGreat
set_option maxRecDepth 4000
open Go.V
attribute [local simp] Nat.add_assoc

def ofM (d : Dat) (a : ArM) : ArM × Val × Int := if chk d = 0 then makeM d a else (a, (0, 0), chk d)
set_option maxHeartbeats 4000000 in
theorem q21 {X : Nat → Prop} {A : Nat} {a : ArM} {m : Mem} (hA : Ar X A a m) (d : Dat) (hd : d.fits) : wph Tryz.prog ca (.func 21) [.ptr A 0, enc d] m fun v m' => v = .tup [valA (ofM d a).2.1, int (ofM d a).2.2] ∧ Up X A (ofM d a).1 m m' := by
  refine wph_go Tryz.func21 rfl rfl (by simp [Tryz.f21]) (by simp [Tryz.f21]) fun Q hQ => ?_
  simp only [Tryz.f21, show ca.keepRes 21 = false from rfl, show ca.keepArgs 21 = false from rfl] at hQ ⊢
  have k1 : Kp m ((m.new (enc d).cells false).new [int 0, int 0] false) := by simp
  have q1 := q34 (hA.kp k1)
  have fin : ∀ (s' : Sl) (m' : Mem) (v : Val) (e : Int) (a' : ArM), s'.at 4 = .ptr (m.next + 1) 0 → s'.at 5 = int e → (∃ w, m'.get (m.next + 1) = some (.cells [int v.1, int v.2] false w)) → ofM d a = (a', v, e) → Up X A a' m m' → Q .ret s' m' := by
    intro s' m' v e a' h4 h5 ⟨w, hg⟩ hm hu
    refine hQ _ _ _ ?_
    rw [leave_ret]
    refine ⟨_, by simp [aresult, h4, h5, hg, aload, partOf]; rfl, ?_⟩
    rw [hm]
    simp only [Bool.false_eq_true, if_false, oneOf, fzr_val]
    exact ⟨trivial, hu⟩
  simp [q1.go, (ca_gives (g14 d hd)).go]
  by_cases hc : chk d = 0
  · simp [hc]
    refine goH_of (q36 d.size d (Nat.le_refl _) hd (chk_good hc).1 _ a _ (hA.cut.kp k1)) ?_
    rintro _ m5 ⟨rfl, hup⟩
    obtain ⟨X1, hA5, kc5, hX5⟩ := hup.out
    have g5 : m5.get (m.next + 1) = some (.cells [int 0, int 0] false (m.clock + 2)) := by
      rw [kc5.get (m.next + 1) (by simp) (fun h => by omega)]
      simp
    simp [g5]
    refine fin _ _ (makeM d a).2.1 (makeM d a).2.2 (makeM d a).1 (by simp) (by simp) ⟨_, by simp; rfl⟩ (by rw [ofM, if_pos hc]) ?_
    exact (up_box k1 kc5 hA5 (fun j h => (hX5 j h).1) (fun j h => h.2) (by omega) (by simp) _).less
  · simp [hc, build51]
    refine fin _ _ (0, 0) (chk d) a (by simp) (by simp) ⟨_, by simp; rfl⟩ (by rw [ofM, if_neg hc]) (Up.kp hA (by simp))
theorem q55 {X : Nat → Prop} {A : Nat} {a : ArM} {m : Mem} (hA : Ar X A a m) : EH Tryz.prog ca (.func 55) [.ptr A 0] m (.tup [int a.cells.length, int a.names.length]) m := by
  refine eh_run Tryz.func55 rfl rfl rfl rfl (args1 := [.ptr A 0]) (m1 := m) (by simp [fzvs]) (by simp [AV.bel, AV.bels]) (by simp [Tryz.f55]) (by simp [Tryz.f55]) ?_
  have q1 := q34 hA
  obtain ⟨t, M, cs, ns, xs, h, hx⟩ := hA
  obtain ⟨w, hv⟩ := h.get
  have lc := fun m' R => len_has (T := 74) (R := R) (m' := m') h.cells Tryz.underlying74
  have ln := fun m' R => len_has (T := 85) (R := R) (m' := m') h.names Tryz.underlying85
  simp only [List.length_zipWith, h.len, Nat.min_self, List.length_map] at lc ln
  simp only [Tryz.f55, show ca.keepRes 55 = false from rfl]
  simp [q1.go]
  refine go_draw0 (by kernel_rfl) (by kernel_rfl) ?_
  simp [hv, lc, ln]
end Go.Proofs.YtnhcmcfgemoehaaGreat
