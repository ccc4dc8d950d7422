import Derived.Test.YtipmoeclkamciaaYLaw
import Derived.Test.YtipmoeclkamciaaYHalves
/- DatumHalves: the walk. -/
set_option linter.unusedSimpArgs false
set_option linter.unusedVariables false
set_option linter.unusedSectionVars false
namespace Go.Proofs.Ytipmoeclkamciaa
open Go.V
attribute [local simp] Nat.add_assoc

theorem g7 (a d : Dat) (ha : a.fits) (hd : d.fits) : Gives Try.prog cf 7 [enc a, enc d] (.sc (.bool true)) := by
  refine gives_run Try.func7 rfl rfl rfl rfl (by simp) (by simp [Try.f7]) (by simp [Try.f7]) fun m => ?_
  simp [Try.f7, show cf.keepRes 7 = false from rfl, g10.go, (g11 a).go, (g11 d).go]
  cases h1 : sml a with
  | false => simp [g10.go]
  | true =>
    simp [(g11 d).go]
    cases h2 : sml d with
    | false => simp [g10.go]
    | true =>
      have fh := hlv_fits hd
      have fc := cns_fits ha hd
      -- what is behind the first half
      have second : ∀ (h0 : (hlv d).2.2 = 0), (cns (hlv d).1 (hlv d).2.1).2 = 0 ∧ sam (cns (hlv d).1 (hlv d).2.1).1 d = true := by
        intro h0
        obtain ⟨e, hc⟩ := cons_halves h0
        rw [e]
        exact ⟨rfl, sam_refl hc⟩
      simp [(g19 a d ha hd).go]
      by_cases h3 : (cns a d).2 = 0
      · obtain ⟨e, ca, cd⟩ := halves_cons h3
        have c21 := g21 _ fc
        have c23 := g23 _ fc
        rw [e] at c21 c23
        simp [h3, c21.go, c23.go, (g31 a a ha ha).go, (g31 d d hd hd).go, sam_refl ca, sam_refl cd, (g21 d hd).go, (g23 d hd).go]
        by_cases h0 : (hlv d).2.2 = 0
        · obtain ⟨e1, e2⟩ := second h0
          have c19 := g19 _ _ fh.1 fh.2
          have fc2 := cns_fits fh.1 fh.2
          simp [h0, c19.go, e1, (g31 _ d fc2 hd).go, e2]
        · simp [h0]
      · simp [h3, (g21 d hd).go, (g23 d hd).go]
        by_cases h0 : (hlv d).2.2 = 0
        · obtain ⟨e1, e2⟩ := second h0
          have c19 := g19 _ _ fh.1 fh.2
          have fc2 := cns_fits fh.1 fh.2
          simp [h0, c19.go, e1, (g31 _ d fc2 hd).go, e2]
        · simp [h0]
end Go.Proofs.Ytipmoeclkamciaa
