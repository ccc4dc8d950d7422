import Derived.Test.YtipmoeclkamciaaYLaw
import Derived.Test.YtipmoeclkamciaaVMore
import Derived.Test.YtipmoeclkamciaaYRef3
/- DatumMay: the walk. -/
set_option linter.unusedSimpArgs false
set_option linter.unusedVariables false
set_option linter.unusedSectionVars false
namespace Go.Proofs.Ytipmoeclkamciaa
open Go.V
attribute [local simp] Nat.add_assoc

theorem g3 (d : Dat) (S : List UInt8) (hd : d.fits) (hS : S.length < 2 ^ 21) : Gives Try.prog cf 3 [enc d, .sc (.string ⟨⟨S⟩⟩)] (.sc (.bool true)) := by
  refine gives_run Try.func3 rfl rfl rfl rfl (by simp) (by simp [Try.f3]) (by simp [Try.f3]) fun m => ?_
  simp [Try.f3, show cf.keepRes 3 = false from rfl, g10.go, (g11 d).go]
  cases h1 : sml d with
  | false => simp [g10.go]
  | true =>
    simp
    refine go_draw_of (by kernel_rfl) ?_
    simp [(g12 S (by omega)).go, (g13 S (by omega)).go, (g14 d hd).go, (g15 d hd).go]
    refine goM_of (l := [(7, 8)]) (by kernel_rfl) (?_ : List.all _ _ = true) ?_
    · simp [metAt, metOk, rank, objOf, verKept, Region.wanted, Mem.ver]
    simp
end Go.Proofs.Ytipmoeclkamciaa
