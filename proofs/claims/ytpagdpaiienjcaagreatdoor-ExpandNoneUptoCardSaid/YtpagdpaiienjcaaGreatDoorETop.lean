import Derived.Test.YtpagdpaiienjcaaGreatDoorELaw
import Derived.Test.YtpagdpaiienjcaaGreatDoorYRead
import Derived.WalkKit
import Derived.ProofKit
import Derived.OpenShut
import Derived.JoinedCond
/- From the walk to the row. -/
set_option linter.unusedSimpArgs false
set_option linter.unusedVariables false
set_option linter.unusedSectionVars false
namespace Go.Proofs.YtpagdpaiienjcaaGreatDoor
open Go.V
theorem own_knob : ownKnob Tryz.prog.godebug = none := by kernel_rfl
theorem laid_out : laidOutB Tryz.prog = true := by kernel_rfl
theorem readable25 : Tryz.prog.readableRec 25 = true ∧ 25 < Tryz.prog.types.size := ⟨by kernel_rfl, of_decide_eq_true (by kernel_rfl)⟩
section
variable {H : Type} {en : TypeId × Value → H} {W : World}
theorem trod_datum {v : Value} {d : DataW H} {p : List MemPlace} (h : DataW.Trod en Tryz.prog W 0 (fun _ => true) true 25 v d p) (hb : Rows.uptoBulk d ≤ 1048576) : ∃ x : Dat, Rel (G.start W) (enc x) v ∧ x.fits := by
  obtain ⟨fuel, h⟩ := h
  have hv : v = .agg v.cells := by
    have hl : v.cells.toList.length = 6 := by
      cases fuel with
      | zero => cases h
      | succ fuel =>
        simp only [DataW.trod, Tryz.underlying25, cells25] at h
        split at h
        · assumption
        · cases h
    cases v <;> first | rfl | (simp [Value.cells] at hl)
  obtain ⟨x, h1, h2⟩ := datum_in fuel _ d p h hb
  refine ⟨x, ?_, h2⟩
  rw [hv]
  simpa using h1
end
end Go.Proofs.YtpagdpaiienjcaaGreatDoor
