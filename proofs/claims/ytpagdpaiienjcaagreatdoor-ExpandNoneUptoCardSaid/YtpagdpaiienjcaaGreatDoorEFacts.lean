import Derived.Test.YtpagdpaiienjcaaGreatDoorRows
import Derived.ProofKit
import Derived.OpenShut
import Derived.JoinedCond
/- The closed facts of the row. -/
set_option linter.unusedSimpArgs false
set_option linter.unusedVariables false
set_option linter.unusedSectionVars false
namespace Go.Proofs.YtpagdpaiienjcaaGreatDoor.expandNone
theorem named : Tryz.pinned.checked.prog.funcNamed Rows.expandNoneUptoRow.func = some 3 := by kernel_rfl
theorem wrapped : Tryz.f3.isWrapper Tryz.pinned.checked.prog Rows.expandNoneUptoRow.wrapper Rows.expandNoneUptoRow.mainSum := by unfold Func.isWrapper; first | (rw [if_pos (by decide +kernel)]; kernel_rfl) | (rw [if_neg (by decide +kernel)]; exact ⟨rfl, rfl⟩)
theorem facts : joinedFacts Tryz.pinned.checked.prog 3 Tryz.f3 (Rows.OpenSpec.upto Rows.expandNoneSpec).bare Rows.expandNoneUptoRow = true := by kernel_rfl
end Go.Proofs.YtpagdpaiienjcaaGreatDoor.expandNone
