import Derived.Test.YtipmoeclkamciaaYSee
import Derived.Test.YtipmoeclkamciaaYTop
/- The functions told by hand, of the other setting. -/
set_option linter.unusedSimpArgs false
set_option linter.unusedVariables false
set_option linter.unusedSectionVars false
namespace Go.Proofs.Ytipmoeclkamciaa
open Go.V

theorem told_cf (f : FuncId) (h : List AV → Mem → Option (AV × Mem)) (e : cf.hook f = some h) : ByHand Try.prog f h := by
  have : f = 45 ∨ f = 48 := by
    unfold cf at e
    dsimp only at e
    split at e
    · rename_i hc; simpa using hc
    · cases e
  rcases this with rfl | rfl
  · have : h = cloneP Try.prog 45 := by cases e; rfl
    subst this
    exact ⟨fun B W args m v m' e2 hv => cloneP_sound follows_mixed cl45 e2 hv, fun args m v m' e2 => cloneP_ver (W := default) e2⟩
  · have : h = cloneP Try.prog 48 := by cases e; rfl
    subst this
    exact ⟨fun B W args m v m' e2 hv => cloneP_sound follows_mixed cl48 e2 hv, fun args m v m' e2 => cloneP_ver (W := default) e2⟩
theorem told_cw (f : FuncId) (h : List AV → Mem → Option (AV × Mem)) (e : cw.hook f = some h) : ByHand Try.prog f h := by
  unfold cw at e
  dsimp only at e
  split at e
  · cases e
  · cases e; exact told_lim follows_mixed told_cf f
theorem hooksw (B : Nat) (W : World) : Hooks Try.prog B W cw := hooks_of told_cw
end Go.Proofs.Ytipmoeclkamciaa
