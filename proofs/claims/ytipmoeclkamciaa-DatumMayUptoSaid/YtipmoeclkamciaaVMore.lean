/- More equations by which runs are reckoned. -/
import Derived.Test.YtipmoeclkamciaaVApp
set_option linter.unusedSimpArgs false
set_option linter.unusedVariables false
set_option linter.unusedSectionVars false
namespace Go.V
variable {P : Program} {cfg : Cfg}
section
variable {t : TypeId} {x y : Operand} {a b : Bool}
theorem pureRun_map {α β : Type} (f : α → β) (s : Sem α) : pureRun P (f <$> s) = (pureRun P s).map f := by
  have : f <$> s = s >>= fun a => pure (f a) := rfl
  rw [this, pureRun_bind]
  cases pureRun P s <;> rfl
theorem equal_bool (ht : P.underlying t = some .bool) : pureRun P (Op.equal t (.bool a) (.bool b)) = some (a == b) := by
  show pureRun P (Op.equalIn (9999 + 1) t (.bool a) (.bool b)) = _
  unfold Op.equalIn
  rw [pureRun_bind, pureRun_underlying ht]
  rfl
theorem abin_eqlb (ht : P.underlying t = some .bool) : abin P .eql t x y (.sc (.bool a)) (.sc (.bool b)) = some (.sc (.bool (a == b))) := by
  simp only [abin, plain, eqGuard, binOp]; simp [pureRun_map, equal_bool ht]
theorem abin_neqb (ht : P.underlying t = some .bool) : abin P .neq t x y (.sc (.bool a)) (.sc (.bool b)) = some (.sc (.bool (a != b))) := by
  simp only [abin, plain, eqGuard, binOp]; simp [pureRun_map, equal_bool ht]; cases a <;> cases b <;> rfl
end
attribute [simp] abin_eqlb abin_neqb
end Go.V
