import Derived.Test.YtpagdpaiienjcaaGreatDoorETab2
/- A closed run, told by tables: part 4. -/
set_option linter.unusedSimpArgs false
set_option linter.unusedVariables false
set_option linter.unusedSectionVars false
namespace Go.Proofs.YtpagdpaiienjcaaGreatDoor
open Go.V
set_option maxRecDepth 100000 in
theorem rows15_ok : rows15.all (rowRun Tryz.prog c33 3000 15) = true := by kernel_rfl
noncomputable def c34 : Cfg := c33.tell 15 (rowH rows15)
theorem told34 : ∀ g h, c34.hook g = some h → ByHand Tryz.prog g h := told_tell told33 (told_row follows_mixed told33 rows15_ok)
def rows8 : List Row := [
  ([u121, u121], .sc (.bool true))]
set_option maxRecDepth 100000 in
theorem rows8_ok : rows8.all (rowRun Tryz.prog c34 3000 8) = true := by kernel_rfl
noncomputable def c35 : Cfg := c34.tell 8 (rowH rows8)
theorem told35 : ∀ g h, c35.hook g = some h → ByHand Tryz.prog g h := told_tell told34 (told_row follows_mixed told34 rows8_ok)
def rows70 : List Row := [
  ([u1], .sc (.bool true)),
  ([u2], .sc (.bool false)),
  ([u7], .sc (.bool true)),
  ([u4], .sc (.bool true)),
  ([u6], .sc (.bool true))]
set_option maxRecDepth 100000 in
theorem rows70_ok : rows70.all (rowRun Tryz.prog c35 3000 70) = true := by kernel_rfl
noncomputable def c36 : Cfg := c35.tell 70 (rowH rows70)
theorem told36 : ∀ g h, c36.hook g = some h → ByHand Tryz.prog g h := told_tell told35 (told_row follows_mixed told35 rows70_ok)
def rows4 : List Row := [
  ([], .sc (.bool true))]
set_option maxRecDepth 100000 in
theorem rows4_ok : rows4.all (rowRun Tryz.prog c36 3000 4) = true := by kernel_rfl
noncomputable def cl : Cfg := c36.tell 4 (rowH rows4)
theorem told_cl : ∀ g h, cl.hook g = some h → ByHand Tryz.prog g h := told_tell told36 (told_row follows_mixed told36 rows4_ok)
theorem hooksL (B : Bs) (W : World) : Hooks Tryz.prog B W cl := hooks_of told_cl
end Go.Proofs.YtpagdpaiienjcaaGreatDoor
