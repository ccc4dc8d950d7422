import Derived.Test.YtpagdpaiienjcaaGreatDoorRows
import Derived.ProofKit
import Derived.Test.YtpagdpaiienjcaaGreatDoorVT
/- ExpandNone: whether a macro catches a name: a closed run, told by tables. -/
set_option linter.unusedSimpArgs false
set_option linter.unusedVariables false
set_option linter.unusedSectionVars false
namespace Go.Proofs.YtpagdpaiienjcaaGreatDoor
open Go.V

theorem follows_mixed : Tryz.prog.follows .mixedOrders = true := by kernel_rfl
theorem cl47 : CloneAt Tryz.prog 47 := ⟨fun m => by kernel_rfl, fun m => ⟨1, false, by kernel_rfl⟩⟩
theorem cl237 : CloneAt Tryz.prog 237 := ⟨fun m => by kernel_rfl, fun m => ⟨14, true, by kernel_rfl⟩⟩
theorem cl28 : CloneAt Tryz.prog 28 := ⟨fun m => by kernel_rfl, fun m => ⟨3, true, by kernel_rfl⟩⟩
theorem cl55 : CloneAt Tryz.prog 55 := ⟨fun m => by kernel_rfl, fun m => ⟨10, true, by kernel_rfl⟩⟩
theorem mcl57 : ByHand Tryz.prog 57 mcloneH := told_mclone Tryz.func57 (by kernel_rfl) rfl (by kernel_rfl) (by kernel_rfl)
theorem told_clone {f : FuncId} (h : CloneAt Tryz.prog f) : ByHand Tryz.prog f (cloneH Tryz.prog f) := ⟨fun B W args m v m' e2 hv => cloneH_sound follows_mixed h e2 hv, fun args m v m' e2 => cloneH_ver (W := default) e2⟩
/-- Whose arguments and results are lists. -/
def ents : List Nat := [79, 90, 31, 14, 15, 20, 34, 35, 148, 213, 162, 105]
/-- Closed runs. -/
noncomputable def ck : Cfg := ⟨fun f => !(ents.contains f), fun f => !(ents.contains f), fun f => if f == 47 || f == 237 || f == 28 || f == 55 then some (cloneH Tryz.prog f) else if f == 57 then some mcloneH else none, fun f => if ents.contains f then 1 else 0⟩
theorem told_ck (f : FuncId) (h : List AV → Mem → Option (AV × Mem)) (e : ck.hook f = some h) : ByHand Tryz.prog f h := by
  unfold ck at e
  dsimp only at e
  split at e
  · rename_i hc
    cases e
    have : f = 47 ∨ f = 237 ∨ f = 28 ∨ f = 55 := by simpa [or_assoc] using hc
    rcases this with rfl | rfl | rfl | rfl
    · exact told_clone cl47
    · exact told_clone cl237
    · exact told_clone cl28
    · exact told_clone cl55
  · split at e
    · rename_i hc
      have : f = 57 := by simpa using hc
      subst this
      cases e
      exact mcl57
    · cases e
abbrev i (n : Int) : AV := .sc (.int .i64 n)
def rows225 : List Row := [
  ([.sc (.int .u8 100)], .sc (.bool true)),
  ([.sc (.int .u8 101)], .sc (.bool true)),
  ([.sc (.int .u8 102)], .sc (.bool true)),
  ([.sc (.int .u8 105)], .sc (.bool true)),
  ([.sc (.int .u8 110)], .sc (.bool true)),
  ([.sc (.int .u8 45)], .sc (.bool false)),
  ([.sc (.int .u8 115)], .sc (.bool true)),
  ([.sc (.int .u8 121)], .sc (.bool true)),
  ([.sc (.int .u8 116)], .sc (.bool true)),
  ([.sc (.int .u8 97)], .sc (.bool true)),
  ([.sc (.int .u8 120)], .sc (.bool true)),
  ([.sc (.int .u8 119)], .sc (.bool true)),
  ([.sc (.int .u8 112)], .sc (.bool true)),
  ([.sc (.int .u8 33)], .sc (.bool true)),
  ([.sc (.int .u8 114)], .sc (.bool true)),
  ([.sc (.int .u8 117)], .sc (.bool true)),
  ([.sc (.int .u8 108)], .sc (.bool true)),
  ([.sc (.int .u8 95)], .sc (.bool true)),
  ([.sc (.int .u8 98)], .sc (.bool true)),
  ([.sc (.int .u8 109)], .sc (.bool true)),
  ([.sc (.int .u8 99)], .sc (.bool true)),
  ([.sc (.int .u8 113)], .sc (.bool true)),
  ([.sc (.int .u8 111)], .sc (.bool true))]
set_option maxRecDepth 100000 in
theorem rows225_ok : rows225.all (rowRun Tryz.prog ck 3000 225) = true := by kernel_rfl
noncomputable def c1 : Cfg := ck.tell 225 (rowH rows225)
theorem told1 : ∀ g h, c1.hook g = some h → ByHand Tryz.prog g h := told_tell told_ck (told_row follows_mixed told_ck rows225_ok)
abbrev u0 : AV := .sc (.string ⟨⟨[33, 36, 37, 38, 42, 47, 58, 60, 61, 62, 63, 94, 95, 126]⟩⟩)
def rows226 : List Row := [
  ([.sc (.int .u8 45), u0], .sc (.bool false)),
  ([.sc (.int .u8 45), .sc (.string ⟨⟨[48, 49, 50, 51, 52, 53, 54, 55, 56, 57, 43, 45, 46, 64]⟩⟩)], .sc (.bool true)),
  ([.sc (.int .u8 33), u0], .sc (.bool true)),
  ([.sc (.int .u8 95), u0], .sc (.bool true))]
set_option maxRecDepth 100000 in
theorem rows226_ok : rows226.all (rowRun Tryz.prog c1 3000 226) = true := by kernel_rfl
noncomputable def c2 : Cfg := c1.tell 226 (rowH rows226)
theorem told2 : ∀ g h, c2.hook g = some h → ByHand Tryz.prog g h := told_tell told1 (told_row follows_mixed told1 rows226_ok)
abbrev u1 : AV := .sc (.string ⟨⟨[100, 101, 102, 105, 110, 101, 45, 115, 121, 110, 116, 97, 120]⟩⟩)
abbrev u2 : AV := .sc (.string ⟨⟨[115, 119, 97, 112, 33]⟩⟩)
abbrev u3 : AV := .sc (.string ⟨⟨[115, 121, 110, 116, 97, 120, 45, 114, 117, 108, 101, 115]⟩⟩)
abbrev u4 : AV := .sc (.string ⟨⟨[108, 101, 116]⟩⟩)
abbrev u5 : AV := .sc (.string ⟨⟨[116, 109, 112]⟩⟩)
abbrev u6 : AV := .sc (.string ⟨⟨[115, 101, 116, 33]⟩⟩)
abbrev u7 : AV := .sc (.string ⟨⟨[108, 97, 109, 98, 100, 97]⟩⟩)
abbrev u8 : AV := .sc (.string ⟨⟨[99, 97, 108, 108]⟩⟩)
abbrev u9 : AV := .sc (.string ⟨⟨[115, 101, 113]⟩⟩)
abbrev u10 : AV := .sc (.string ⟨⟨[115, 101, 116]⟩⟩)
abbrev u11 : AV := .sc (.string ⟨⟨[108, 111, 99, 97, 108]⟩⟩)
def rows191 : List Row := [
  ([u1], .sc (.bool true)),
  ([u2], .sc (.bool true)),
  ([u3], .sc (.bool true)),
  ([.sc (.string ⟨⟨[95]⟩⟩)], .sc (.bool true)),
  ([.sc (.string ⟨⟨[97]⟩⟩)], .sc (.bool true)),
  ([.sc (.string ⟨⟨[98]⟩⟩)], .sc (.bool true)),
  ([u4], .sc (.bool true)),
  ([u5], .sc (.bool true)),
  ([u6], .sc (.bool true)),
  ([u7], .sc (.bool true)),
  ([.sc (.string ⟨⟨[120]⟩⟩)], .sc (.bool true)),
  ([u8], .sc (.bool true)),
  ([u9], .sc (.bool true)),
  ([u10], .sc (.bool true)),
  ([u11], .sc (.bool true)),
  ([.sc (.string ⟨⟨[]⟩⟩)], .sc (.bool false))]
set_option maxRecDepth 100000 in
theorem rows191_ok : rows191.all (rowRun Tryz.prog c2 3000 191) = true := by kernel_rfl
noncomputable def c3 : Cfg := c2.tell 191 (rowH rows191)
theorem told3 : ∀ g h, c3.hook g = some h → ByHand Tryz.prog g h := told_tell told2 (told_row follows_mixed told2 rows191_ok)
def rows101 : List Row := [
  ([u1], .sc (.bool true)),
  ([u2], .sc (.bool true)),
  ([u3], .sc (.bool true)),
  ([.sc (.string ⟨⟨[95]⟩⟩)], .sc (.bool true)),
  ([.sc (.string ⟨⟨[97]⟩⟩)], .sc (.bool true)),
  ([.sc (.string ⟨⟨[98]⟩⟩)], .sc (.bool true)),
  ([u4], .sc (.bool true)),
  ([u5], .sc (.bool true)),
  ([u6], .sc (.bool true)),
  ([u7], .sc (.bool true)),
  ([.sc (.string ⟨⟨[120]⟩⟩)], .sc (.bool true))]
set_option maxRecDepth 100000 in
theorem rows101_ok : rows101.all (rowRun Tryz.prog c3 3000 101) = true := by kernel_rfl
noncomputable def c4 : Cfg := c3.tell 101 (rowH rows101)
theorem told4 : ∀ g h, c4.hook g = some h → ByHand Tryz.prog g h := told_tell told3 (told_row follows_mixed told3 rows101_ok)
def rows146 : List Row := [
  ([.sc (.int .u8 40)], .sc (.bool false)),
  ([.sc (.int .u8 100)], .sc (.bool false)),
  ([.sc (.int .u8 101)], .sc (.bool false)),
  ([.sc (.int .u8 102)], .sc (.bool false)),
  ([.sc (.int .u8 105)], .sc (.bool false)),
  ([.sc (.int .u8 110)], .sc (.bool false)),
  ([.sc (.int .u8 45)], .sc (.bool false)),
  ([.sc (.int .u8 115)], .sc (.bool false)),
  ([.sc (.int .u8 121)], .sc (.bool false)),
  ([.sc (.int .u8 116)], .sc (.bool false)),
  ([.sc (.int .u8 97)], .sc (.bool false)),
  ([.sc (.int .u8 120)], .sc (.bool false)),
  ([.sc (.int .u8 32)], .sc (.bool true)),
  ([.sc (.int .u8 119)], .sc (.bool false)),
  ([.sc (.int .u8 112)], .sc (.bool false)),
  ([.sc (.int .u8 33)], .sc (.bool false)),
  ([.sc (.int .u8 114)], .sc (.bool false)),
  ([.sc (.int .u8 117)], .sc (.bool false)),
  ([.sc (.int .u8 108)], .sc (.bool false)),
  ([.sc (.int .u8 41)], .sc (.bool false)),
  ([.sc (.int .u8 95)], .sc (.bool false)),
  ([.sc (.int .u8 98)], .sc (.bool false)),
  ([.sc (.int .u8 109)], .sc (.bool false)),
  ([.sc (.int .u8 49)], .sc (.bool false)),
  ([.sc (.int .u8 50)], .sc (.bool false)),
  ([.sc (.int .u8 99)], .sc (.bool false)),
  ([.sc (.int .u8 51)], .sc (.bool false)),
  ([.sc (.int .u8 113)], .sc (.bool false)),
  ([.sc (.int .u8 111)], .sc (.bool false))]
set_option maxRecDepth 100000 in
theorem rows146_ok : rows146.all (rowRun Tryz.prog c4 3000 146) = true := by kernel_rfl
noncomputable def c5 : Cfg := c4.tell 146 (rowH rows146)
theorem told5 : ∀ g h, c5.hook g = some h → ByHand Tryz.prog g h := told_tell told4 (told_row follows_mixed told4 rows146_ok)
abbrev u12 : AV := .sc (.string ⟨⟨[40, 100, 101, 102, 105, 110, 101, 45, 115, 121, 110, 116, 97, 120, 32, 115, 119, 97, 112, 33, 32, 40, 115, 121, 110, 116, 97, 120, 45, 114, 117, 108, 101, 115, 32, 40, 41, 32, 40, 40, 95, 32, 97, 32, 98, 41, 32, 40, 108, 101, 116, 32, 40, 40, 116, 109, 112, 32, 97, 41, 41, 32, 40, 115, 101, 116, 33, 32, 97, 32, 98, 41, 32, 40, 115, 101, 116, 33, 32, 98, 32, 116, 109, 112, 41, 41, 41, 41, 41]⟩⟩)
abbrev u13 : AV := .sc (.string ⟨⟨[40, 108, 97, 109, 98, 100, 97, 32, 40, 116, 109, 112, 32, 120, 41, 32, 40, 115, 119, 97, 112, 33, 32, 116, 109, 112, 32, 120, 41, 41]⟩⟩)
abbrev u14 : AV := .sc (.string ⟨⟨[40, 108, 97, 109, 98, 100, 97, 32, 40, 49, 32, 50, 41, 32, 40, 99, 97, 108, 108, 32, 40, 108, 97, 109, 98, 100, 97, 32, 40, 51, 41, 32, 40, 115, 101, 113, 32, 40, 115, 101, 116, 32, 49, 32, 40, 108, 111, 99, 97, 108, 32, 50, 41, 41, 32, 40, 115, 101, 116, 32, 50, 32, 40, 108, 111, 99, 97, 108, 32, 51, 41, 41, 41, 41, 32, 40, 108, 111, 99, 97, 108, 32, 49, 41, 41, 41]⟩⟩)
def rows147 : List Row := [
  ([u12, i 0], .tup [i 0, i 0]),
  ([u12, i 1], .tup [i 1, i 0]),
  ([u12, i 14], .tup [i 15, i 0]),
  ([u12, i 20], .tup [i 21, i 0]),
  ([u12, i 22], .tup [i 22, i 0]),
  ([u12, i 34], .tup [i 35, i 0]),
  ([u12, i 36], .tup [i 36, i 0]),
  ([u12, i 37], .tup [i 38, i 0]),
  ([u12, i 39], .tup [i 39, i 0]),
  ([u12, i 40], .tup [i 40, i 0]),
  ([u12, i 41], .tup [i 42, i 0]),
  ([u12, i 43], .tup [i 44, i 0]),
  ([u12, i 45], .tup [i 45, i 0]),
  ([u12, i 46], .tup [i 47, i 0]),
  ([u12, i 48], .tup [i 48, i 0]),
  ([u12, i 51], .tup [i 52, i 0]),
  ([u12, i 53], .tup [i 53, i 0]),
  ([u12, i 54], .tup [i 54, i 0]),
  ([u12, i 57], .tup [i 58, i 0]),
  ([u12, i 59], .tup [i 59, i 0]),
  ([u12, i 60], .tup [i 60, i 0]),
  ([u12, i 61], .tup [i 62, i 0]),
  ([u12, i 63], .tup [i 63, i 0]),
  ([u12, i 67], .tup [i 68, i 0]),
  ([u12, i 69], .tup [i 70, i 0]),
  ([u12, i 71], .tup [i 71, i 0]),
  ([u12, i 72], .tup [i 73, i 0]),
  ([u12, i 74], .tup [i 74, i 0]),
  ([u12, i 78], .tup [i 79, i 0]),
  ([u12, i 80], .tup [i 81, i 0]),
  ([u12, i 84], .tup [i 84, i 0]),
  ([u12, i 85], .tup [i 85, i 0]),
  ([u12, i 86], .tup [i 86, i 0]),
  ([u12, i 87], .tup [i 87, i 0]),
  ([u12, i 88], .tup [i 88, i 0]),
  ([u12, i 89], .tup [i 89, i 0]),
  ([u13, i 0], .tup [i 0, i 0]),
  ([u13, i 1], .tup [i 1, i 0]),
  ([u13, i 7], .tup [i 8, i 0]),
  ([u13, i 9], .tup [i 9, i 0]),
  ([u13, i 12], .tup [i 13, i 0]),
  ([u13, i 14], .tup [i 14, i 0]),
  ([u13, i 15], .tup [i 16, i 0]),
  ([u13, i 17], .tup [i 17, i 0]),
  ([u13, i 22], .tup [i 23, i 0]),
  ([u13, i 26], .tup [i 27, i 0]),
  ([u13, i 28], .tup [i 28, i 0]),
  ([u13, i 29], .tup [i 29, i 0]),
  ([u13, i 30], .tup [i 30, i 0]),
  ([u14, i 0], .tup [i 0, i 0]),
  ([u14, i 1], .tup [i 1, i 0]),
  ([u14, i 7], .tup [i 8, i 0]),
  ([u14, i 9], .tup [i 9, i 0]),
  ([u14, i 10], .tup [i 11, i 0]),
  ([u14, i 12], .tup [i 12, i 0]),
  ([u14, i 13], .tup [i 14, i 0]),
  ([u14, i 15], .tup [i 15, i 0]),
  ([u14, i 19], .tup [i 20, i 0]),
  ([u14, i 21], .tup [i 21, i 0]),
  ([u14, i 27], .tup [i 28, i 0]),
  ([u14, i 29], .tup [i 29, i 0]),
  ([u14, i 30], .tup [i 30, i 0]),
  ([u14, i 31], .tup [i 32, i 0]),
  ([u14, i 33], .tup [i 33, i 0]),
  ([u14, i 36], .tup [i 37, i 0]),
  ([u14, i 38], .tup [i 38, i 0]),
  ([u14, i 41], .tup [i 42, i 0]),
  ([u14, i 43], .tup [i 44, i 0]),
  ([u14, i 45], .tup [i 45, i 0]),
  ([u14, i 50], .tup [i 51, i 0]),
  ([u14, i 52], .tup [i 52, i 0]),
  ([u14, i 53], .tup [i 53, i 0]),
  ([u14, i 54], .tup [i 55, i 0]),
  ([u14, i 56], .tup [i 56, i 0]),
  ([u14, i 59], .tup [i 60, i 0]),
  ([u14, i 61], .tup [i 62, i 0]),
  ([u14, i 63], .tup [i 63, i 0]),
  ([u14, i 68], .tup [i 69, i 0]),
  ([u14, i 70], .tup [i 70, i 0]),
  ([u14, i 71], .tup [i 71, i 0]),
  ([u14, i 72], .tup [i 72, i 0]),
  ([u14, i 73], .tup [i 73, i 0]),
  ([u14, i 74], .tup [i 75, i 0]),
  ([u14, i 76], .tup [i 76, i 0]),
  ([u14, i 81], .tup [i 82, i 0]),
  ([u14, i 83], .tup [i 83, i 0]),
  ([u14, i 84], .tup [i 84, i 0]),
  ([u14, i 85], .tup [i 85, i 0]),
  ([u14, i 86], .tup [i 86, i 0])]
set_option maxRecDepth 100000 in
theorem rows147_ok : rows147.all (rowRun Tryz.prog c5 3000 147) = true := by kernel_rfl
noncomputable def c6 : Cfg := c5.tell 147 (rowH rows147)
theorem told6 : ∀ g h, c6.hook g = some h → ByHand Tryz.prog g h := told_tell told5 (told_row follows_mixed told5 rows147_ok)
def rows221 : List Row := [
  ([.sc (.int .u8 100)], .sc (.bool false)),
  ([.sc (.int .u8 115)], .sc (.bool false)),
  ([.sc (.int .u8 95)], .sc (.bool false)),
  ([.sc (.int .u8 97)], .sc (.bool false)),
  ([.sc (.int .u8 98)], .sc (.bool false)),
  ([.sc (.int .u8 108)], .sc (.bool false)),
  ([.sc (.int .u8 116)], .sc (.bool false)),
  ([.sc (.int .u8 120)], .sc (.bool false)),
  ([.sc (.int .u8 49)], .sc (.bool true)),
  ([.sc (.int .u8 50)], .sc (.bool true)),
  ([.sc (.int .u8 99)], .sc (.bool false)),
  ([.sc (.int .u8 51)], .sc (.bool true))]
set_option maxRecDepth 100000 in
theorem rows221_ok : rows221.all (rowRun Tryz.prog c6 3000 221) = true := by kernel_rfl
noncomputable def c7 : Cfg := c6.tell 221 (rowH rows221)
theorem told7 : ∀ g h, c7.hook g = some h → ByHand Tryz.prog g h := told_tell told6 (told_row follows_mixed told6 rows221_ok)
def rows223_0 : List Row := [
  ([u12, i 1], .sc (.bool false)),
  ([u12, i 2], .sc (.bool false)),
  ([u12, i 3], .sc (.bool false)),
  ([u12, i 4], .sc (.bool false)),
  ([u12, i 5], .sc (.bool false)),
  ([u12, i 6], .sc (.bool false)),
  ([u12, i 7], .sc (.bool false)),
  ([u12, i 8], .sc (.bool false)),
  ([u12, i 9], .sc (.bool false)),
  ([u12, i 10], .sc (.bool false)),
  ([u12, i 11], .sc (.bool false)),
  ([u12, i 12], .sc (.bool false)),
  ([u12, i 13], .sc (.bool false)),
  ([u12, i 14], .sc (.bool true)),
  ([u12, i 15], .sc (.bool false)),
  ([u12, i 16], .sc (.bool false)),
  ([u12, i 17], .sc (.bool false)),
  ([u12, i 18], .sc (.bool false)),
  ([u12, i 19], .sc (.bool false)),
  ([u12, i 20], .sc (.bool true)),
  ([u12, i 22], .sc (.bool false)),
  ([u12, i 23], .sc (.bool false)),
  ([u12, i 24], .sc (.bool false)),
  ([u12, i 25], .sc (.bool false)),
  ([u12, i 26], .sc (.bool false)),
  ([u12, i 27], .sc (.bool false)),
  ([u12, i 28], .sc (.bool false)),
  ([u12, i 29], .sc (.bool false)),
  ([u12, i 30], .sc (.bool false)),
  ([u12, i 31], .sc (.bool false)),
  ([u12, i 32], .sc (.bool false)),
  ([u12, i 33], .sc (.bool false)),
  ([u12, i 34], .sc (.bool true)),
  ([u12, i 40], .sc (.bool false)),
  ([u12, i 41], .sc (.bool true)),
  ([u12, i 42], .sc (.bool false)),
  ([u12, i 43], .sc (.bool true)),
  ([u12, i 44], .sc (.bool false)),
  ([u12, i 45], .sc (.bool true)),
  ([u12, i 48], .sc (.bool false)),
  ([u12, i 49], .sc (.bool false)),
  ([u12, i 50], .sc (.bool false)),
  ([u12, i 51], .sc (.bool true)),
  ([u12, i 54], .sc (.bool false)),
  ([u12, i 55], .sc (.bool false)),
  ([u12, i 56], .sc (.bool false)),
  ([u12, i 57], .sc (.bool true)),
  ([u12, i 58], .sc (.bool false)),
  ([u12, i 59], .sc (.bool true)),
  ([u12, i 63], .sc (.bool false)),
  ([u12, i 64], .sc (.bool false)),
  ([u12, i 65], .sc (.bool false)),
  ([u12, i 66], .sc (.bool false)),
  ([u12, i 67], .sc (.bool true)),
  ([u12, i 68], .sc (.bool false)),
  ([u12, i 69], .sc (.bool true)),
  ([u12, i 70], .sc (.bool false)),
  ([u12, i 71], .sc (.bool true)),
  ([u12, i 74], .sc (.bool false)),
  ([u12, i 75], .sc (.bool false)),
  ([u12, i 76], .sc (.bool false)),
  ([u12, i 77], .sc (.bool false)),
  ([u12, i 78], .sc (.bool true)),
  ([u12, i 79], .sc (.bool false)),
  ([u12, i 80], .sc (.bool true)),
  ([u12, i 81], .sc (.bool false)),
  ([u12, i 82], .sc (.bool false)),
  ([u12, i 83], .sc (.bool false)),
  ([u12, i 84], .sc (.bool true)),
  ([u13, i 1], .sc (.bool false)),
  ([u13, i 2], .sc (.bool false)),
  ([u13, i 3], .sc (.bool false)),
  ([u13, i 4], .sc (.bool false)),
  ([u13, i 5], .sc (.bool false)),
  ([u13, i 6], .sc (.bool false)),
  ([u13, i 7], .sc (.bool true)),
  ([u13, i 9], .sc (.bool false)),
  ([u13, i 10], .sc (.bool false)),
  ([u13, i 11], .sc (.bool false)),
  ([u13, i 12], .sc (.bool true)),
  ([u13, i 13], .sc (.bool false)),
  ([u13, i 14], .sc (.bool true)),
  ([u13, i 17], .sc (.bool false)),
  ([u13, i 18], .sc (.bool false)),
  ([u13, i 19], .sc (.bool false)),
  ([u13, i 20], .sc (.bool false)),
  ([u13, i 21], .sc (.bool false)),
  ([u13, i 22], .sc (.bool true)),
  ([u13, i 23], .sc (.bool false)),
  ([u13, i 24], .sc (.bool false)),
  ([u13, i 25], .sc (.bool false)),
  ([u13, i 26], .sc (.bool true)),
  ([u13, i 27], .sc (.bool false)),
  ([u13, i 28], .sc (.bool true)),
  ([u14, i 1], .sc (.bool false)),
  ([u14, i 2], .sc (.bool false)),
  ([u14, i 3], .sc (.bool false)),
  ([u14, i 4], .sc (.bool false)),
  ([u14, i 5], .sc (.bool false)),
  ([u14, i 6], .sc (.bool false)),
  ([u14, i 7], .sc (.bool true)),
  ([u14, i 9], .sc (.bool false)),
  ([u14, i 10], .sc (.bool true)),
  ([u14, i 11], .sc (.bool false)),
  ([u14, i 12], .sc (.bool true)),
  ([u14, i 15], .sc (.bool false))]
set_option maxRecDepth 100000 in
theorem rows223_0_ok : rows223_0.all (rowRun Tryz.prog c7 3000 223) = true := by kernel_rfl
def rows223_1 : List Row := [
  ([u14, i 16], .sc (.bool false)),
  ([u14, i 17], .sc (.bool false)),
  ([u14, i 18], .sc (.bool false)),
  ([u14, i 19], .sc (.bool true)),
  ([u14, i 21], .sc (.bool false)),
  ([u14, i 22], .sc (.bool false)),
  ([u14, i 23], .sc (.bool false)),
  ([u14, i 24], .sc (.bool false)),
  ([u14, i 25], .sc (.bool false)),
  ([u14, i 26], .sc (.bool false)),
  ([u14, i 27], .sc (.bool true)),
  ([u14, i 29], .sc (.bool false)),
  ([u14, i 30], .sc (.bool true)),
  ([u14, i 33], .sc (.bool false)),
  ([u14, i 34], .sc (.bool false)),
  ([u14, i 35], .sc (.bool false)),
  ([u14, i 36], .sc (.bool true)),
  ([u14, i 38], .sc (.bool false)),
  ([u14, i 39], .sc (.bool false)),
  ([u14, i 40], .sc (.bool false)),
  ([u14, i 41], .sc (.bool true)),
  ([u14, i 42], .sc (.bool false)),
  ([u14, i 43], .sc (.bool true)),
  ([u14, i 45], .sc (.bool false)),
  ([u14, i 46], .sc (.bool false)),
  ([u14, i 47], .sc (.bool false)),
  ([u14, i 48], .sc (.bool false)),
  ([u14, i 49], .sc (.bool false)),
  ([u14, i 50], .sc (.bool true)),
  ([u14, i 51], .sc (.bool false)),
  ([u14, i 52], .sc (.bool true)),
  ([u14, i 56], .sc (.bool false)),
  ([u14, i 57], .sc (.bool false)),
  ([u14, i 58], .sc (.bool false)),
  ([u14, i 59], .sc (.bool true)),
  ([u14, i 60], .sc (.bool false)),
  ([u14, i 61], .sc (.bool true)),
  ([u14, i 63], .sc (.bool false)),
  ([u14, i 64], .sc (.bool false)),
  ([u14, i 65], .sc (.bool false)),
  ([u14, i 66], .sc (.bool false)),
  ([u14, i 67], .sc (.bool false)),
  ([u14, i 68], .sc (.bool true)),
  ([u14, i 69], .sc (.bool false)),
  ([u14, i 70], .sc (.bool true)),
  ([u14, i 76], .sc (.bool false)),
  ([u14, i 77], .sc (.bool false)),
  ([u14, i 78], .sc (.bool false)),
  ([u14, i 79], .sc (.bool false)),
  ([u14, i 80], .sc (.bool false)),
  ([u14, i 81], .sc (.bool true)),
  ([u14, i 82], .sc (.bool false)),
  ([u14, i 83], .sc (.bool true))]
set_option maxRecDepth 100000 in
theorem rows223_1_ok : rows223_1.all (rowRun Tryz.prog c7 3000 223) = true := by kernel_rfl
def rows223 : List Row := rows223_0 ++ rows223_1
theorem rows223_ok : rows223.all (rowRun Tryz.prog c7 3000 223) = true := by
  simp only [rows223, List.all_append, rows223_0_ok, rows223_1_ok, Bool.and_self]
noncomputable def c8 : Cfg := c7.tell 223 (rowH rows223)
theorem told8 : ∀ g h, c8.hook g = some h → ByHand Tryz.prog g h := told_tell told7 (told_row follows_mixed told7 rows223_ok)
abbrev u15 : AV := .agg [i 13, i 1, i 14, i 0, u1]
abbrev u16 : AV := .tup [u15, i 0]
abbrev u17 : AV := .agg [i 13, i 15, i 20, i 0, u2]
abbrev u18 : AV := .tup [u17, i 0]
abbrev u19 : AV := .agg [i 13, i 22, i 34, i 0, u3]
abbrev u20 : AV := .tup [u19, i 0]
abbrev u21 : AV := .tup [.agg [i 13, i 40, i 41, i 0, .sc (.string ⟨⟨[95]⟩⟩)], i 0]
abbrev u22 : AV := .tup [.agg [i 13, i 42, i 43, i 0, .sc (.string ⟨⟨[97]⟩⟩)], i 0]
abbrev u23 : AV := .tup [.agg [i 13, i 44, i 45, i 0, .sc (.string ⟨⟨[98]⟩⟩)], i 0]
abbrev u24 : AV := .agg [i 13, i 48, i 51, i 0, u4]
abbrev u25 : AV := .tup [u24, i 0]
abbrev u26 : AV := .agg [i 13, i 54, i 57, i 0, u5]
abbrev u27 : AV := .tup [u26, i 0]
abbrev u28 : AV := .tup [.agg [i 13, i 58, i 59, i 0, .sc (.string ⟨⟨[97]⟩⟩)], i 0]
abbrev u29 : AV := .agg [i 13, i 63, i 67, i 0, u6]
abbrev u30 : AV := .tup [u29, i 0]
abbrev u31 : AV := .tup [.agg [i 13, i 68, i 69, i 0, .sc (.string ⟨⟨[97]⟩⟩)], i 0]
abbrev u32 : AV := .tup [.agg [i 13, i 70, i 71, i 0, .sc (.string ⟨⟨[98]⟩⟩)], i 0]
abbrev u33 : AV := .agg [i 13, i 74, i 78, i 0, u6]
abbrev u34 : AV := .tup [u33, i 0]
abbrev u35 : AV := .tup [.agg [i 13, i 79, i 80, i 0, .sc (.string ⟨⟨[98]⟩⟩)], i 0]
abbrev u36 : AV := .agg [i 13, i 81, i 84, i 0, u5]
abbrev u37 : AV := .tup [u36, i 0]
abbrev u38 : AV := .agg [i 13, i 1, i 7, i 0, u7]
abbrev u39 : AV := .tup [u38, i 0]
abbrev u40 : AV := .agg [i 13, i 9, i 12, i 0, u5]
abbrev u41 : AV := .tup [u40, i 0]
abbrev u42 : AV := .tup [.agg [i 13, i 13, i 14, i 0, .sc (.string ⟨⟨[120]⟩⟩)], i 0]
abbrev u43 : AV := .agg [i 13, i 17, i 22, i 0, u2]
abbrev u44 : AV := .tup [u43, i 0]
abbrev u45 : AV := .agg [i 13, i 23, i 26, i 0, u5]
abbrev u46 : AV := .tup [u45, i 0]
abbrev u47 : AV := .tup [.agg [i 13, i 27, i 28, i 0, .sc (.string ⟨⟨[120]⟩⟩)], i 0]
abbrev u48 : AV := .tup [.agg [i 9, i 11, i 12, i 2, .sc (.string ⟨⟨[]⟩⟩)], i 0]
abbrev u49 : AV := .agg [i 13, i 15, i 19, i 0, u8]
abbrev u50 : AV := .tup [u49, i 0]
abbrev u51 : AV := .agg [i 13, i 21, i 27, i 0, u7]
abbrev u52 : AV := .tup [u51, i 0]
abbrev u53 : AV := .tup [.agg [i 9, i 29, i 30, i 3, .sc (.string ⟨⟨[]⟩⟩)], i 0]
abbrev u54 : AV := .agg [i 13, i 33, i 36, i 0, u9]
abbrev u55 : AV := .tup [u54, i 0]
abbrev u56 : AV := .agg [i 13, i 38, i 41, i 0, u10]
abbrev u57 : AV := .tup [u56, i 0]
abbrev u58 : AV := .tup [.agg [i 9, i 42, i 43, i 1, .sc (.string ⟨⟨[]⟩⟩)], i 0]
abbrev u59 : AV := .agg [i 13, i 45, i 50, i 0, u11]
abbrev u60 : AV := .tup [u59, i 0]
abbrev u61 : AV := .tup [.agg [i 9, i 51, i 52, i 2, .sc (.string ⟨⟨[]⟩⟩)], i 0]
abbrev u62 : AV := .agg [i 13, i 56, i 59, i 0, u10]
abbrev u63 : AV := .tup [u62, i 0]
abbrev u64 : AV := .tup [.agg [i 9, i 60, i 61, i 2, .sc (.string ⟨⟨[]⟩⟩)], i 0]
abbrev u65 : AV := .agg [i 13, i 63, i 68, i 0, u11]
abbrev u66 : AV := .tup [u65, i 0]
def rows188_0 : List Row := [
  ([u12, i 1], u16),
  ([u12, i 15], u18),
  ([u12, i 22], u20),
  ([u12, i 40], u21),
  ([u12, i 42], u22),
  ([u12, i 44], u23),
  ([u12, i 48], u25),
  ([u12, i 54], u27),
  ([u12, i 58], u28),
  ([u12, i 63], u30),
  ([u12, i 68], u31),
  ([u12, i 70], u32),
  ([u12, i 74], u34),
  ([u12, i 79], u35),
  ([u12, i 81], u37),
  ([u13, i 1], u39),
  ([u13, i 9], u41),
  ([u13, i 13], u42),
  ([u13, i 17], u44),
  ([u13, i 23], u46),
  ([u13, i 27], u47),
  ([u14, i 1], u39),
  ([u14, i 9], .tup [.agg [i 9, i 9, i 10, i 1, .sc (.string ⟨⟨[]⟩⟩)], i 0]),
  ([u14, i 11], u48),
  ([u14, i 15], u50),
  ([u14, i 21], u52),
  ([u14, i 29], u53),
  ([u14, i 33], u55),
  ([u14, i 38], u57),
  ([u14, i 42], u58),
  ([u14, i 45], u60),
  ([u14, i 51], u61),
  ([u14, i 56], u63),
  ([u14, i 60], u64),
  ([u14, i 63], u66)]
set_option maxRecDepth 100000 in
theorem rows188_0_ok : rows188_0.all (rowRun Tryz.prog c8 3000 188) = true := by kernel_rfl
abbrev u67 : AV := .tup [.agg [i 9, i 69, i 70, i 3, .sc (.string ⟨⟨[]⟩⟩)], i 0]
abbrev u68 : AV := .agg [i 13, i 76, i 81, i 0, u11]
abbrev u69 : AV := .tup [u68, i 0]
abbrev u70 : AV := .tup [.agg [i 9, i 82, i 83, i 1, .sc (.string ⟨⟨[]⟩⟩)], i 0]
def rows188_1 : List Row := [
  ([u14, i 69], u67),
  ([u14, i 76], u69),
  ([u14, i 82], u70)]
set_option maxRecDepth 100000 in
theorem rows188_1_ok : rows188_1.all (rowRun Tryz.prog c8 3000 188) = true := by kernel_rfl
def rows188 : List Row := rows188_0 ++ rows188_1
theorem rows188_ok : rows188.all (rowRun Tryz.prog c8 3000 188) = true := by
  simp only [rows188, List.all_append, rows188_0_ok, rows188_1_ok, Bool.and_self]
noncomputable def c9 : Cfg := c8.tell 188 (rowH rows188)
theorem told9 : ∀ g h, c9.hook g = some h → ByHand Tryz.prog g h := told_tell told8 (told_row follows_mixed told8 rows188_ok)
abbrev u71 : AV := .tup [.agg [i 1, i 62, i 63, i 0, .sc (.string ⟨⟨[]⟩⟩)], i 0]
abbrev u72 : AV := .tup [.agg [i 2, i 71, i 72, i 0, .sc (.string ⟨⟨[]⟩⟩)], i 0]
abbrev u73 : AV := .tup [.agg [i 2, i 84, i 85, i 0, .sc (.string ⟨⟨[]⟩⟩)], i 0]
abbrev u74 : AV := .tup [.agg [i 2, i 85, i 86, i 0, .sc (.string ⟨⟨[]⟩⟩)], i 0]
def rows148_0 : List Row := [
  ([u12, i 0], .tup [.agg [i 1, i 0, i 1, i 0, .sc (.string ⟨⟨[]⟩⟩)], i 0]),
  ([u12, i 1], u16),
  ([u12, i 15], u18),
  ([u12, i 21], .tup [.agg [i 1, i 21, i 22, i 0, .sc (.string ⟨⟨[]⟩⟩)], i 0]),
  ([u12, i 22], u20),
  ([u12, i 35], .tup [.agg [i 1, i 35, i 36, i 0, .sc (.string ⟨⟨[]⟩⟩)], i 0]),
  ([u12, i 36], .tup [.agg [i 2, i 36, i 37, i 0, .sc (.string ⟨⟨[]⟩⟩)], i 0]),
  ([u12, i 38], .tup [.agg [i 1, i 38, i 39, i 0, .sc (.string ⟨⟨[]⟩⟩)], i 0]),
  ([u12, i 39], .tup [.agg [i 1, i 39, i 40, i 0, .sc (.string ⟨⟨[]⟩⟩)], i 0]),
  ([u12, i 40], u21),
  ([u12, i 42], u22),
  ([u12, i 44], u23),
  ([u12, i 45], .tup [.agg [i 2, i 45, i 46, i 0, .sc (.string ⟨⟨[]⟩⟩)], i 0]),
  ([u12, i 47], .tup [.agg [i 1, i 47, i 48, i 0, .sc (.string ⟨⟨[]⟩⟩)], i 0]),
  ([u12, i 48], u25),
  ([u12, i 52], .tup [.agg [i 1, i 52, i 53, i 0, .sc (.string ⟨⟨[]⟩⟩)], i 0]),
  ([u12, i 53], .tup [.agg [i 1, i 53, i 54, i 0, .sc (.string ⟨⟨[]⟩⟩)], i 0]),
  ([u12, i 54], u27),
  ([u12, i 58], u28),
  ([u12, i 59], .tup [.agg [i 2, i 59, i 60, i 0, .sc (.string ⟨⟨[]⟩⟩)], i 0]),
  ([u12, i 60], .tup [.agg [i 2, i 60, i 61, i 0, .sc (.string ⟨⟨[]⟩⟩)], i 0]),
  ([u12, i 62], u71),
  ([u12, i 63], u30),
  ([u12, i 68], u31),
  ([u12, i 70], u32),
  ([u12, i 71], u72),
  ([u12, i 73], .tup [.agg [i 1, i 73, i 74, i 0, .sc (.string ⟨⟨[]⟩⟩)], i 0]),
  ([u12, i 74], u34),
  ([u12, i 79], u35),
  ([u12, i 81], u37),
  ([u12, i 84], u73),
  ([u12, i 85], u74),
  ([u12, i 86], .tup [.agg [i 2, i 86, i 87, i 0, .sc (.string ⟨⟨[]⟩⟩)], i 0]),
  ([u12, i 87], .tup [.agg [i 2, i 87, i 88, i 0, .sc (.string ⟨⟨[]⟩⟩)], i 0]),
  ([u12, i 88], .tup [.agg [i 2, i 88, i 89, i 0, .sc (.string ⟨⟨[]⟩⟩)], i 0]),
  ([u13, i 0], .tup [.agg [i 1, i 0, i 1, i 0, .sc (.string ⟨⟨[]⟩⟩)], i 0]),
  ([u13, i 1], u39),
  ([u13, i 8], .tup [.agg [i 1, i 8, i 9, i 0, .sc (.string ⟨⟨[]⟩⟩)], i 0]),
  ([u13, i 9], u41),
  ([u13, i 13], u42),
  ([u13, i 14], .tup [.agg [i 2, i 14, i 15, i 0, .sc (.string ⟨⟨[]⟩⟩)], i 0]),
  ([u13, i 16], .tup [.agg [i 1, i 16, i 17, i 0, .sc (.string ⟨⟨[]⟩⟩)], i 0]),
  ([u13, i 17], u44),
  ([u13, i 23], u46),
  ([u13, i 27], u47),
  ([u13, i 28], .tup [.agg [i 2, i 28, i 29, i 0, .sc (.string ⟨⟨[]⟩⟩)], i 0]),
  ([u13, i 29], .tup [.agg [i 2, i 29, i 30, i 0, .sc (.string ⟨⟨[]⟩⟩)], i 0]),
  ([u14, i 0], .tup [.agg [i 1, i 0, i 1, i 0, .sc (.string ⟨⟨[]⟩⟩)], i 0]),
  ([u14, i 1], u39),
  ([u14, i 8], .tup [.agg [i 1, i 8, i 9, i 0, .sc (.string ⟨⟨[]⟩⟩)], i 0]),
  ([u14, i 9], .tup [.agg [i 9, i 9, i 10, i 1, .sc (.string ⟨⟨[]⟩⟩)], i 0]),
  ([u14, i 11], u48),
  ([u14, i 12], .tup [.agg [i 2, i 12, i 13, i 0, .sc (.string ⟨⟨[]⟩⟩)], i 0]),
  ([u14, i 14], .tup [.agg [i 1, i 14, i 15, i 0, .sc (.string ⟨⟨[]⟩⟩)], i 0]),
  ([u14, i 15], u50),
  ([u14, i 20], .tup [.agg [i 1, i 20, i 21, i 0, .sc (.string ⟨⟨[]⟩⟩)], i 0]),
  ([u14, i 21], u52),
  ([u14, i 28], .tup [.agg [i 1, i 28, i 29, i 0, .sc (.string ⟨⟨[]⟩⟩)], i 0]),
  ([u14, i 29], u53),
  ([u14, i 30], .tup [.agg [i 2, i 30, i 31, i 0, .sc (.string ⟨⟨[]⟩⟩)], i 0]),
  ([u14, i 32], .tup [.agg [i 1, i 32, i 33, i 0, .sc (.string ⟨⟨[]⟩⟩)], i 0]),
  ([u14, i 33], u55),
  ([u14, i 37], .tup [.agg [i 1, i 37, i 38, i 0, .sc (.string ⟨⟨[]⟩⟩)], i 0]),
  ([u14, i 38], u57),
  ([u14, i 42], u58),
  ([u14, i 44], .tup [.agg [i 1, i 44, i 45, i 0, .sc (.string ⟨⟨[]⟩⟩)], i 0]),
  ([u14, i 45], u60),
  ([u14, i 51], u61),
  ([u14, i 52], .tup [.agg [i 2, i 52, i 53, i 0, .sc (.string ⟨⟨[]⟩⟩)], i 0]),
  ([u14, i 53], .tup [.agg [i 2, i 53, i 54, i 0, .sc (.string ⟨⟨[]⟩⟩)], i 0]),
  ([u14, i 55], .tup [.agg [i 1, i 55, i 56, i 0, .sc (.string ⟨⟨[]⟩⟩)], i 0]),
  ([u14, i 56], u63),
  ([u14, i 60], u64),
  ([u14, i 62], u71),
  ([u14, i 63], u66)]
set_option maxRecDepth 100000 in
theorem rows148_0_ok : rows148_0.all (rowRun Tryz.prog c9 3000 148) = true := by kernel_rfl
def rows148_1 : List Row := [
  ([u14, i 69], u67),
  ([u14, i 70], .tup [.agg [i 2, i 70, i 71, i 0, .sc (.string ⟨⟨[]⟩⟩)], i 0]),
  ([u14, i 71], u72),
  ([u14, i 72], .tup [.agg [i 2, i 72, i 73, i 0, .sc (.string ⟨⟨[]⟩⟩)], i 0]),
  ([u14, i 73], .tup [.agg [i 2, i 73, i 74, i 0, .sc (.string ⟨⟨[]⟩⟩)], i 0]),
  ([u14, i 75], .tup [.agg [i 1, i 75, i 76, i 0, .sc (.string ⟨⟨[]⟩⟩)], i 0]),
  ([u14, i 76], u69),
  ([u14, i 82], u70),
  ([u14, i 83], .tup [.agg [i 2, i 83, i 84, i 0, .sc (.string ⟨⟨[]⟩⟩)], i 0]),
  ([u14, i 84], u73),
  ([u14, i 85], u74)]
set_option maxRecDepth 100000 in
theorem rows148_1_ok : rows148_1.all (rowRun Tryz.prog c9 3000 148) = true := by kernel_rfl
def rows148 : List Row := rows148_0 ++ rows148_1
theorem rows148_ok : rows148.all (rowRun Tryz.prog c9 3000 148) = true := by
  simp only [rows148, List.all_append, rows148_0_ok, rows148_1_ok, Bool.and_self]
noncomputable def c10 : Cfg := c9.tell 148 (rowH rows148)
theorem told10 : ∀ g h, c10.hook g = some h → ByHand Tryz.prog g h := told_tell told9 (told_row follows_mixed told9 rows148_ok)
abbrev u75 : AV := .agg [i 5, i 0, u1, .lst [], .lst [], .lst []]
abbrev u76 : AV := .agg [i 5, i 0, u2, .lst [], .lst [], .lst []]
abbrev u77 : AV := .agg [i 5, i 0, u3, .lst [], .lst [], .lst []]
abbrev u78 : AV := .agg [i 5, i 0, .sc (.string ⟨⟨[97]⟩⟩), .lst [], .lst [], .lst []]
abbrev u79 : AV := .agg [i 5, i 0, .sc (.string ⟨⟨[98]⟩⟩), .lst [], .lst [], .lst []]
abbrev u80 : AV := .lst [.agg [i 5, i 0, .sc (.string ⟨⟨[95]⟩⟩), .lst [], .lst [], .lst []], u78, u79]
abbrev u81 : AV := .agg [i 6, i 0, .sc (.string ⟨⟨[]⟩⟩), .lst [], u80, .lst []]
abbrev u82 : AV := .agg [i 5, i 0, u4, .lst [], .lst [], .lst []]
abbrev u83 : AV := .agg [i 5, i 0, u5, .lst [], .lst [], .lst []]
abbrev u84 : AV := .lst [u83, u78]
abbrev u85 : AV := .agg [i 6, i 0, .sc (.string ⟨⟨[]⟩⟩), .lst [], u84, .lst []]
abbrev u86 : AV := .lst [u85]
abbrev u87 : AV := .agg [i 6, i 0, .sc (.string ⟨⟨[]⟩⟩), .lst [], u86, .lst []]
abbrev u88 : AV := .agg [i 5, i 0, u6, .lst [], .lst [], .lst []]
abbrev u89 : AV := .lst [u88, u78, u79]
abbrev u90 : AV := .agg [i 6, i 0, .sc (.string ⟨⟨[]⟩⟩), .lst [], u89, .lst []]
abbrev u91 : AV := .lst [u88, u79, u83]
abbrev u92 : AV := .agg [i 6, i 0, .sc (.string ⟨⟨[]⟩⟩), .lst [], u91, .lst []]
abbrev u93 : AV := .lst [u82, u87, u90, u92]
abbrev u94 : AV := .agg [i 6, i 0, .sc (.string ⟨⟨[]⟩⟩), .lst [], u93, .lst []]
abbrev u95 : AV := .agg [i 6, i 0, .sc (.string ⟨⟨[]⟩⟩), .lst [], .lst [u75, u76, .agg [i 6, i 0, .sc (.string ⟨⟨[]⟩⟩), .lst [], .lst [u77, .agg [i 6, i 0, .sc (.string ⟨⟨[]⟩⟩), .lst [], .lst [], .lst []], .agg [i 6, i 0, .sc (.string ⟨⟨[]⟩⟩), .lst [], .lst [u81, u94], .lst []]], .lst []]], .lst []]
def rows18_0 : List Row := [
  ([u95], i 0)]
set_option maxRecDepth 100000 in
theorem rows18_0_ok : rows18_0.all (rowRun Tryz.prog c10 3000 18) = true := by kernel_rfl
abbrev u96 : AV := .lst [u78, u79]
abbrev u97 : AV := .agg [i 6, i 0, .sc (.string ⟨⟨[]⟩⟩), .lst [], u96, .lst []]
def rows18_1 : List Row := [
  ([u75], i 0),
  ([u76], i 0),
  ([u77], i 0),
  ([u81], i 0),
  ([u97], i 0),
  ([u78], i 0),
  ([u79], i 0)]
end Go.Proofs.YtpagdpaiienjcaaGreatDoor
