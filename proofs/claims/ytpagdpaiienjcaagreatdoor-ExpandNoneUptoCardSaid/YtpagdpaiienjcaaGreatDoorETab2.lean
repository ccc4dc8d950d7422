import Derived.Test.YtpagdpaiienjcaaGreatDoorETab1
/- A closed run, told by tables: part 3. -/
set_option linter.unusedSimpArgs false
set_option linter.unusedVariables false
set_option linter.unusedSectionVars false
namespace Go.Proofs.YtpagdpaiienjcaaGreatDoor
open Go.V
set_option maxRecDepth 100000 in
theorem rows21_ok : rows21.all (rowRun Tryz.prog c24 3000 21) = true := by kernel_rfl
noncomputable def c25 : Cfg := c24.tell 21 (rowH rows21)
theorem told25 : ∀ g h, c25.hook g = some h → ByHand Tryz.prog g h := told_tell told24 (told_row follows_mixed told24 rows21_ok)
def rows20 : List Row := [
  ([u95], u95),
  ([u97], u97),
  ([u102], u102),
  ([u83], u83),
  ([u99], u99),
  ([u78], u78),
  ([u79], u79),
  ([u106], u106),
  ([u104], u104)]
set_option maxRecDepth 100000 in
theorem rows20_ok : rows20.all (rowRun Tryz.prog c25 3000 20) = true := by kernel_rfl
noncomputable def c26 : Cfg := c25.tell 20 (rowH rows20)
theorem told26 : ∀ g h, c26.hook g = some h → ByHand Tryz.prog g h := told_tell told25 (told_row follows_mixed told25 rows20_ok)
abbrev u128 : AV := .sc (.string ⟨⟨[49, 32]⟩⟩)
def rows105 : List Row := [
  ([u75], .agg [u1, .sc (.string ⟨⟨[]⟩⟩)]),
  ([u76], .agg [u2, .sc (.string ⟨⟨[]⟩⟩)]),
  ([u77], .agg [u3, .sc (.string ⟨⟨[]⟩⟩)]),
  ([u98], .agg [u7, .sc (.string ⟨⟨[]⟩⟩)]),
  ([u83], .agg [u5, .sc (.string ⟨⟨[]⟩⟩)]),
  ([u99], .agg [.sc (.string ⟨⟨[120]⟩⟩), .sc (.string ⟨⟨[]⟩⟩)]),
  ([u103], .agg [u4, u128]),
  ([u82], .agg [u4, .sc (.string ⟨⟨[]⟩⟩)]),
  ([u104], .agg [u5, u128]),
  ([u105], .agg [u6, u128]),
  ([u88], .agg [u6, .sc (.string ⟨⟨[]⟩⟩)])]
set_option maxRecDepth 100000 in
theorem rows105_ok : rows105.all (rowRun Tryz.prog c26 3000 105) = true := by kernel_rfl
noncomputable def c27 : Cfg := c26.tell 105 (rowH rows105)
theorem told27 : ∀ g h, c27.hook g = some h → ByHand Tryz.prog g h := told_tell told26 (told_row follows_mixed told26 rows105_ok)
def rows104 : List Row := [
  ([u75], .sc (.bool true)),
  ([u76], .sc (.bool true)),
  ([u77], .sc (.bool true)),
  ([u98], .sc (.bool true)),
  ([u83], .sc (.bool true)),
  ([u99], .sc (.bool true)),
  ([u103], .sc (.bool true)),
  ([u104], .sc (.bool true)),
  ([u105], .sc (.bool true))]
set_option maxRecDepth 100000 in
theorem rows104_ok : rows104.all (rowRun Tryz.prog c27 3000 104) = true := by kernel_rfl
noncomputable def c28 : Cfg := c27.tell 104 (rowH rows104)
theorem told28 : ∀ g h, c28.hook g = some h → ByHand Tryz.prog g h := told_tell told27 (told_row follows_mixed told27 rows104_ok)
def rows90_0 : List Row := [
  ([u12], .tup [.lst [.agg [i 1, i 0, i 1, i 0, .sc (.string ⟨⟨[]⟩⟩)], u15, u17, .agg [i 1, i 21, i 22, i 0, .sc (.string ⟨⟨[]⟩⟩)], u19, .agg [i 1, i 35, i 36, i 0, .sc (.string ⟨⟨[]⟩⟩)], .agg [i 2, i 36, i 37, i 0, .sc (.string ⟨⟨[]⟩⟩)], .agg [i 1, i 38, i 39, i 0, .sc (.string ⟨⟨[]⟩⟩)], .agg [i 1, i 39, i 40, i 0, .sc (.string ⟨⟨[]⟩⟩)], .agg [i 13, i 40, i 41, i 0, .sc (.string ⟨⟨[95]⟩⟩)], .agg [i 13, i 42, i 43, i 0, .sc (.string ⟨⟨[97]⟩⟩)], .agg [i 13, i 44, i 45, i 0, .sc (.string ⟨⟨[98]⟩⟩)], .agg [i 2, i 45, i 46, i 0, .sc (.string ⟨⟨[]⟩⟩)], .agg [i 1, i 47, i 48, i 0, .sc (.string ⟨⟨[]⟩⟩)], u24, .agg [i 1, i 52, i 53, i 0, .sc (.string ⟨⟨[]⟩⟩)], .agg [i 1, i 53, i 54, i 0, .sc (.string ⟨⟨[]⟩⟩)], u26, .agg [i 13, i 58, i 59, i 0, .sc (.string ⟨⟨[97]⟩⟩)], .agg [i 2, i 59, i 60, i 0, .sc (.string ⟨⟨[]⟩⟩)], .agg [i 2, i 60, i 61, i 0, .sc (.string ⟨⟨[]⟩⟩)], .agg [i 1, i 62, i 63, i 0, .sc (.string ⟨⟨[]⟩⟩)], u29, .agg [i 13, i 68, i 69, i 0, .sc (.string ⟨⟨[97]⟩⟩)], .agg [i 13, i 70, i 71, i 0, .sc (.string ⟨⟨[98]⟩⟩)], .agg [i 2, i 71, i 72, i 0, .sc (.string ⟨⟨[]⟩⟩)], .agg [i 1, i 73, i 74, i 0, .sc (.string ⟨⟨[]⟩⟩)], u33, .agg [i 13, i 79, i 80, i 0, .sc (.string ⟨⟨[98]⟩⟩)], u36, .agg [i 2, i 84, i 85, i 0, .sc (.string ⟨⟨[]⟩⟩)], .agg [i 2, i 85, i 86, i 0, .sc (.string ⟨⟨[]⟩⟩)], .agg [i 2, i 86, i 87, i 0, .sc (.string ⟨⟨[]⟩⟩)], .agg [i 2, i 87, i 88, i 0, .sc (.string ⟨⟨[]⟩⟩)], .agg [i 2, i 88, i 89, i 0, .sc (.string ⟨⟨[]⟩⟩)]], i 0, i 0])]
set_option maxRecDepth 100000 in
theorem rows90_0_ok : rows90_0.all (rowRun Tryz.prog c28 3000 90) = true := by kernel_rfl
def rows90_1 : List Row := [
  ([u13], .tup [.lst [.agg [i 1, i 0, i 1, i 0, .sc (.string ⟨⟨[]⟩⟩)], u38, .agg [i 1, i 8, i 9, i 0, .sc (.string ⟨⟨[]⟩⟩)], u40, .agg [i 13, i 13, i 14, i 0, .sc (.string ⟨⟨[120]⟩⟩)], .agg [i 2, i 14, i 15, i 0, .sc (.string ⟨⟨[]⟩⟩)], .agg [i 1, i 16, i 17, i 0, .sc (.string ⟨⟨[]⟩⟩)], u43, u45, .agg [i 13, i 27, i 28, i 0, .sc (.string ⟨⟨[120]⟩⟩)], .agg [i 2, i 28, i 29, i 0, .sc (.string ⟨⟨[]⟩⟩)], .agg [i 2, i 29, i 30, i 0, .sc (.string ⟨⟨[]⟩⟩)]], i 0, i 0])]
set_option maxRecDepth 100000 in
theorem rows90_1_ok : rows90_1.all (rowRun Tryz.prog c28 3000 90) = true := by kernel_rfl
def rows90_2 : List Row := [
  ([u14], .tup [.lst [.agg [i 1, i 0, i 1, i 0, .sc (.string ⟨⟨[]⟩⟩)], u38, .agg [i 1, i 8, i 9, i 0, .sc (.string ⟨⟨[]⟩⟩)], .agg [i 9, i 9, i 10, i 1, .sc (.string ⟨⟨[]⟩⟩)], .agg [i 9, i 11, i 12, i 2, .sc (.string ⟨⟨[]⟩⟩)], .agg [i 2, i 12, i 13, i 0, .sc (.string ⟨⟨[]⟩⟩)], .agg [i 1, i 14, i 15, i 0, .sc (.string ⟨⟨[]⟩⟩)], u49, .agg [i 1, i 20, i 21, i 0, .sc (.string ⟨⟨[]⟩⟩)], u51, .agg [i 1, i 28, i 29, i 0, .sc (.string ⟨⟨[]⟩⟩)], .agg [i 9, i 29, i 30, i 3, .sc (.string ⟨⟨[]⟩⟩)], .agg [i 2, i 30, i 31, i 0, .sc (.string ⟨⟨[]⟩⟩)], .agg [i 1, i 32, i 33, i 0, .sc (.string ⟨⟨[]⟩⟩)], u54, .agg [i 1, i 37, i 38, i 0, .sc (.string ⟨⟨[]⟩⟩)], u56, .agg [i 9, i 42, i 43, i 1, .sc (.string ⟨⟨[]⟩⟩)], .agg [i 1, i 44, i 45, i 0, .sc (.string ⟨⟨[]⟩⟩)], u59, .agg [i 9, i 51, i 52, i 2, .sc (.string ⟨⟨[]⟩⟩)], .agg [i 2, i 52, i 53, i 0, .sc (.string ⟨⟨[]⟩⟩)], .agg [i 2, i 53, i 54, i 0, .sc (.string ⟨⟨[]⟩⟩)], .agg [i 1, i 55, i 56, i 0, .sc (.string ⟨⟨[]⟩⟩)], u62, .agg [i 9, i 60, i 61, i 2, .sc (.string ⟨⟨[]⟩⟩)], .agg [i 1, i 62, i 63, i 0, .sc (.string ⟨⟨[]⟩⟩)], u65, .agg [i 9, i 69, i 70, i 3, .sc (.string ⟨⟨[]⟩⟩)], .agg [i 2, i 70, i 71, i 0, .sc (.string ⟨⟨[]⟩⟩)], .agg [i 2, i 71, i 72, i 0, .sc (.string ⟨⟨[]⟩⟩)], .agg [i 2, i 72, i 73, i 0, .sc (.string ⟨⟨[]⟩⟩)], .agg [i 2, i 73, i 74, i 0, .sc (.string ⟨⟨[]⟩⟩)], .agg [i 1, i 75, i 76, i 0, .sc (.string ⟨⟨[]⟩⟩)], u68, .agg [i 9, i 82, i 83, i 1, .sc (.string ⟨⟨[]⟩⟩)], .agg [i 2, i 83, i 84, i 0, .sc (.string ⟨⟨[]⟩⟩)], .agg [i 2, i 84, i 85, i 0, .sc (.string ⟨⟨[]⟩⟩)], .agg [i 2, i 85, i 86, i 0, .sc (.string ⟨⟨[]⟩⟩)]], i 0, i 0])]
set_option maxRecDepth 100000 in
theorem rows90_2_ok : rows90_2.all (rowRun Tryz.prog c28 3000 90) = true := by kernel_rfl
def rows90 : List Row := rows90_0 ++ rows90_1 ++ rows90_2
theorem rows90_ok : rows90.all (rowRun Tryz.prog c28 3000 90) = true := by
  simp only [rows90, List.all_append, rows90_0_ok, rows90_1_ok, rows90_2_ok, Bool.and_self]
noncomputable def c29 : Cfg := c28.tell 90 (rowH rows90)
theorem told29 : ∀ g h, c29.hook g = some h → ByHand Tryz.prog g h := told_tell told28 (told_row follows_mixed told28 rows90_ok)
def rows31_0 : List Row := [
  ([u12], .tup [u95, i 0])]
set_option maxRecDepth 100000 in
theorem rows31_0_ok : rows31_0.all (rowRun Tryz.prog c29 3000 31) = true := by kernel_rfl
def rows31_1 : List Row := [
  ([u13], .tup [u102, i 0])]
set_option maxRecDepth 100000 in
theorem rows31_1_ok : rows31_1.all (rowRun Tryz.prog c29 3000 31) = true := by kernel_rfl
def rows31_2 : List Row := [
  ([u14], .tup [u112, i 0])]
set_option maxRecDepth 100000 in
theorem rows31_2_ok : rows31_2.all (rowRun Tryz.prog c29 3000 31) = true := by kernel_rfl
def rows31 : List Row := rows31_0 ++ rows31_1 ++ rows31_2
theorem rows31_ok : rows31.all (rowRun Tryz.prog c29 3000 31) = true := by
  simp only [rows31, List.all_append, rows31_0_ok, rows31_1_ok, rows31_2_ok, Bool.and_self]
noncomputable def c30 : Cfg := c29.tell 31 (rowH rows31)
theorem told30 : ∀ g h, c30.hook g = some h → ByHand Tryz.prog g h := told_tell told29 (told_row follows_mixed told29 rows31_ok)
def rows14 : List Row := [
  ([u12], u95),
  ([u13], u102),
  ([u14], u112)]
set_option maxRecDepth 100000 in
theorem rows14_ok : rows14.all (rowRun Tryz.prog c30 3000 14) = true := by kernel_rfl
noncomputable def c31 : Cfg := c30.tell 14 (rowH rows14)
theorem told31 : ∀ g h, c31.hook g = some h → ByHand Tryz.prog g h := told_tell told30 (told_row follows_mixed told30 rows14_ok)
def rows34 : List Row := [
  ([u112], u112)]
set_option maxRecDepth 100000 in
theorem rows34_ok : rows34.all (rowRun Tryz.prog c31 3000 34) = true := by kernel_rfl
noncomputable def c32 : Cfg := c31.tell 34 (rowH rows34)
theorem told32 : ∀ g h, c32.hook g = some h → ByHand Tryz.prog g h := told_tell told31 (told_row follows_mixed told31 rows34_ok)
def rows35 : List Row := [
  ([u121], .lst [u121, u120, u118, u117, u114, u113, u116, u115, u119])]
set_option maxRecDepth 100000 in
theorem rows35_ok : rows35.all (rowRun Tryz.prog c32 3000 35) = true := by kernel_rfl
noncomputable def c33 : Cfg := c32.tell 35 (rowH rows35)
theorem told33 : ∀ g h, c33.hook g = some h → ByHand Tryz.prog g h := told_tell told32 (told_row follows_mixed told32 rows35_ok)
def rows15 : List Row := [
  ([u112], .tup [u121, i 0])]
end Go.Proofs.YtpagdpaiienjcaaGreatDoor
