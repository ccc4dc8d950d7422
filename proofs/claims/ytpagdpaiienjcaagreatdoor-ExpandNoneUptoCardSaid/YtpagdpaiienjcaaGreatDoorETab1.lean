import Derived.Test.YtpagdpaiienjcaaGreatDoorETab0
/- A closed run, told by tables: part 2. -/
set_option linter.unusedSimpArgs false
set_option linter.unusedVariables false
set_option linter.unusedSectionVars false
namespace Go.Proofs.YtpagdpaiienjcaaGreatDoor
open Go.V
set_option maxRecDepth 100000 in
theorem rows18_1_ok : rows18_1.all (rowRun Tryz.prog c10 3000 18) = true := by kernel_rfl
def rows18_2 : List Row := [
  ([u94], i 0),
  ([u82], i 0),
  ([u83], i 0),
  ([u88], i 0),
  ([.agg [i 2, i 0, .sc (.string ⟨⟨[]⟩⟩), .lst [], .lst [], .lst []]], i 0)]
set_option maxRecDepth 100000 in
theorem rows18_2_ok : rows18_2.all (rowRun Tryz.prog c10 3000 18) = true := by kernel_rfl
abbrev u98 : AV := .agg [i 5, i 0, u7, .lst [], .lst [], .lst []]
abbrev u99 : AV := .agg [i 5, i 0, .sc (.string ⟨⟨[120]⟩⟩), .lst [], .lst [], .lst []]
abbrev u100 : AV := .agg [i 6, i 0, .sc (.string ⟨⟨[]⟩⟩), .lst [], .lst [u83, u99], .lst []]
abbrev u101 : AV := .agg [i 6, i 0, .sc (.string ⟨⟨[]⟩⟩), .lst [], .lst [u76, u83, u99], .lst []]
abbrev u102 : AV := .agg [i 6, i 0, .sc (.string ⟨⟨[]⟩⟩), .lst [], .lst [u98, u100, u101], .lst []]
def rows18_3 : List Row := [
  ([u102], i 0),
  ([u98], i 0),
  ([u99], i 0),
  ([u101], i 0),
  ([u100], i 0)]
set_option maxRecDepth 100000 in
theorem rows18_3_ok : rows18_3.all (rowRun Tryz.prog c10 3000 18) = true := by kernel_rfl
abbrev u103 : AV := .agg [i 5, i 0, u4, .lst [i 1], .lst [], .lst []]
abbrev u104 : AV := .agg [i 5, i 0, u5, .lst [i 1], .lst [], .lst []]
abbrev u105 : AV := .agg [i 5, i 0, u6, .lst [i 1], .lst [], .lst []]
abbrev u106 : AV := .agg [i 6, i 0, .sc (.string ⟨⟨[]⟩⟩), .lst [], .lst [u103, .agg [i 6, i 0, .sc (.string ⟨⟨[]⟩⟩), .lst [], .lst [.agg [i 6, i 0, .sc (.string ⟨⟨[]⟩⟩), .lst [], .lst [u104, u83], .lst []]], .lst []], .agg [i 6, i 0, .sc (.string ⟨⟨[]⟩⟩), .lst [], .lst [u105, u83, u99], .lst []], .agg [i 6, i 0, .sc (.string ⟨⟨[]⟩⟩), .lst [], .lst [u105, u99, u104], .lst []]], .lst []]
def rows18_4 : List Row := [
  ([u106], i 0),
  ([u103], i 0),
  ([u104], i 0),
  ([u105], i 0)]
set_option maxRecDepth 100000 in
theorem rows18_4_ok : rows18_4.all (rowRun Tryz.prog c10 3000 18) = true := by kernel_rfl
def rows18 : List Row := rows18_0 ++ rows18_1 ++ rows18_2 ++ rows18_3 ++ rows18_4
theorem rows18_ok : rows18.all (rowRun Tryz.prog c10 3000 18) = true := by
  simp only [rows18, List.all_append, rows18_0_ok, rows18_1_ok, rows18_2_ok, rows18_3_ok, rows18_4_ok, Bool.and_self]
noncomputable def c11 : Cfg := c10.tell 18 (rowH rows18)
theorem told11 : ∀ g h, c11.hook g = some h → ByHand Tryz.prog g h := told_tell told10 (told_row follows_mixed told10 rows18_ok)
def rows160 : List Row := [
  ([u78, u78], .sc (.bool true)),
  ([u78, u79], .sc (.bool false)),
  ([u79, u79], .sc (.bool true)),
  ([u78, u82], .sc (.bool false)),
  ([u79, u82], .sc (.bool false)),
  ([u78, u83], .sc (.bool false)),
  ([u79, u83], .sc (.bool false)),
  ([u78, u88], .sc (.bool false)),
  ([u79, u88], .sc (.bool false)),
  ([u83, u99], .sc (.bool false))]
set_option maxRecDepth 100000 in
theorem rows160_ok : rows160.all (rowRun Tryz.prog c11 3000 160) = true := by kernel_rfl
noncomputable def c12 : Cfg := c11.tell 160 (rowH rows160)
theorem told12 : ∀ g h, c12.hook g = some h → ByHand Tryz.prog g h := told_tell told11 (told_row follows_mixed told11 rows160_ok)
def rows32_0 : List Row := [
  ([u95], i 0)]
set_option maxRecDepth 100000 in
theorem rows32_0_ok : rows32_0.all (rowRun Tryz.prog c12 3000 32) = true := by kernel_rfl
def rows32_1 : List Row := [
  ([u102], i 0)]
set_option maxRecDepth 100000 in
theorem rows32_1_ok : rows32_1.all (rowRun Tryz.prog c12 3000 32) = true := by kernel_rfl
abbrev u107 : AV := .agg [i 1, i 1, .sc (.string ⟨⟨[]⟩⟩), .lst [], .lst [], .lst []]
abbrev u108 : AV := .agg [i 1, i 2, .sc (.string ⟨⟨[]⟩⟩), .lst [], .lst [], .lst []]
abbrev u109 : AV := .agg [i 1, i 3, .sc (.string ⟨⟨[]⟩⟩), .lst [], .lst [], .lst []]
abbrev u110 : AV := .agg [i 5, i 0, u10, .lst [], .lst [], .lst []]
abbrev u111 : AV := .agg [i 5, i 0, u11, .lst [], .lst [], .lst []]
abbrev u112 : AV := .agg [i 6, i 0, .sc (.string ⟨⟨[]⟩⟩), .lst [], .lst [u98, .agg [i 6, i 0, .sc (.string ⟨⟨[]⟩⟩), .lst [], .lst [u107, u108], .lst []], .agg [i 6, i 0, .sc (.string ⟨⟨[]⟩⟩), .lst [], .lst [.agg [i 5, i 0, u8, .lst [], .lst [], .lst []], .agg [i 6, i 0, .sc (.string ⟨⟨[]⟩⟩), .lst [], .lst [u98, .agg [i 6, i 0, .sc (.string ⟨⟨[]⟩⟩), .lst [], .lst [u109], .lst []], .agg [i 6, i 0, .sc (.string ⟨⟨[]⟩⟩), .lst [], .lst [.agg [i 5, i 0, u9, .lst [], .lst [], .lst []], .agg [i 6, i 0, .sc (.string ⟨⟨[]⟩⟩), .lst [], .lst [u110, u107, .agg [i 6, i 0, .sc (.string ⟨⟨[]⟩⟩), .lst [], .lst [u111, u108], .lst []]], .lst []], .agg [i 6, i 0, .sc (.string ⟨⟨[]⟩⟩), .lst [], .lst [u110, u108, .agg [i 6, i 0, .sc (.string ⟨⟨[]⟩⟩), .lst [], .lst [u111, u109], .lst []]], .lst []]], .lst []]], .lst []], .agg [i 6, i 0, .sc (.string ⟨⟨[]⟩⟩), .lst [], .lst [u111, u107], .lst []]], .lst []]], .lst []]
def rows32_2 : List Row := [
  ([u112], i 0)]
set_option maxRecDepth 100000 in
theorem rows32_2_ok : rows32_2.all (rowRun Tryz.prog c12 3000 32) = true := by kernel_rfl
def rows32 : List Row := rows32_0 ++ rows32_1 ++ rows32_2
theorem rows32_ok : rows32.all (rowRun Tryz.prog c12 3000 32) = true := by
  simp only [rows32, List.all_append, rows32_0_ok, rows32_1_ok, rows32_2_ok, Bool.and_self]
noncomputable def c13 : Cfg := c12.tell 32 (rowH rows32)
theorem told13 : ∀ g h, c13.hook g = some h → ByHand Tryz.prog g h := told_tell told12 (told_row follows_mixed told12 rows32_ok)
abbrev u113 : AV := .agg [i 2, i 2, .sc (.string ⟨⟨[]⟩⟩), i 0, i 0, .sc (.string ⟨⟨[]⟩⟩), .lst [], .lst [], .lst [], .lst [], .lst []]
abbrev u114 : AV := .agg [i 4, i 1, .sc (.string ⟨⟨[]⟩⟩), i 0, i 0, .sc (.string ⟨⟨[]⟩⟩), .lst [], .lst [], .lst [], .lst [], .lst [u113]]
abbrev u115 : AV := .agg [i 2, i 3, .sc (.string ⟨⟨[]⟩⟩), i 0, i 0, .sc (.string ⟨⟨[]⟩⟩), .lst [], .lst [], .lst [], .lst [], .lst []]
abbrev u116 : AV := .agg [i 4, i 2, .sc (.string ⟨⟨[]⟩⟩), i 0, i 0, .sc (.string ⟨⟨[]⟩⟩), .lst [], .lst [], .lst [], .lst [], .lst [u115]]
abbrev u117 : AV := .agg [i 9, i 0, .sc (.string ⟨⟨[]⟩⟩), i 0, i 0, .sc (.string ⟨⟨[]⟩⟩), .lst [], .lst [], .lst [], .lst [], .lst [u114, u116]]
abbrev u118 : AV := .agg [i 8, i 0, .sc (.string ⟨⟨[]⟩⟩), i 0, i 0, .sc (.string ⟨⟨[]⟩⟩), .lst [], .lst [], .lst [], .lst [i 3], .lst [u117]]
abbrev u119 : AV := .agg [i 2, i 1, .sc (.string ⟨⟨[]⟩⟩), i 0, i 0, .sc (.string ⟨⟨[]⟩⟩), .lst [], .lst [], .lst [], .lst [], .lst []]
abbrev u120 : AV := .agg [i 10, i 0, .sc (.string ⟨⟨[]⟩⟩), i 0, i 0, .sc (.string ⟨⟨[]⟩⟩), .lst [], .lst [], .lst [], .lst [], .lst [u118, u119]]
abbrev u121 : AV := .agg [i 8, i 0, .sc (.string ⟨⟨[]⟩⟩), i 0, i 0, .sc (.string ⟨⟨[]⟩⟩), .lst [], .lst [], .lst [], .lst [i 1, i 2], .lst [u120]]
def rows64 : List Row := [
  ([u121, .lst []], i 0)]
set_option maxRecDepth 100000 in
theorem rows64_ok : rows64.all (rowRun Tryz.prog c13 3000 64) = true := by kernel_rfl
noncomputable def c14 : Cfg := c13.tell 64 (rowH rows64)
theorem told14 : ∀ g h, c14.hook g = some h → ByHand Tryz.prog g h := told_tell told13 (told_row follows_mixed told13 rows64_ok)
def rows201 : List Row := [
  ([u97], .sc (.bool false)),
  ([u78], .sc (.bool false)),
  ([u79], .sc (.bool false)),
  ([u94], .sc (.bool false)),
  ([u82], .sc (.bool false)),
  ([u87], .sc (.bool false)),
  ([u90], .sc (.bool false)),
  ([u92], .sc (.bool false)),
  ([u85], .sc (.bool false)),
  ([u83], .sc (.bool false)),
  ([u88], .sc (.bool false))]
set_option maxRecDepth 100000 in
theorem rows201_ok : rows201.all (rowRun Tryz.prog c14 3000 201) = true := by kernel_rfl
noncomputable def c15 : Cfg := c14.tell 201 (rowH rows201)
theorem told15 : ∀ g h, c15.hook g = some h → ByHand Tryz.prog g h := told_tell told14 (told_row follows_mixed told14 rows201_ok)
def rows200 : List Row := [
  ([u78], .sc (.bool true)),
  ([u79], .sc (.bool true))]
set_option maxRecDepth 100000 in
theorem rows200_ok : rows200.all (rowRun Tryz.prog c15 3000 200) = true := by kernel_rfl
noncomputable def c16 : Cfg := c15.tell 200 (rowH rows200)
theorem told16 : ∀ g h, c16.hook g = some h → ByHand Tryz.prog g h := told_tell told15 (told_row follows_mixed told15 rows200_ok)
def rows229 : List Row := [
  ([.lst [], .lst []], .sc (.bool true))]
set_option maxRecDepth 100000 in
theorem rows229_ok : rows229.all (rowRun Tryz.prog c16 3000 229) = true := by kernel_rfl
noncomputable def c17 : Cfg := c16.tell 229 (rowH rows229)
theorem told17 : ∀ g h, c17.hook g = some h → ByHand Tryz.prog g h := told_tell told16 (told_row follows_mixed told16 rows229_ok)
abbrev u122 : AV := .agg [i 5, i 0, .sc (.string ⟨⟨[97]⟩⟩), .lst [], .lst [], .lst [], .sc (.bool false)]
abbrev u123 : AV := .agg [i 5, i 0, .sc (.string ⟨⟨[98]⟩⟩), .lst [], .lst [], .lst [], .sc (.bool false)]
abbrev u124 : AV := .agg [i 5, i 0, u5, .lst [], .lst [], .lst [], .sc (.bool false)]
abbrev u125 : AV := .agg [i 5, i 0, u6, .lst [], .lst [], .lst [], .sc (.bool false)]
def rows213 : List Row := [
  ([u96], .tup [.lst [u122, u123], .sc (.bool true)]),
  ([.lst []], .tup [.lst [], .sc (.bool true)]),
  ([u93], .tup [.lst [.agg [i 5, i 0, u4, .lst [], .lst [], .lst [], .sc (.bool false)], .agg [i 6, i 0, .sc (.string ⟨⟨[]⟩⟩), .lst [], u86, .lst [], .sc (.bool false)], .agg [i 6, i 0, .sc (.string ⟨⟨[]⟩⟩), .lst [], u89, .lst [], .sc (.bool false)], .agg [i 6, i 0, .sc (.string ⟨⟨[]⟩⟩), .lst [], u91, .lst [], .sc (.bool false)]], .sc (.bool true)]),
  ([u86], .tup [.lst [.agg [i 6, i 0, .sc (.string ⟨⟨[]⟩⟩), .lst [], u84, .lst [], .sc (.bool false)]], .sc (.bool true)]),
  ([u84], .tup [.lst [u124, u122], .sc (.bool true)]),
  ([u89], .tup [.lst [u125, u122, u123], .sc (.bool true)]),
  ([u91], .tup [.lst [u125, u123, u124], .sc (.bool true)])]
set_option maxRecDepth 100000 in
theorem rows213_ok : rows213.all (rowRun Tryz.prog c17 3000 213) = true := by kernel_rfl
noncomputable def c18 : Cfg := c17.tell 213 (rowH rows213)
theorem told18 : ∀ g h, c18.hook g = some h → ByHand Tryz.prog g h := told_tell told17 (told_row follows_mixed told17 rows213_ok)
abbrev u126 : AV := .lst [.agg [i 5, i 0, .sc (.string ⟨⟨[97]⟩⟩), .lst [], .lst [], .lst [], i 0, i 0, i 0, .sc (.string ⟨⟨[]⟩⟩), .lst [], .lst [], .lst [], .lst []], .agg [i 5, i 0, .sc (.string ⟨⟨[98]⟩⟩), .lst [], .lst [], .lst [], i 0, i 0, i 0, .sc (.string ⟨⟨[]⟩⟩), .lst [], .lst [], .lst [], .lst []]]
abbrev u127 : AV := .lst [.agg [i 5, i 0, .sc (.string ⟨⟨[97]⟩⟩), .lst [], .lst [], .lst [], i 0, i 5, i 0, u5, .lst [], .lst [], .lst [], .lst []], .agg [i 5, i 0, .sc (.string ⟨⟨[98]⟩⟩), .lst [], .lst [], .lst [], i 0, i 5, i 0, .sc (.string ⟨⟨[120]⟩⟩), .lst [], .lst [], .lst [], .lst []]]
def rows205 : List Row := [
  ([u126, u78], i 0),
  ([u126, u79], i 1),
  ([u126, u94], i (-1)),
  ([u126, u82], i (-1)),
  ([u126, u87], i (-1)),
  ([u126, u85], i (-1)),
  ([u126, u83], i (-1)),
  ([u126, u90], i (-1)),
  ([u126, u88], i (-1)),
  ([u126, u92], i (-1)),
  ([u127, u94], i (-1)),
  ([u127, u82], i (-1)),
  ([u127, u87], i (-1)),
  ([u127, u85], i (-1)),
  ([u127, u83], i (-1)),
  ([u127, u78], i 0),
  ([u127, u90], i (-1)),
  ([u127, u88], i (-1)),
  ([u127, u79], i 1),
  ([u127, u92], i (-1))]
set_option maxRecDepth 100000 in
theorem rows205_ok : rows205.all (rowRun Tryz.prog c18 3000 205) = true := by kernel_rfl
noncomputable def c19 : Cfg := c18.tell 205 (rowH rows205)
theorem told19 : ∀ g h, c19.hook g = some h → ByHand Tryz.prog g h := told_tell told18 (told_row follows_mixed told18 rows205_ok)
def rows206 : List Row := [
  ([u82, u126, i 0], .sc (.bool true)),
  ([u83, u126, i 0], .sc (.bool true)),
  ([u78, u126, i 0], .sc (.bool true)),
  ([u85, u126, i 0], .sc (.bool true)),
  ([u87, u126, i 0], .sc (.bool true)),
  ([u88, u126, i 0], .sc (.bool true)),
  ([u79, u126, i 0], .sc (.bool true)),
  ([u90, u126, i 0], .sc (.bool true)),
  ([u92, u126, i 0], .sc (.bool true)),
  ([u94, u126, i 0], .sc (.bool true)),
  ([u82, u127, i 0], .sc (.bool true)),
  ([u83, u127, i 0], .sc (.bool true)),
  ([u78, u127, i 0], .sc (.bool true)),
  ([u85, u127, i 0], .sc (.bool true)),
  ([u87, u127, i 0], .sc (.bool true)),
  ([u88, u127, i 0], .sc (.bool true)),
  ([u79, u127, i 0], .sc (.bool true)),
  ([u90, u127, i 0], .sc (.bool true)),
  ([u92, u127, i 0], .sc (.bool true)),
  ([u94, u127, i 0], .sc (.bool true))]
set_option maxRecDepth 100000 in
theorem rows206_ok : rows206.all (rowRun Tryz.prog c19 3000 206) = true := by kernel_rfl
noncomputable def c20 : Cfg := c19.tell 206 (rowH rows206)
theorem told20 : ∀ g h, c20.hook g = some h → ByHand Tryz.prog g h := told_tell told19 (told_row follows_mixed told19 rows206_ok)
def rows203 : List Row := [
  ([u78, .sc (.bool true)], .sc (.bool true)),
  ([u79, .sc (.bool true)], .sc (.bool true)),
  ([u97, .sc (.bool true)], .sc (.bool true)),
  ([u82, .sc (.bool false)], .sc (.bool true)),
  ([u83, .sc (.bool false)], .sc (.bool true)),
  ([u78, .sc (.bool false)], .sc (.bool true)),
  ([u85, .sc (.bool false)], .sc (.bool true)),
  ([u87, .sc (.bool false)], .sc (.bool true)),
  ([u88, .sc (.bool false)], .sc (.bool true)),
  ([u79, .sc (.bool false)], .sc (.bool true)),
  ([u90, .sc (.bool false)], .sc (.bool true)),
  ([u92, .sc (.bool false)], .sc (.bool true)),
  ([u94, .sc (.bool false)], .sc (.bool true))]
set_option maxRecDepth 100000 in
theorem rows203_ok : rows203.all (rowRun Tryz.prog c20 3000 203) = true := by kernel_rfl
noncomputable def c21 : Cfg := c20.tell 203 (rowH rows203)
theorem told21 : ∀ g h, c21.hook g = some h → ByHand Tryz.prog g h := told_tell told20 (told_row follows_mixed told20 rows203_ok)
def rows163 : List Row := [
  ([u94, u126], i 0),
  ([u94, u127], i 0)]
set_option maxRecDepth 100000 in
theorem rows163_ok : rows163.all (rowRun Tryz.prog c21 3000 163) = true := by kernel_rfl
noncomputable def c22 : Cfg := c21.tell 163 (rowH rows163)
theorem told22 : ∀ g h, c22.hook g = some h → ByHand Tryz.prog g h := told_tell told21 (told_row follows_mixed told21 rows163_ok)
def rows162 : List Row := [
  ([.lst [], u97], .tup [u126, i 0])]
set_option maxRecDepth 100000 in
theorem rows162_ok : rows162.all (rowRun Tryz.prog c22 3000 162) = true := by kernel_rfl
noncomputable def c23 : Cfg := c22.tell 162 (rowH rows162)
theorem told23 : ∀ g h, c23.hook g = some h → ByHand Tryz.prog g h := told_tell told22 (told_row follows_mixed told22 rows162_ok)
def rows113 : List Row := [
  ([.lst [], .agg [i 6, i 0, .sc (.string ⟨⟨[]⟩⟩), .lst [], u80, .lst [], i 6, i 0, .sc (.string ⟨⟨[]⟩⟩), .lst [], u93, .lst []]], i 0)]
set_option maxRecDepth 100000 in
theorem rows113_ok : rows113.all (rowRun Tryz.prog c23 3000 113) = true := by kernel_rfl
noncomputable def c24 : Cfg := c23.tell 113 (rowH rows113)
theorem told24 : ∀ g h, c24.hook g = some h → ByHand Tryz.prog g h := told_tell told23 (told_row follows_mixed told23 rows113_ok)
def rows21 : List Row := [
  ([.agg [i 1, i 0, .sc (.string ⟨⟨[]⟩⟩), i 2, i 0, .sc (.string ⟨⟨[]⟩⟩), .lst [], .lst [], .lst [], .lst [], .lst []], .lst []], i 0),
  ([u121, .lst []], i 0)]
end Go.Proofs.YtpagdpaiienjcaaGreatDoor
