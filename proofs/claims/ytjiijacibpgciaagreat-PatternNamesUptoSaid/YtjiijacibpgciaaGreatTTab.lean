import Derived.Test.YtjiijacibpgciaaGreatRows
import Derived.ProofKit
import Derived.Test.YtjiijacibpgciaaGreatVT
/- PatternNames: whether a row is built: a closed run, told by tables. -/
set_option linter.unusedSimpArgs false
set_option linter.unusedVariables false
set_option linter.unusedSectionVars false
namespace Go.Proofs.YtjiijacibpgciaaGreat
open Go.V

theorem follows_mixed : Tryz.prog.follows .mixedOrders = true := by kernel_rfl
theorem cl37 : CloneAt Tryz.prog 37 := ⟨fun m => by kernel_rfl, fun m => ⟨1, false, by kernel_rfl⟩⟩
theorem cl53 : CloneAt Tryz.prog 53 := ⟨fun m => by kernel_rfl, fun m => ⟨14, true, by kernel_rfl⟩⟩
theorem told_clone {f : FuncId} (h : CloneAt Tryz.prog f) : ByHand Tryz.prog f (cloneH Tryz.prog f) := ⟨fun B W args m v m' e2 hv => cloneH_sound follows_mixed h e2 hv, fun args m v m' e2 => cloneH_ver (W := default) e2⟩
/-- Whose arguments and results are lists. -/
def ents : List Nat := [58, 24, 11, 21, 9, 81, 38]
/-- Closed runs. -/
noncomputable def ck : Cfg := ⟨fun f => !(ents.contains f), fun f => !(ents.contains f), fun f => if f == 37 || f == 53 then some (cloneH Tryz.prog f) else none, fun f => if ents.contains f then 1 else 0⟩
theorem told_ck (f : FuncId) (h : List AV → Mem → Option (AV × Mem)) (e : ck.hook f = some h) : ByHand Tryz.prog f h := by
  unfold ck at e
  dsimp only at e
  split at e
  · rename_i hc
    cases e
    have : f = 37 ∨ f = 53 := by simpa [or_assoc] using hc
    rcases this with rfl | rfl
    · exact told_clone cl37
    · exact told_clone cl53
  · cases e
abbrev i (n : Int) : AV := .sc (.int .i64 n)
def rows91 : List Row := [
  ([.sc (.int .u8 95)], .sc (.bool true)),
  ([.sc (.int .u8 97)], .sc (.bool true)),
  ([.sc (.int .u8 98)], .sc (.bool true)),
  ([.sc (.int .u8 105)], .sc (.bool true)),
  ([.sc (.int .u8 102)], .sc (.bool true)),
  ([.sc (.int .u8 111)], .sc (.bool true)),
  ([.sc (.int .u8 114)], .sc (.bool true))]
set_option maxRecDepth 100000 in
theorem rows91_ok : rows91.all (rowRun Tryz.prog ck 3000 91) = true := by kernel_rfl
noncomputable def c1 : Cfg := ck.tell 91 (rowH rows91)
theorem told1 : ∀ g h, c1.hook g = some h → ByHand Tryz.prog g h := told_tell told_ck (told_row follows_mixed told_ck rows91_ok)
def rows92 : List Row := [
  ([.sc (.int .u8 95), .sc (.string ⟨⟨[33, 36, 37, 38, 42, 47, 58, 60, 61, 62, 63, 94, 95, 126]⟩⟩)], .sc (.bool true))]
set_option maxRecDepth 100000 in
theorem rows92_ok : rows92.all (rowRun Tryz.prog c1 3000 92) = true := by kernel_rfl
noncomputable def c2 : Cfg := c1.tell 92 (rowH rows92)
theorem told2 : ∀ g h, c2.hook g = some h → ByHand Tryz.prog g h := told_tell told1 (told_row follows_mixed told1 rows92_ok)
abbrev u0 : AV := .sc (.string ⟨⟨[46, 46, 46]⟩⟩)
abbrev u1 : AV := .sc (.string ⟨⟨[105, 102]⟩⟩)
abbrev u2 : AV := .sc (.string ⟨⟨[111, 114]⟩⟩)
def rows78 : List Row := [
  ([.sc (.string ⟨⟨[95]⟩⟩)], .sc (.bool true)),
  ([.sc (.string ⟨⟨[97]⟩⟩)], .sc (.bool true)),
  ([.sc (.string ⟨⟨[98]⟩⟩)], .sc (.bool true)),
  ([u0], .sc (.bool true)),
  ([u1], .sc (.bool true)),
  ([u2], .sc (.bool true))]
set_option maxRecDepth 100000 in
theorem rows78_ok : rows78.all (rowRun Tryz.prog c2 3000 78) = true := by kernel_rfl
noncomputable def c3 : Cfg := c2.tell 78 (rowH rows78)
theorem told3 : ∀ g h, c3.hook g = some h → ByHand Tryz.prog g h := told_tell told2 (told_row follows_mixed told2 rows78_ok)
def rows75 : List Row := [
  ([.sc (.string ⟨⟨[95]⟩⟩)], .sc (.bool true)),
  ([.sc (.string ⟨⟨[97]⟩⟩)], .sc (.bool true)),
  ([.sc (.string ⟨⟨[98]⟩⟩)], .sc (.bool true)),
  ([u0], .sc (.bool true)),
  ([u1], .sc (.bool true)),
  ([u2], .sc (.bool true))]
set_option maxRecDepth 100000 in
theorem rows75_ok : rows75.all (rowRun Tryz.prog c3 3000 75) = true := by kernel_rfl
noncomputable def c4 : Cfg := c3.tell 75 (rowH rows75)
theorem told4 : ∀ g h, c4.hook g = some h → ByHand Tryz.prog g h := told_tell told3 (told_row follows_mixed told3 rows75_ok)
def rows79 : List Row := [
  ([.sc (.int .u8 40)], .sc (.bool false)),
  ([.sc (.int .u8 95)], .sc (.bool false)),
  ([.sc (.int .u8 32)], .sc (.bool true)),
  ([.sc (.int .u8 97)], .sc (.bool false)),
  ([.sc (.int .u8 98)], .sc (.bool false)),
  ([.sc (.int .u8 46)], .sc (.bool false)),
  ([.sc (.int .u8 41)], .sc (.bool false)),
  ([.sc (.int .u8 105)], .sc (.bool false)),
  ([.sc (.int .u8 102)], .sc (.bool false)),
  ([.sc (.int .u8 111)], .sc (.bool false)),
  ([.sc (.int .u8 114)], .sc (.bool false)),
  ([.sc (.int .u8 49)], .sc (.bool false)),
  ([.sc (.int .u8 50)], .sc (.bool false)),
  ([.sc (.int .u8 51)], .sc (.bool false))]
set_option maxRecDepth 100000 in
theorem rows79_ok : rows79.all (rowRun Tryz.prog c4 3000 79) = true := by kernel_rfl
noncomputable def c5 : Cfg := c4.tell 79 (rowH rows79)
theorem told5 : ∀ g h, c5.hook g = some h → ByHand Tryz.prog g h := told_tell told4 (told_row follows_mixed told4 rows79_ok)
abbrev u3 : AV := .sc (.string ⟨⟨[40, 95, 32, 97, 32, 98, 32, 46, 46, 46, 41]⟩⟩)
abbrev u4 : AV := .sc (.string ⟨⟨[40, 105, 102, 32, 97, 32, 97, 32, 40, 111, 114, 32, 98, 32, 46, 46, 46, 41, 41]⟩⟩)
abbrev u5 : AV := .sc (.string ⟨⟨[40, 111, 114, 32, 49, 32, 50, 32, 51, 41]⟩⟩)
abbrev u6 : AV := .sc (.string ⟨⟨[40, 105, 102, 32, 49, 32, 49, 32, 40, 111, 114, 32, 50, 32, 51, 41, 41]⟩⟩)
def rows80 : List Row := [
  ([u3, i 0], .tup [i 0, i 0]),
  ([u3, i 1], .tup [i 1, i 0]),
  ([u3, i 2], .tup [i 3, i 0]),
  ([u3, i 4], .tup [i 5, i 0]),
  ([u3, i 6], .tup [i 7, i 0]),
  ([u3, i 10], .tup [i 10, i 0]),
  ([u3, i 11], .tup [i 11, i 0]),
  ([u4, i 0], .tup [i 0, i 0]),
  ([u4, i 1], .tup [i 1, i 0]),
  ([u4, i 3], .tup [i 4, i 0]),
  ([u4, i 5], .tup [i 6, i 0]),
  ([u4, i 7], .tup [i 8, i 0]),
  ([u4, i 9], .tup [i 9, i 0]),
  ([u4, i 11], .tup [i 12, i 0]),
  ([u4, i 13], .tup [i 14, i 0]),
  ([u4, i 17], .tup [i 17, i 0]),
  ([u4, i 18], .tup [i 18, i 0]),
  ([u4, i 19], .tup [i 19, i 0]),
  ([u5, i 0], .tup [i 0, i 0]),
  ([u5, i 1], .tup [i 1, i 0]),
  ([u5, i 3], .tup [i 4, i 0]),
  ([u5, i 5], .tup [i 6, i 0]),
  ([u5, i 7], .tup [i 8, i 0]),
  ([u5, i 9], .tup [i 9, i 0]),
  ([u5, i 10], .tup [i 10, i 0]),
  ([u6, i 0], .tup [i 0, i 0]),
  ([u6, i 1], .tup [i 1, i 0]),
  ([u6, i 3], .tup [i 4, i 0]),
  ([u6, i 5], .tup [i 6, i 0]),
  ([u6, i 7], .tup [i 8, i 0]),
  ([u6, i 9], .tup [i 9, i 0]),
  ([u6, i 11], .tup [i 12, i 0]),
  ([u6, i 13], .tup [i 14, i 0]),
  ([u6, i 15], .tup [i 15, i 0]),
  ([u6, i 16], .tup [i 16, i 0]),
  ([u6, i 17], .tup [i 17, i 0])]
set_option maxRecDepth 100000 in
theorem rows80_ok : rows80.all (rowRun Tryz.prog c5 3000 80) = true := by kernel_rfl
noncomputable def c6 : Cfg := c5.tell 80 (rowH rows80)
theorem told6 : ∀ g h, c6.hook g = some h → ByHand Tryz.prog g h := told_tell told5 (told_row follows_mixed told5 rows80_ok)
def rows102 : List Row := [
  ([.sc (.int .u8 95)], .sc (.bool false)),
  ([.sc (.int .u8 97)], .sc (.bool false)),
  ([.sc (.int .u8 98)], .sc (.bool false)),
  ([.sc (.int .u8 46)], .sc (.bool false)),
  ([.sc (.int .u8 105)], .sc (.bool false)),
  ([.sc (.int .u8 111)], .sc (.bool false)),
  ([.sc (.int .u8 49)], .sc (.bool true)),
  ([.sc (.int .u8 50)], .sc (.bool true)),
  ([.sc (.int .u8 51)], .sc (.bool true))]
set_option maxRecDepth 100000 in
theorem rows102_ok : rows102.all (rowRun Tryz.prog c6 3000 102) = true := by kernel_rfl
noncomputable def c7 : Cfg := c6.tell 102 (rowH rows102)
theorem told7 : ∀ g h, c7.hook g = some h → ByHand Tryz.prog g h := told_tell told6 (told_row follows_mixed told6 rows102_ok)
def rows104 : List Row := [
  ([u3, i 1], .sc (.bool false)),
  ([u3, i 2], .sc (.bool true)),
  ([u3, i 3], .sc (.bool false)),
  ([u3, i 4], .sc (.bool true)),
  ([u3, i 5], .sc (.bool false)),
  ([u3, i 6], .sc (.bool true)),
  ([u3, i 7], .sc (.bool false)),
  ([u3, i 8], .sc (.bool false)),
  ([u3, i 9], .sc (.bool false)),
  ([u3, i 10], .sc (.bool true)),
  ([u4, i 1], .sc (.bool false)),
  ([u4, i 2], .sc (.bool false)),
  ([u4, i 3], .sc (.bool true)),
  ([u4, i 4], .sc (.bool false)),
  ([u4, i 5], .sc (.bool true)),
  ([u4, i 6], .sc (.bool false)),
  ([u4, i 7], .sc (.bool true)),
  ([u4, i 9], .sc (.bool false)),
  ([u4, i 10], .sc (.bool false)),
  ([u4, i 11], .sc (.bool true)),
  ([u4, i 12], .sc (.bool false)),
  ([u4, i 13], .sc (.bool true)),
  ([u4, i 14], .sc (.bool false)),
  ([u4, i 15], .sc (.bool false)),
  ([u4, i 16], .sc (.bool false)),
  ([u4, i 17], .sc (.bool true)),
  ([u5, i 1], .sc (.bool false)),
  ([u5, i 2], .sc (.bool false)),
  ([u5, i 3], .sc (.bool true)),
  ([u5, i 4], .sc (.bool false)),
  ([u5, i 5], .sc (.bool true)),
  ([u5, i 6], .sc (.bool false)),
  ([u5, i 7], .sc (.bool true)),
  ([u5, i 8], .sc (.bool false)),
  ([u5, i 9], .sc (.bool true)),
  ([u6, i 1], .sc (.bool false)),
  ([u6, i 2], .sc (.bool false)),
  ([u6, i 3], .sc (.bool true)),
  ([u6, i 4], .sc (.bool false)),
  ([u6, i 5], .sc (.bool true)),
  ([u6, i 6], .sc (.bool false)),
  ([u6, i 7], .sc (.bool true)),
  ([u6, i 9], .sc (.bool false)),
  ([u6, i 10], .sc (.bool false)),
  ([u6, i 11], .sc (.bool true)),
  ([u6, i 12], .sc (.bool false)),
  ([u6, i 13], .sc (.bool true)),
  ([u6, i 14], .sc (.bool false)),
  ([u6, i 15], .sc (.bool true))]
set_option maxRecDepth 100000 in
theorem rows104_ok : rows104.all (rowRun Tryz.prog c7 3000 104) = true := by kernel_rfl
noncomputable def c8 : Cfg := c7.tell 104 (rowH rows104)
theorem told8 : ∀ g h, c8.hook g = some h → ByHand Tryz.prog g h := told_tell told7 (told_row follows_mixed told7 rows104_ok)
abbrev u7 : AV := .tup [.agg [i 13, i 1, i 2, i 0, .sc (.string ⟨⟨[95]⟩⟩)], i 0]
abbrev u8 : AV := .tup [.agg [i 13, i 3, i 4, i 0, .sc (.string ⟨⟨[97]⟩⟩)], i 0]
abbrev u9 : AV := .tup [.agg [i 13, i 5, i 6, i 0, .sc (.string ⟨⟨[98]⟩⟩)], i 0]
abbrev u10 : AV := .tup [.agg [i 13, i 7, i 10, i 0, u0], i 0]
abbrev u11 : AV := .tup [.agg [i 13, i 1, i 3, i 0, u1], i 0]
abbrev u12 : AV := .tup [.agg [i 13, i 4, i 5, i 0, .sc (.string ⟨⟨[97]⟩⟩)], i 0]
abbrev u13 : AV := .tup [.agg [i 13, i 6, i 7, i 0, .sc (.string ⟨⟨[97]⟩⟩)], i 0]
abbrev u14 : AV := .tup [.agg [i 13, i 9, i 11, i 0, u2], i 0]
abbrev u15 : AV := .tup [.agg [i 13, i 12, i 13, i 0, .sc (.string ⟨⟨[98]⟩⟩)], i 0]
abbrev u16 : AV := .tup [.agg [i 13, i 14, i 17, i 0, u0], i 0]
abbrev u17 : AV := .tup [.agg [i 13, i 1, i 3, i 0, u2], i 0]
abbrev u18 : AV := .tup [.agg [i 9, i 12, i 13, i 2, .sc (.string ⟨⟨[]⟩⟩)], i 0]
abbrev u19 : AV := .tup [.agg [i 9, i 14, i 15, i 3, .sc (.string ⟨⟨[]⟩⟩)], i 0]
def rows95 : List Row := [
  ([u3, i 1], u7),
  ([u3, i 3], u8),
  ([u3, i 5], u9),
  ([u3, i 7], u10),
  ([u4, i 1], u11),
  ([u4, i 4], u12),
  ([u4, i 6], u13),
  ([u4, i 9], u14),
  ([u4, i 12], u15),
  ([u4, i 14], u16),
  ([u5, i 1], u17),
  ([u5, i 4], .tup [.agg [i 9, i 4, i 5, i 1, .sc (.string ⟨⟨[]⟩⟩)], i 0]),
  ([u5, i 6], .tup [.agg [i 9, i 6, i 7, i 2, .sc (.string ⟨⟨[]⟩⟩)], i 0]),
  ([u5, i 8], .tup [.agg [i 9, i 8, i 9, i 3, .sc (.string ⟨⟨[]⟩⟩)], i 0]),
  ([u6, i 1], u11),
  ([u6, i 4], .tup [.agg [i 9, i 4, i 5, i 1, .sc (.string ⟨⟨[]⟩⟩)], i 0]),
  ([u6, i 6], .tup [.agg [i 9, i 6, i 7, i 1, .sc (.string ⟨⟨[]⟩⟩)], i 0]),
  ([u6, i 9], u14),
  ([u6, i 12], u18),
  ([u6, i 14], u19)]
set_option maxRecDepth 100000 in
theorem rows95_ok : rows95.all (rowRun Tryz.prog c8 3000 95) = true := by kernel_rfl
noncomputable def c9 : Cfg := c8.tell 95 (rowH rows95)
theorem told9 : ∀ g h, c9.hook g = some h → ByHand Tryz.prog g h := told_tell told8 (told_row follows_mixed told8 rows95_ok)
def rows81 : List Row := [
  ([u3, i 0], .tup [.agg [i 1, i 0, i 1, i 0, .sc (.string ⟨⟨[]⟩⟩)], i 0]),
  ([u3, i 1], u7),
  ([u3, i 3], u8),
  ([u3, i 5], u9),
  ([u3, i 7], u10),
  ([u3, i 10], .tup [.agg [i 2, i 10, i 11, i 0, .sc (.string ⟨⟨[]⟩⟩)], i 0]),
  ([u4, i 0], .tup [.agg [i 1, i 0, i 1, i 0, .sc (.string ⟨⟨[]⟩⟩)], i 0]),
  ([u4, i 1], u11),
  ([u4, i 4], u12),
  ([u4, i 6], u13),
  ([u4, i 8], .tup [.agg [i 1, i 8, i 9, i 0, .sc (.string ⟨⟨[]⟩⟩)], i 0]),
  ([u4, i 9], u14),
  ([u4, i 12], u15),
  ([u4, i 14], u16),
  ([u4, i 17], .tup [.agg [i 2, i 17, i 18, i 0, .sc (.string ⟨⟨[]⟩⟩)], i 0]),
  ([u4, i 18], .tup [.agg [i 2, i 18, i 19, i 0, .sc (.string ⟨⟨[]⟩⟩)], i 0]),
  ([u5, i 0], .tup [.agg [i 1, i 0, i 1, i 0, .sc (.string ⟨⟨[]⟩⟩)], i 0]),
  ([u5, i 1], u17),
  ([u5, i 4], .tup [.agg [i 9, i 4, i 5, i 1, .sc (.string ⟨⟨[]⟩⟩)], i 0]),
  ([u5, i 6], .tup [.agg [i 9, i 6, i 7, i 2, .sc (.string ⟨⟨[]⟩⟩)], i 0]),
  ([u5, i 8], .tup [.agg [i 9, i 8, i 9, i 3, .sc (.string ⟨⟨[]⟩⟩)], i 0]),
  ([u5, i 9], .tup [.agg [i 2, i 9, i 10, i 0, .sc (.string ⟨⟨[]⟩⟩)], i 0]),
  ([u6, i 0], .tup [.agg [i 1, i 0, i 1, i 0, .sc (.string ⟨⟨[]⟩⟩)], i 0]),
  ([u6, i 1], u11),
  ([u6, i 4], .tup [.agg [i 9, i 4, i 5, i 1, .sc (.string ⟨⟨[]⟩⟩)], i 0]),
  ([u6, i 6], .tup [.agg [i 9, i 6, i 7, i 1, .sc (.string ⟨⟨[]⟩⟩)], i 0]),
  ([u6, i 8], .tup [.agg [i 1, i 8, i 9, i 0, .sc (.string ⟨⟨[]⟩⟩)], i 0]),
  ([u6, i 9], u14),
  ([u6, i 12], u18),
  ([u6, i 14], u19),
  ([u6, i 15], .tup [.agg [i 2, i 15, i 16, i 0, .sc (.string ⟨⟨[]⟩⟩)], i 0]),
  ([u6, i 16], .tup [.agg [i 2, i 16, i 17, i 0, .sc (.string ⟨⟨[]⟩⟩)], i 0])]
set_option maxRecDepth 100000 in
theorem rows81_ok : rows81.all (rowRun Tryz.prog c9 3000 81) = true := by kernel_rfl
noncomputable def c10 : Cfg := c9.tell 81 (rowH rows81)
theorem told10 : ∀ g h, c10.hook g = some h → ByHand Tryz.prog g h := told_tell told9 (told_row follows_mixed told9 rows81_ok)
abbrev u20 : AV := .agg [i 5, i 0, .sc (.string ⟨⟨[97]⟩⟩), .lst [], .lst [], .lst []]
abbrev u21 : AV := .agg [i 5, i 0, .sc (.string ⟨⟨[98]⟩⟩), .lst [], .lst [], .lst []]
abbrev u22 : AV := .agg [i 5, i 0, u0, .lst [], .lst [], .lst []]
abbrev u23 : AV := .agg [i 6, i 0, .sc (.string ⟨⟨[]⟩⟩), .lst [], .lst [.agg [i 5, i 0, .sc (.string ⟨⟨[95]⟩⟩), .lst [], .lst [], .lst []], u20, u21, u22], .lst []]
abbrev u24 : AV := .lst [u20, u21, u22]
abbrev u25 : AV := .agg [i 6, i 0, .sc (.string ⟨⟨[]⟩⟩), .lst [], u24, .lst []]
abbrev u26 : AV := .agg [i 5, i 0, u1, .lst [], .lst [], .lst []]
abbrev u27 : AV := .agg [i 5, i 0, u2, .lst [], .lst [], .lst []]
abbrev u28 : AV := .lst [u27, u21, u22]
abbrev u29 : AV := .agg [i 6, i 0, .sc (.string ⟨⟨[]⟩⟩), .lst [], u28, .lst []]
abbrev u30 : AV := .lst [u26, u20, u20, u29]
abbrev u31 : AV := .agg [i 6, i 0, .sc (.string ⟨⟨[]⟩⟩), .lst [], u30, .lst []]
def rows20_0 : List Row := [
  ([u23], i 0),
  ([u25], i 0),
  ([u20], i 0),
  ([u21], i 0),
  ([u31], i 0),
  ([u26], i 0),
  ([u27], i 0)]
set_option maxRecDepth 100000 in
theorem rows20_0_ok : rows20_0.all (rowRun Tryz.prog c10 3000 20) = true := by kernel_rfl
abbrev u32 : AV := .agg [i 1, i 1, .sc (.string ⟨⟨[]⟩⟩), .lst [], .lst [], .lst []]
abbrev u33 : AV := .agg [i 1, i 2, .sc (.string ⟨⟨[]⟩⟩), .lst [], .lst [], .lst []]
abbrev u34 : AV := .agg [i 1, i 3, .sc (.string ⟨⟨[]⟩⟩), .lst [], .lst [], .lst []]
abbrev u35 : AV := .agg [i 6, i 0, .sc (.string ⟨⟨[]⟩⟩), .lst [], .lst [u27, u32, u33, u34], .lst []]
abbrev u36 : AV := .agg [i 6, i 0, .sc (.string ⟨⟨[]⟩⟩), .lst [], .lst [u27, u33, u34], .lst []]
abbrev u37 : AV := .agg [i 6, i 0, .sc (.string ⟨⟨[]⟩⟩), .lst [], .lst [u26, u32, u32, u36], .lst []]
def rows20_1 : List Row := [
  ([u35], i 0),
  ([.agg [i 6, i 0, .sc (.string ⟨⟨[]⟩⟩), .lst [], .lst [u32, u33, u34], .lst []]], i 0),
  ([u32], i 0),
  ([u33], i 0),
  ([u34], i 0),
  ([u37], i 0)]
set_option maxRecDepth 100000 in
theorem rows20_1_ok : rows20_1.all (rowRun Tryz.prog c10 3000 20) = true := by kernel_rfl
def rows20 : List Row := rows20_0 ++ rows20_1
theorem rows20_ok : rows20.all (rowRun Tryz.prog c10 3000 20) = true := by
  simp only [rows20, List.all_append, rows20_0_ok, rows20_1_ok, Bool.and_self]
noncomputable def c11 : Cfg := c10.tell 20 (rowH rows20)
theorem told11 : ∀ g h, c11.hook g = some h → ByHand Tryz.prog g h := told_tell told10 (told_row follows_mixed told10 rows20_ok)
def rows30 : List Row := [
  ([u20, u20], .sc (.bool true)),
  ([u20, u21], .sc (.bool false)),
  ([u21, u21], .sc (.bool true)),
  ([u20, u26], .sc (.bool false)),
  ([u21, u26], .sc (.bool false)),
  ([u20, u27], .sc (.bool false)),
  ([u21, u27], .sc (.bool false))]
set_option maxRecDepth 100000 in
theorem rows30_ok : rows30.all (rowRun Tryz.prog c11 3000 30) = true := by kernel_rfl
noncomputable def c12 : Cfg := c11.tell 30 (rowH rows30)
theorem told12 : ∀ g h, c12.hook g = some h → ByHand Tryz.prog g h := told_tell told11 (told_row follows_mixed told11 rows30_ok)
def rows60 : List Row := [
  ([u23], i 0),
  ([u31], i 0),
  ([u35], i 0),
  ([u37], i 0)]
set_option maxRecDepth 100000 in
theorem rows60_ok : rows60.all (rowRun Tryz.prog c12 3000 60) = true := by kernel_rfl
noncomputable def c13 : Cfg := c12.tell 60 (rowH rows60)
theorem told13 : ∀ g h, c13.hook g = some h → ByHand Tryz.prog g h := told_tell told12 (told_row follows_mixed told12 rows60_ok)
def rows29 : List Row := [
  ([u25], .sc (.bool false)),
  ([u20], .sc (.bool false)),
  ([u21], .sc (.bool false)),
  ([u22], .sc (.bool true)),
  ([u31], .sc (.bool false)),
  ([u26], .sc (.bool false)),
  ([u29], .sc (.bool false)),
  ([u27], .sc (.bool false))]
set_option maxRecDepth 100000 in
theorem rows29_ok : rows29.all (rowRun Tryz.prog c13 3000 29) = true := by kernel_rfl
noncomputable def c14 : Cfg := c13.tell 29 (rowH rows29)
theorem told14 : ∀ g h, c14.hook g = some h → ByHand Tryz.prog g h := told_tell told13 (told_row follows_mixed told13 rows29_ok)
def rows28 : List Row := [
  ([u20], .sc (.bool true)),
  ([u21], .sc (.bool true))]
set_option maxRecDepth 100000 in
theorem rows28_ok : rows28.all (rowRun Tryz.prog c14 3000 28) = true := by kernel_rfl
noncomputable def c15 : Cfg := c14.tell 28 (rowH rows28)
theorem told15 : ∀ g h, c15.hook g = some h → ByHand Tryz.prog g h := told_tell told14 (told_row follows_mixed told14 rows28_ok)
abbrev u38 : AV := .agg [i 5, i 0, .sc (.string ⟨⟨[97]⟩⟩), .lst [], .lst [], .lst [], .sc (.bool false)]
abbrev u39 : AV := .agg [i 5, i 0, .sc (.string ⟨⟨[98]⟩⟩), .lst [], .lst [], .lst [], .sc (.bool true)]
def rows38 : List Row := [
  ([u24], .tup [.lst [u38, u39], .sc (.bool true)]),
  ([.lst []], .tup [.lst [], .sc (.bool true)]),
  ([u30], .tup [.lst [.agg [i 5, i 0, u1, .lst [], .lst [], .lst [], .sc (.bool false)], u38, u38, .agg [i 6, i 0, .sc (.string ⟨⟨[]⟩⟩), .lst [], u28, .lst [], .sc (.bool false)]], .sc (.bool true)]),
  ([u28], .tup [.lst [.agg [i 5, i 0, u2, .lst [], .lst [], .lst [], .sc (.bool false)], u39], .sc (.bool true)])]
set_option maxRecDepth 100000 in
theorem rows38_ok : rows38.all (rowRun Tryz.prog c15 3000 38) = true := by kernel_rfl
noncomputable def c16 : Cfg := c15.tell 38 (rowH rows38)
theorem told16 : ∀ g h, c16.hook g = some h → ByHand Tryz.prog g h := told_tell told15 (told_row follows_mixed told15 rows38_ok)
def rows32 : List Row := [
  ([u20, .sc (.bool true)], .sc (.bool true)),
  ([u21, .sc (.bool true)], .sc (.bool true)),
  ([u25, .sc (.bool true)], .sc (.bool true)),
  ([u26, .sc (.bool false)], .sc (.bool true)),
  ([u20, .sc (.bool false)], .sc (.bool true)),
  ([u27, .sc (.bool false)], .sc (.bool true)),
  ([u21, .sc (.bool false)], .sc (.bool true)),
  ([u29, .sc (.bool false)], .sc (.bool true)),
  ([u31, .sc (.bool false)], .sc (.bool true))]
set_option maxRecDepth 100000 in
theorem rows32_ok : rows32.all (rowRun Tryz.prog c16 3000 32) = true := by kernel_rfl
noncomputable def c17 : Cfg := c16.tell 32 (rowH rows32)
theorem told17 : ∀ g h, c17.hook g = some h → ByHand Tryz.prog g h := told_tell told16 (told_row follows_mixed told16 rows32_ok)
def rows21 : List Row := [
  ([u25], u25),
  ([u20], u20),
  ([u32], u32),
  ([u21], u21),
  ([u33], u33),
  ([u34], u34),
  ([u37], u37)]
set_option maxRecDepth 100000 in
theorem rows21_ok : rows21.all (rowRun Tryz.prog c17 3000 21) = true := by kernel_rfl
noncomputable def c18 : Cfg := c17.tell 21 (rowH rows21)
theorem told18 : ∀ g h, c18.hook g = some h → ByHand Tryz.prog g h := told_tell told17 (told_row follows_mixed told17 rows21_ok)
def rows58 : List Row := [
  ([u3], .tup [.lst [.agg [i 1, i 0, i 1, i 0, .sc (.string ⟨⟨[]⟩⟩)], .agg [i 13, i 1, i 2, i 0, .sc (.string ⟨⟨[95]⟩⟩)], .agg [i 13, i 3, i 4, i 0, .sc (.string ⟨⟨[97]⟩⟩)], .agg [i 13, i 5, i 6, i 0, .sc (.string ⟨⟨[98]⟩⟩)], .agg [i 13, i 7, i 10, i 0, u0], .agg [i 2, i 10, i 11, i 0, .sc (.string ⟨⟨[]⟩⟩)]], i 0, i 0]),
  ([u4], .tup [.lst [.agg [i 1, i 0, i 1, i 0, .sc (.string ⟨⟨[]⟩⟩)], .agg [i 13, i 1, i 3, i 0, u1], .agg [i 13, i 4, i 5, i 0, .sc (.string ⟨⟨[97]⟩⟩)], .agg [i 13, i 6, i 7, i 0, .sc (.string ⟨⟨[97]⟩⟩)], .agg [i 1, i 8, i 9, i 0, .sc (.string ⟨⟨[]⟩⟩)], .agg [i 13, i 9, i 11, i 0, u2], .agg [i 13, i 12, i 13, i 0, .sc (.string ⟨⟨[98]⟩⟩)], .agg [i 13, i 14, i 17, i 0, u0], .agg [i 2, i 17, i 18, i 0, .sc (.string ⟨⟨[]⟩⟩)], .agg [i 2, i 18, i 19, i 0, .sc (.string ⟨⟨[]⟩⟩)]], i 0, i 0]),
  ([u5], .tup [.lst [.agg [i 1, i 0, i 1, i 0, .sc (.string ⟨⟨[]⟩⟩)], .agg [i 13, i 1, i 3, i 0, u2], .agg [i 9, i 4, i 5, i 1, .sc (.string ⟨⟨[]⟩⟩)], .agg [i 9, i 6, i 7, i 2, .sc (.string ⟨⟨[]⟩⟩)], .agg [i 9, i 8, i 9, i 3, .sc (.string ⟨⟨[]⟩⟩)], .agg [i 2, i 9, i 10, i 0, .sc (.string ⟨⟨[]⟩⟩)]], i 0, i 0]),
  ([u6], .tup [.lst [.agg [i 1, i 0, i 1, i 0, .sc (.string ⟨⟨[]⟩⟩)], .agg [i 13, i 1, i 3, i 0, u1], .agg [i 9, i 4, i 5, i 1, .sc (.string ⟨⟨[]⟩⟩)], .agg [i 9, i 6, i 7, i 1, .sc (.string ⟨⟨[]⟩⟩)], .agg [i 1, i 8, i 9, i 0, .sc (.string ⟨⟨[]⟩⟩)], .agg [i 13, i 9, i 11, i 0, u2], .agg [i 9, i 12, i 13, i 2, .sc (.string ⟨⟨[]⟩⟩)], .agg [i 9, i 14, i 15, i 3, .sc (.string ⟨⟨[]⟩⟩)], .agg [i 2, i 15, i 16, i 0, .sc (.string ⟨⟨[]⟩⟩)], .agg [i 2, i 16, i 17, i 0, .sc (.string ⟨⟨[]⟩⟩)]], i 0, i 0])]
set_option maxRecDepth 100000 in
theorem rows58_ok : rows58.all (rowRun Tryz.prog c18 3000 58) = true := by kernel_rfl
noncomputable def c19 : Cfg := c18.tell 58 (rowH rows58)
theorem told19 : ∀ g h, c19.hook g = some h → ByHand Tryz.prog g h := told_tell told18 (told_row follows_mixed told18 rows58_ok)
def rows24 : List Row := [
  ([u3], .tup [u23, i 0]),
  ([u4], .tup [u31, i 0]),
  ([u5], .tup [u35, i 0]),
  ([u6], .tup [u37, i 0])]
set_option maxRecDepth 100000 in
theorem rows24_ok : rows24.all (rowRun Tryz.prog c19 3000 24) = true := by kernel_rfl
noncomputable def c20 : Cfg := c19.tell 24 (rowH rows24)
theorem told20 : ∀ g h, c20.hook g = some h → ByHand Tryz.prog g h := told_tell told19 (told_row follows_mixed told19 rows24_ok)
def rows11 : List Row := [
  ([u3], u23),
  ([u4], u31),
  ([u5], u35),
  ([u6], u37)]
set_option maxRecDepth 100000 in
theorem rows11_ok : rows11.all (rowRun Tryz.prog c20 3000 11) = true := by kernel_rfl
noncomputable def c21 : Cfg := c20.tell 11 (rowH rows11)
theorem told21 : ∀ g h, c21.hook g = some h → ByHand Tryz.prog g h := told_tell told20 (told_row follows_mixed told20 rows11_ok)
def rows9 : List Row := [
  ([u37], .lst [u37, u26, u32, u32, u36, u27, u33, u34])]
set_option maxRecDepth 100000 in
theorem rows9_ok : rows9.all (rowRun Tryz.prog c21 3000 9) = true := by kernel_rfl
noncomputable def c22 : Cfg := c21.tell 9 (rowH rows9)
theorem told22 : ∀ g h, c22.hook g = some h → ByHand Tryz.prog g h := told_tell told21 (told_row follows_mixed told21 rows9_ok)
def rows10 : List Row := [
  ([u37, u37], .sc (.bool true))]
set_option maxRecDepth 100000 in
theorem rows10_ok : rows10.all (rowRun Tryz.prog c22 3000 10) = true := by kernel_rfl
noncomputable def c23 : Cfg := c22.tell 10 (rowH rows10)
theorem told23 : ∀ g h, c23.hook g = some h → ByHand Tryz.prog g h := told_tell told22 (told_row follows_mixed told22 rows10_ok)
def rows4 : List Row := [
  ([], .sc (.bool true))]
set_option maxRecDepth 100000 in
theorem rows4_ok : rows4.all (rowRun Tryz.prog c23 3000 4) = true := by kernel_rfl
noncomputable def cl : Cfg := c23.tell 4 (rowH rows4)
theorem told_cl : ∀ g h, cl.hook g = some h → ByHand Tryz.prog g h := told_tell told23 (told_row follows_mixed told23 rows4_ok)
theorem hooksL (B : Bs) (W : World) : Hooks Tryz.prog B W cl := hooks_of told_cl
end Go.Proofs.YtjiijacibpgciaaGreat
