import Derived.Test.YtcfdiaobfkeefaaGreatRows
import Derived.ProofKit
import Derived.Test.YtcfdiaobfkeefaaGreatVT
/- CekNone: a closed run. -/
set_option linter.unusedSimpArgs false
set_option linter.unusedVariables false
set_option linter.unusedSectionVars false
namespace Go.Proofs.YtcfdiaobfkeefaaGreat
open Go.V

theorem follows_mixed : Tryz.prog.follows .mixedOrders = true := by kernel_rfl
theorem cl25 : CloneAt Tryz.prog 25 := ⟨fun m => by kernel_rfl, fun m => ⟨2, true, by kernel_rfl⟩⟩
theorem cl35 : CloneAt Tryz.prog 35 := ⟨fun m => by kernel_rfl, fun m => ⟨1, false, by kernel_rfl⟩⟩
theorem cl65 : CloneAt Tryz.prog 65 := ⟨fun m => by kernel_rfl, fun m => ⟨1, false, by kernel_rfl⟩⟩
theorem cl71 : CloneAt Tryz.prog 71 := ⟨fun m => by kernel_rfl, fun m => ⟨1, false, by kernel_rfl⟩⟩
theorem mcl64 : ByHand Tryz.prog 64 mcloneH := told_mclone Tryz.func64 (by kernel_rfl) rfl (by kernel_rfl) (by kernel_rfl)
theorem told_clone {f : FuncId} (h : CloneAt Tryz.prog f) : ByHand Tryz.prog f (cloneH Tryz.prog f) := ⟨fun B W args m v m' e2 hv => cloneH_sound follows_mixed h e2 hv, fun args m v m' e2 => cloneH_ver (W := default) e2⟩
theorem keys69 : ByHand Tryz.prog 69 keysH := told_keys Tryz.func69 (T := 102) ⟨rfl, by simp [Tryz.f69], rfl, rfl, ⟨rfl, rfl, rfl⟩, ⟨rfl, rfl, rfl⟩, ⟨rfl, rfl, rfl⟩, ⟨rfl, rfl, rfl⟩, ⟨_, _, Tryz.underlying102⟩, by kernel_rfl⟩
/-- Whose arguments and results are lists. -/
def ents : List Nat := [5, 23, 24, 77]
/-- Closed runs. -/
noncomputable def ck : Cfg := ⟨fun f => !(ents.contains f), fun f => !(ents.contains f), fun f => if f == 25 || f == 35 || f == 65 || f == 71 then some (cloneH Tryz.prog f) else if f == 64 then some mcloneH else if f == 69 then some keysH else none, fun f => if ents.contains f then 1 else 0⟩
theorem told_ck (f : FuncId) (h : List AV → Mem → Option (AV × Mem)) (e : ck.hook f = some h) : ByHand Tryz.prog f h := by
  unfold ck at e
  dsimp only at e
  split at e
  · rename_i hc
    cases e
    have : f = 25 ∨ f = 35 ∨ f = 65 ∨ f = 71 := by simpa [or_assoc] using hc
    rcases this with rfl | rfl | rfl | rfl
    · exact told_clone cl25
    · exact told_clone cl35
    · exact told_clone cl65
    · exact told_clone cl71
  · split at e
    · rename_i hc
      have : f = 64 := by simpa using hc
      subst this
      cases e
      exact mcl64
    · split at e
      · rename_i hc
        have : f = 69 := by simpa using hc
        subst this
        cases e
        exact keys69
      · cases e
theorem hooks (B : Nat) (W : World) : Hooks Tryz.prog B W ck := hooks_of told_ck
abbrev int (n : Int) : AV := .sc (.int .i64 n)
abbrev i (n : Int) : AV := .sc (.int .i64 n)
def rows49 : List Row := [
  ([.agg [i 2, i 0, .sc (.string ⟨⟨[]⟩⟩), .lst [], .lst [], .lst []]], i 0),
  ([.agg [i 1, i 1, .sc (.string ⟨⟨[]⟩⟩), .lst [], .lst [], .lst []]], i 0),
  ([.agg [i 1, i 2, .sc (.string ⟨⟨[]⟩⟩), .lst [], .lst [], .lst []]], i 0)
  ]
set_option maxRecDepth 100000 in
theorem rows49_ok : rows49.all (rowRun Tryz.prog ck 200 49) = true := by kernel_rfl
noncomputable def c1 : Cfg := ck.tell 49 (rowH rows49)
theorem told1 : ∀ g h, c1.hook g = some h → ByHand Tryz.prog g h := told_tell told_ck (told_row follows_mixed told_ck rows49_ok)
def rows52 : List Row := [
  ([.agg [i 6, i 0, .sc (.string ⟨⟨[]⟩⟩), .lst [], .lst [.agg [i 5, i 0, .sc (.string ⟨⟨[99, 111, 110, 115, 116]⟩⟩), .lst [], .lst [], .lst []], .agg [i 1, i 1, .sc (.string ⟨⟨[]⟩⟩), .lst [], .lst [], .lst []]], .lst []]], i 0),
  ([.agg [i 1, i 1, .sc (.string ⟨⟨[]⟩⟩), .lst [], .lst [], .lst []]], i 0),
  ([.agg [i 6, i 0, .sc (.string ⟨⟨[]⟩⟩), .lst [], .lst [.agg [i 5, i 0, .sc (.string ⟨⟨[105, 102]⟩⟩), .lst [], .lst [], .lst []], .agg [i 6, i 0, .sc (.string ⟨⟨[]⟩⟩), .lst [], .lst [.agg [i 5, i 0, .sc (.string ⟨⟨[99, 111, 110, 115, 116]⟩⟩), .lst [], .lst [], .lst []], .agg [i 2, i 0, .sc (.string ⟨⟨[]⟩⟩), .lst [], .lst [], .lst []]], .lst []], .agg [i 6, i 0, .sc (.string ⟨⟨[]⟩⟩), .lst [], .lst [.agg [i 5, i 0, .sc (.string ⟨⟨[99, 111, 110, 115, 116]⟩⟩), .lst [], .lst [], .lst []], .agg [i 1, i 1, .sc (.string ⟨⟨[]⟩⟩), .lst [], .lst [], .lst []]], .lst []], .agg [i 6, i 0, .sc (.string ⟨⟨[]⟩⟩), .lst [], .lst [.agg [i 5, i 0, .sc (.string ⟨⟨[99, 111, 110, 115, 116]⟩⟩), .lst [], .lst [], .lst []], .agg [i 1, i 2, .sc (.string ⟨⟨[]⟩⟩), .lst [], .lst [], .lst []]], .lst []]], .lst []]], i 0),
  ([.agg [i 2, i 0, .sc (.string ⟨⟨[]⟩⟩), .lst [], .lst [], .lst []]], i 0),
  ([.agg [i 1, i 2, .sc (.string ⟨⟨[]⟩⟩), .lst [], .lst [], .lst []]], i 0)
  ]
set_option maxRecDepth 100000 in
theorem rows52_ok : rows52.all (rowRun Tryz.prog c1 200 52) = true := by kernel_rfl
noncomputable def c2 : Cfg := c1.tell 52 (rowH rows52)
theorem told2 : ∀ g h, c2.hook g = some h → ByHand Tryz.prog g h := told_tell told1 (told_row follows_mixed told1 rows52_ok)
def rows84 : List Row := [
  ([.agg [i 1, i 0, .sc (.string ⟨⟨[]⟩⟩), i 1, i 1, .sc (.string ⟨⟨[]⟩⟩), .lst [], .lst [], .lst [], .lst [], .lst []], .lst []], i 0),
  ([.agg [i 7, i 0, .sc (.string ⟨⟨[]⟩⟩), i 0, i 0, .sc (.string ⟨⟨[]⟩⟩), .lst [], .lst [], .lst [], .lst [], .lst [.agg [i 1, i 0, .sc (.string ⟨⟨[]⟩⟩), i 2, i 0, .sc (.string ⟨⟨[]⟩⟩), .lst [], .lst [], .lst [], .lst [], .lst []], .agg [i 1, i 0, .sc (.string ⟨⟨[]⟩⟩), i 1, i 1, .sc (.string ⟨⟨[]⟩⟩), .lst [], .lst [], .lst [], .lst [], .lst []], .agg [i 1, i 0, .sc (.string ⟨⟨[]⟩⟩), i 1, i 2, .sc (.string ⟨⟨[]⟩⟩), .lst [], .lst [], .lst [], .lst [], .lst []]]], .lst []], i 0)
  ]
set_option maxRecDepth 100000 in
theorem rows84_ok : rows84.all (rowRun Tryz.prog c2 200 84) = true := by kernel_rfl
noncomputable def c3 : Cfg := c2.tell 84 (rowH rows84)
theorem told3 : ∀ g h, c3.hook g = some h → ByHand Tryz.prog g h := told_tell told2 (told_row follows_mixed told2 rows84_ok)
def rows18 : List Row := [
  ([.agg [i 7, i 0, .sc (.string ⟨⟨[]⟩⟩), i 0, i 0, .sc (.string ⟨⟨[]⟩⟩), .lst [], .lst [], .lst [], .lst [], .lst [.agg [i 1, i 0, .sc (.string ⟨⟨[]⟩⟩), i 2, i 0, .sc (.string ⟨⟨[]⟩⟩), .lst [], .lst [], .lst [], .lst [], .lst []], .agg [i 1, i 0, .sc (.string ⟨⟨[]⟩⟩), i 1, i 1, .sc (.string ⟨⟨[]⟩⟩), .lst [], .lst [], .lst [], .lst [], .lst []], .agg [i 1, i 0, .sc (.string ⟨⟨[]⟩⟩), i 1, i 2, .sc (.string ⟨⟨[]⟩⟩), .lst [], .lst [], .lst [], .lst [], .lst []]]], .lst []], i 0)
  ]
set_option maxRecDepth 100000 in
theorem rows18_ok : rows18.all (rowRun Tryz.prog c3 200 18) = true := by kernel_rfl
noncomputable def c4 : Cfg := c3.tell 18 (rowH rows18)
theorem told4 : ∀ g h, c4.hook g = some h → ByHand Tryz.prog g h := told_tell told3 (told_row follows_mixed told3 rows18_ok)
def rows43 : List Row := [
  ([.agg [i 7, i 0, .sc (.string ⟨⟨[]⟩⟩), i 0, i 0, .sc (.string ⟨⟨[]⟩⟩), .lst [], .lst [], .lst [], .lst [], .lst [.agg [i 1, i 0, .sc (.string ⟨⟨[]⟩⟩), i 2, i 0, .sc (.string ⟨⟨[]⟩⟩), .lst [], .lst [], .lst [], .lst [], .lst []], .agg [i 1, i 0, .sc (.string ⟨⟨[]⟩⟩), i 1, i 1, .sc (.string ⟨⟨[]⟩⟩), .lst [], .lst [], .lst [], .lst [], .lst []], .agg [i 1, i 0, .sc (.string ⟨⟨[]⟩⟩), i 1, i 2, .sc (.string ⟨⟨[]⟩⟩), .lst [], .lst [], .lst [], .lst [], .lst []]]]], .tup [.emp 0, i 0])
  ]
set_option maxRecDepth 100000 in
theorem rows43_ok : rows43.all (rowRun Tryz.prog c4 200 43) = true := by kernel_rfl
noncomputable def c5 : Cfg := c4.tell 43 (rowH rows43)
theorem told5 : ∀ g h, c5.hook g = some h → ByHand Tryz.prog g h := told_tell told4 (told_row follows_mixed told4 rows43_ok)
def ent0 : Ent := ⟨[.sc (.string ⟨⟨[40, 105, 102, 32, 40, 99, 111, 110, 115, 116, 32, 35, 102, 41, 32, 40, 99, 111, 110, 115, 116, 32, 49, 41, 32, 40, 99, 111, 110, 115, 116, 32, 50, 41, 41]⟩⟩)],
  ⟨4, 4, .nd (.nd (.nd (.nil) (some (.cells [i 0, i 0, .sc (.string ⟨⟨[]⟩⟩), .emp 0, .emp 0, .emp 0] false 4)) (.nil)) (some (.cells [i 9, .emp 0, .emp 0, .mp 0] false 2)) (.nil)) (none) (.nd (.nil) (some (.cells [i 0, i 0, .sc (.string ⟨⟨[]⟩⟩), i 0, i 0, .sc (.string ⟨⟨[]⟩⟩), .emp 0, .emp 0, .emp 0, .emp 0, .emp 0] false 3)) (.nil)), .nil, .nd (.nil) (some (⟨[], 0, 1⟩)) (.nil)⟩,
  .tup [.lst [.agg [i 1, i 0, i 1, i 0, .sc (.string ⟨⟨[]⟩⟩)], .agg [i 13, i 1, i 3, i 0, .sc (.string ⟨⟨[105, 102]⟩⟩)], .agg [i 1, i 4, i 5, i 0, .sc (.string ⟨⟨[]⟩⟩)], .agg [i 13, i 5, i 10, i 0, .sc (.string ⟨⟨[99, 111, 110, 115, 116]⟩⟩)], .agg [i 10, i 11, i 13, i 0, .sc (.string ⟨⟨[]⟩⟩)], .agg [i 2, i 13, i 14, i 0, .sc (.string ⟨⟨[]⟩⟩)], .agg [i 1, i 15, i 16, i 0, .sc (.string ⟨⟨[]⟩⟩)], .agg [i 13, i 16, i 21, i 0, .sc (.string ⟨⟨[99, 111, 110, 115, 116]⟩⟩)], .agg [i 9, i 22, i 23, i 1, .sc (.string ⟨⟨[]⟩⟩)], .agg [i 2, i 23, i 24, i 0, .sc (.string ⟨⟨[]⟩⟩)], .agg [i 1, i 25, i 26, i 0, .sc (.string ⟨⟨[]⟩⟩)], .agg [i 13, i 26, i 31, i 0, .sc (.string ⟨⟨[99, 111, 110, 115, 116]⟩⟩)], .agg [i 9, i 32, i 33, i 2, .sc (.string ⟨⟨[]⟩⟩)], .agg [i 2, i 33, i 34, i 0, .sc (.string ⟨⟨[]⟩⟩)], .agg [i 2, i 34, i 35, i 0, .sc (.string ⟨⟨[]⟩⟩)]], i 0, i 0],
  ⟨4, 4, .nd (.nd (.nd (.nil) (some (.cells [i 0, i 0, .sc (.string ⟨⟨[]⟩⟩), .emp 0, .emp 0, .emp 0] false 4)) (.nil)) (some (.cells [i 9, .emp 0, .emp 0, .mp 0] false 2)) (.nil)) (none) (.nd (.nil) (some (.cells [i 0, i 0, .sc (.string ⟨⟨[]⟩⟩), i 0, i 0, .sc (.string ⟨⟨[]⟩⟩), .emp 0, .emp 0, .emp 0, .emp 0, .emp 0] false 3)) (.nil)), .nil, .nd (.nil) (some (⟨[], 0, 1⟩)) (.nil)⟩⟩
set_option maxRecDepth 100000 in
theorem ent0_ok : entRun Tryz.prog c5 200 77 ent0 = true := by kernel_rfl
theorem ents_0 : EntsOk Tryz.prog 77 (ent0 :: []) := ents_cons follows_mixed told5 ent0_ok ents_nil
noncomputable def c6 : Cfg := c5.tell 77 (entH (ent0 :: []))
theorem told6 : ∀ g h, c6.hook g = some h → ByHand Tryz.prog g h := told_tell told5 (told_ents ents_0)
def ent1 : Ent := ⟨[.sc (.string ⟨⟨[40, 105, 102, 32, 40, 99, 111, 110, 115, 116, 32, 35, 102, 41, 32, 40, 99, 111, 110, 115, 116, 32, 49, 41, 32, 40, 99, 111, 110, 115, 116, 32, 50, 41, 41]⟩⟩)],
  ⟨3, 3, .nd (.nd (.nil) (some (.cells [i 9, .emp 0, .emp 0, .mp 0] false 2)) (.nil)) (none) (.nd (.nil) (some (.cells [i 0, i 0, .sc (.string ⟨⟨[]⟩⟩), i 0, i 0, .sc (.string ⟨⟨[]⟩⟩), .emp 0, .emp 0, .emp 0, .emp 0, .emp 0] false 3)) (.nil)), .nil, .nd (.nil) (some (⟨[], 0, 1⟩)) (.nil)⟩,
  .tup [.agg [i 6, i 0, .sc (.string ⟨⟨[]⟩⟩), .lst [], .lst [.agg [i 5, i 0, .sc (.string ⟨⟨[105, 102]⟩⟩), .lst [], .lst [], .lst []], .agg [i 6, i 0, .sc (.string ⟨⟨[]⟩⟩), .lst [], .lst [.agg [i 5, i 0, .sc (.string ⟨⟨[99, 111, 110, 115, 116]⟩⟩), .lst [], .lst [], .lst []], .agg [i 2, i 0, .sc (.string ⟨⟨[]⟩⟩), .lst [], .lst [], .lst []]], .lst []], .agg [i 6, i 0, .sc (.string ⟨⟨[]⟩⟩), .lst [], .lst [.agg [i 5, i 0, .sc (.string ⟨⟨[99, 111, 110, 115, 116]⟩⟩), .lst [], .lst [], .lst []], .agg [i 1, i 1, .sc (.string ⟨⟨[]⟩⟩), .lst [], .lst [], .lst []]], .lst []], .agg [i 6, i 0, .sc (.string ⟨⟨[]⟩⟩), .lst [], .lst [.agg [i 5, i 0, .sc (.string ⟨⟨[99, 111, 110, 115, 116]⟩⟩), .lst [], .lst [], .lst []], .agg [i 1, i 2, .sc (.string ⟨⟨[]⟩⟩), .lst [], .lst [], .lst []]], .lst []]], .lst []], i 0],
  ⟨3, 3, .nd (.nd (.nil) (some (.cells [i 9, .emp 0, .emp 0, .mp 0] false 2)) (.nil)) (none) (.nd (.nil) (some (.cells [i 0, i 0, .sc (.string ⟨⟨[]⟩⟩), i 0, i 0, .sc (.string ⟨⟨[]⟩⟩), .emp 0, .emp 0, .emp 0, .emp 0, .emp 0] false 3)) (.nil)), .nil, .nd (.nil) (some (⟨[], 0, 1⟩)) (.nil)⟩⟩
set_option maxRecDepth 100000 in
theorem ent1_ok : entRun Tryz.prog c6 200 23 ent1 = true := by kernel_rfl
theorem ents_1 : EntsOk Tryz.prog 23 (ent1 :: []) := ents_cons follows_mixed told6 ent1_ok ents_nil
noncomputable def c7 : Cfg := c6.tell 23 (entH (ent1 :: []))
theorem told7 : ∀ g h, c7.hook g = some h → ByHand Tryz.prog g h := told_tell told6 (told_ents ents_1)
def ent2 : Ent := ⟨[.agg [i 6, i 0, .sc (.string ⟨⟨[]⟩⟩), .lst [], .lst [.agg [i 5, i 0, .sc (.string ⟨⟨[105, 102]⟩⟩), .lst [], .lst [], .lst []], .agg [i 6, i 0, .sc (.string ⟨⟨[]⟩⟩), .lst [], .lst [.agg [i 5, i 0, .sc (.string ⟨⟨[99, 111, 110, 115, 116]⟩⟩), .lst [], .lst [], .lst []], .agg [i 2, i 0, .sc (.string ⟨⟨[]⟩⟩), .lst [], .lst [], .lst []]], .lst []], .agg [i 6, i 0, .sc (.string ⟨⟨[]⟩⟩), .lst [], .lst [.agg [i 5, i 0, .sc (.string ⟨⟨[99, 111, 110, 115, 116]⟩⟩), .lst [], .lst [], .lst []], .agg [i 1, i 1, .sc (.string ⟨⟨[]⟩⟩), .lst [], .lst [], .lst []]], .lst []], .agg [i 6, i 0, .sc (.string ⟨⟨[]⟩⟩), .lst [], .lst [.agg [i 5, i 0, .sc (.string ⟨⟨[99, 111, 110, 115, 116]⟩⟩), .lst [], .lst [], .lst []], .agg [i 1, i 2, .sc (.string ⟨⟨[]⟩⟩), .lst [], .lst [], .lst []]], .lst []]], .lst []]],
  ⟨4, 5, .nd (.nd (.nd (.nil) (some (.cells [i 6, i 0, .sc (.string ⟨⟨[]⟩⟩), .lst [], .lst [.agg [i 5, i 0, .sc (.string ⟨⟨[105, 102]⟩⟩), .lst [], .lst [], .lst []], .agg [i 6, i 0, .sc (.string ⟨⟨[]⟩⟩), .lst [], .lst [.agg [i 5, i 0, .sc (.string ⟨⟨[99, 111, 110, 115, 116]⟩⟩), .lst [], .lst [], .lst []], .agg [i 2, i 0, .sc (.string ⟨⟨[]⟩⟩), .lst [], .lst [], .lst []]], .lst []], .agg [i 6, i 0, .sc (.string ⟨⟨[]⟩⟩), .lst [], .lst [.agg [i 5, i 0, .sc (.string ⟨⟨[99, 111, 110, 115, 116]⟩⟩), .lst [], .lst [], .lst []], .agg [i 1, i 1, .sc (.string ⟨⟨[]⟩⟩), .lst [], .lst [], .lst []]], .lst []], .agg [i 6, i 0, .sc (.string ⟨⟨[]⟩⟩), .lst [], .lst [.agg [i 5, i 0, .sc (.string ⟨⟨[99, 111, 110, 115, 116]⟩⟩), .lst [], .lst [], .lst []], .agg [i 1, i 2, .sc (.string ⟨⟨[]⟩⟩), .lst [], .lst [], .lst []]], .lst []]], .lst []] false 5)) (.nil)) (some (.cells [i 9, .emp 0, .emp 0, .mp 0] false 2)) (.nil)) (none) (.nd (.nil) (some (.cells [i 0, i 0, .sc (.string ⟨⟨[]⟩⟩), i 0, i 0, .sc (.string ⟨⟨[]⟩⟩), .emp 0, .emp 0, .emp 0, .emp 0, .emp 0] false 3)) (.nil)), .nil, .nd (.nil) (some (⟨[], 0, 1⟩)) (.nil)⟩,
  .tup [.agg [i 7, i 0, .sc (.string ⟨⟨[]⟩⟩), i 0, i 0, .sc (.string ⟨⟨[]⟩⟩), .lst [], .lst [], .lst [], .lst [], .lst [.agg [i 1, i 0, .sc (.string ⟨⟨[]⟩⟩), i 2, i 0, .sc (.string ⟨⟨[]⟩⟩), .lst [], .lst [], .lst [], .lst [], .lst []], .agg [i 1, i 0, .sc (.string ⟨⟨[]⟩⟩), i 1, i 1, .sc (.string ⟨⟨[]⟩⟩), .lst [], .lst [], .lst [], .lst [], .lst []], .agg [i 1, i 0, .sc (.string ⟨⟨[]⟩⟩), i 1, i 2, .sc (.string ⟨⟨[]⟩⟩), .lst [], .lst [], .lst [], .lst [], .lst []]]], i 0],
  ⟨4, 5, .nd (.nd (.nd (.nil) (some (.cells [i 6, i 0, .sc (.string ⟨⟨[]⟩⟩), .lst [], .lst [.agg [i 5, i 0, .sc (.string ⟨⟨[105, 102]⟩⟩), .lst [], .lst [], .lst []], .agg [i 6, i 0, .sc (.string ⟨⟨[]⟩⟩), .lst [], .lst [.agg [i 5, i 0, .sc (.string ⟨⟨[99, 111, 110, 115, 116]⟩⟩), .lst [], .lst [], .lst []], .agg [i 2, i 0, .sc (.string ⟨⟨[]⟩⟩), .lst [], .lst [], .lst []]], .lst []], .agg [i 6, i 0, .sc (.string ⟨⟨[]⟩⟩), .lst [], .lst [.agg [i 5, i 0, .sc (.string ⟨⟨[99, 111, 110, 115, 116]⟩⟩), .lst [], .lst [], .lst []], .agg [i 1, i 1, .sc (.string ⟨⟨[]⟩⟩), .lst [], .lst [], .lst []]], .lst []], .agg [i 6, i 0, .sc (.string ⟨⟨[]⟩⟩), .lst [], .lst [.agg [i 5, i 0, .sc (.string ⟨⟨[99, 111, 110, 115, 116]⟩⟩), .lst [], .lst [], .lst []], .agg [i 1, i 2, .sc (.string ⟨⟨[]⟩⟩), .lst [], .lst [], .lst []]], .lst []]], .lst []] false 5)) (.nil)) (some (.cells [i 9, .emp 0, .emp 0, .mp 0] false 2)) (.nil)) (none) (.nd (.nil) (some (.cells [i 0, i 0, .sc (.string ⟨⟨[]⟩⟩), i 0, i 0, .sc (.string ⟨⟨[]⟩⟩), .emp 0, .emp 0, .emp 0, .emp 0, .emp 0] false 3)) (.nil)), .nil, .nd (.nil) (some (⟨[], 0, 1⟩)) (.nil)⟩⟩
set_option maxRecDepth 100000 in
theorem ent2_ok : entRun Tryz.prog c7 200 24 ent2 = true := by kernel_rfl
theorem ents_2 : EntsOk Tryz.prog 24 (ent2 :: []) := ents_cons follows_mixed told7 ent2_ok ents_nil
noncomputable def c8 : Cfg := c7.tell 24 (entH (ent2 :: []))
theorem told8 : ∀ g h, c8.hook g = some h → ByHand Tryz.prog g h := told_tell told7 (told_ents ents_2)
def ent3 : Ent := ⟨[.sc (.string ⟨⟨[40, 105, 102, 32, 40, 99, 111, 110, 115, 116, 32, 35, 102, 41, 32, 40, 99, 111, 110, 115, 116, 32, 49, 41, 32, 40, 99, 111, 110, 115, 116, 32, 50, 41, 41]⟩⟩)],
  ⟨2, 2, .nd (.nd (.nil) (some (.cells [i 9, .emp 0, .emp 0, .mp 0] false 2)) (.nil)) (none) (.nil), .nil, .nd (.nil) (some (⟨[], 0, 1⟩)) (.nil)⟩,
  .agg [i 7, i 0, .sc (.string ⟨⟨[]⟩⟩), i 0, i 0, .sc (.string ⟨⟨[]⟩⟩), .lst [], .lst [], .lst [], .lst [], .lst [.agg [i 1, i 0, .sc (.string ⟨⟨[]⟩⟩), i 2, i 0, .sc (.string ⟨⟨[]⟩⟩), .lst [], .lst [], .lst [], .lst [], .lst []], .agg [i 1, i 0, .sc (.string ⟨⟨[]⟩⟩), i 1, i 1, .sc (.string ⟨⟨[]⟩⟩), .lst [], .lst [], .lst [], .lst [], .lst []], .agg [i 1, i 0, .sc (.string ⟨⟨[]⟩⟩), i 1, i 2, .sc (.string ⟨⟨[]⟩⟩), .lst [], .lst [], .lst [], .lst [], .lst []]]],
  ⟨2, 2, .nd (.nd (.nil) (some (.cells [i 9, .emp 0, .emp 0, .mp 0] false 2)) (.nil)) (none) (.nil), .nil, .nd (.nil) (some (⟨[], 0, 1⟩)) (.nil)⟩⟩
set_option maxRecDepth 100000 in
theorem ent3_ok : entRun Tryz.prog c8 200 5 ent3 = true := by kernel_rfl
theorem ents_3 : EntsOk Tryz.prog 5 (ent3 :: []) := ents_cons follows_mixed told8 ent3_ok ents_nil
noncomputable def c9 : Cfg := c8.tell 5 (entH (ent3 :: []))
theorem told9 : ∀ g h, c9.hook g = some h → ByHand Tryz.prog g h := told_tell told8 (told_ents ents_3)
def rows16 : List Row := [
  ([], .sc (.bool true))
  ]
set_option maxRecDepth 100000 in
theorem rows16_ok : rows16.all (rowRun Tryz.prog c9 200 16) = true := by kernel_rfl
noncomputable def cl : Cfg := c5.tell 16 (rowH rows16)
theorem told_cl : ∀ g h, cl.hook g = some h → ByHand Tryz.prog g h := told_tell told5 (told_row follows_mixed told9 rows16_ok)
theorem hooksL (B : Nat) (W : World) : Hooks Tryz.prog B W cl := hooks_of told_cl
set_option maxRecDepth 100000 in
theorem run3 (a b c d e : Int) : (afn Tryz.prog cl 200 (.func 3) [.agg [int a, int b], .agg [int c, int d, int e]] Mem.empty).map (·.1) = some (.sc (.bool true)) := by kernel_rfl
theorem g3 (a b c d e : Int) : ∃ m', EH Tryz.prog cl (.func 3) [.agg [int a, int b], .agg [int c, int d, int e]] Mem.empty (.sc (.bool true)) m' := by
  obtain ⟨⟨v', m'⟩, h1, h2⟩ := Option.map_eq_some_iff.1 (run3 a b c d e)
  cases h2
  exact ⟨m', .of h1⟩
end Go.Proofs.YtcfdiaobfkeefaaGreat
