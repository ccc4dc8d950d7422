import Derived.Test.YtekdmmbnhpjngaaGreatRRRRows
import Derived.ProofKit
import Derived.Test.YtekdmmbnhpjngaaGreatRRRVK
/- VmNone: a closed run. -/
set_option linter.unusedSimpArgs false
set_option linter.unusedVariables false
set_option linter.unusedSectionVars false
namespace Go.Proofs.YtekdmmbnhpjngaaGreatRRR
open Go.V

theorem follows_mixed : Tryz.prog.follows .mixedOrders = true := by kernel_rfl
theorem cl30 : CloneAt Tryz.prog 30 := ⟨fun m => by kernel_rfl, fun m => ⟨2, true, by kernel_rfl⟩⟩
theorem cl44 : CloneAt Tryz.prog 44 := ⟨fun m => by kernel_rfl, fun m => ⟨1, false, by kernel_rfl⟩⟩
theorem cl55 : CloneAt Tryz.prog 55 := ⟨fun m => by kernel_rfl, fun m => ⟨3, true, by kernel_rfl⟩⟩
theorem cl72 : CloneAt Tryz.prog 72 := ⟨fun m => by kernel_rfl, fun m => ⟨1, false, by kernel_rfl⟩⟩
theorem cl81 : CloneAt Tryz.prog 81 := ⟨fun m => by kernel_rfl, fun m => ⟨1, false, by kernel_rfl⟩⟩
theorem mcl71 : ByHand Tryz.prog 71 mcloneH := told_mclone Tryz.func71 (by kernel_rfl) rfl (by kernel_rfl) (by kernel_rfl)
theorem told_clone {f : FuncId} (h : CloneAt Tryz.prog f) : ByHand Tryz.prog f (cloneH Tryz.prog f) := ⟨fun B W args m v m' e2 hv => cloneH_sound follows_mixed h e2 hv, fun args m v m' e2 => cloneH_ver (W := default) e2⟩
/-- Closed runs. -/
noncomputable def ck : Cfg := ⟨fun _ => true, fun _ => true, fun f => if f == 30 || f == 44 || f == 55 || f == 72 || f == 81 then some (cloneH Tryz.prog f) else if f == 71 then some mcloneH else none, fun _ => 0⟩
theorem told_ck (f : FuncId) (h : List AV → Mem → Option (AV × Mem)) (e : ck.hook f = some h) : ByHand Tryz.prog f h := by
  unfold ck at e
  dsimp only at e
  split at e
  · rename_i hc
    cases e
    have : f = 30 ∨ f = 44 ∨ f = 55 ∨ f = 72 ∨ f = 81 := by simpa [or_assoc] using hc
    rcases this with rfl | rfl | rfl | rfl | rfl
    · exact told_clone cl30
    · exact told_clone cl44
    · exact told_clone cl55
    · exact told_clone cl72
    · exact told_clone cl81
  · split at e
    · rename_i hc
      have : f = 71 := by simpa using hc
      subst this
      cases e
      exact mcl71
    · cases e
theorem hooks (B : Nat) (W : World) : Hooks Tryz.prog B W ck := hooks_of told_ck
abbrev int (n : Int) : AV := .sc (.int .i64 n)
set_option maxRecDepth 100000 in
theorem run3 (a b c d e : Int) : (afn Tryz.prog ck 200 (.func 3) [.agg [int a, int b], .agg [int c, int d, int e]] Mem.empty).map (·.1) = some (.sc (.bool true)) := by kernel_rfl
theorem g3 (a b c d e : Int) : ∃ m', EH Tryz.prog ck (.func 3) [.agg [int a, int b], .agg [int c, int d, int e]] Mem.empty (.sc (.bool true)) m' := by
  obtain ⟨⟨v', m'⟩, h1, h2⟩ := Option.map_eq_some_iff.1 (run3 a b c d e)
  cases h2
  exact ⟨m', .of h1⟩
end Go.Proofs.YtekdmmbnhpjngaaGreatRRR
