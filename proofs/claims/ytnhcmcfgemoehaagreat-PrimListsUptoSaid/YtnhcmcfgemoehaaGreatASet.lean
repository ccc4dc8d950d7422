import Derived.Test.YtnhcmcfgemoehaaGreatAKit
import Derived.Test.YtnhcmcfgemoehaaGreatABase
/- The setting for arenas. -/
set_option linter.unusedSimpArgs false
set_option linter.unusedVariables false
set_option linter.unusedSectionVars false
namespace Go.Proofs.YtnhcmcfgemoehaaGreat
open Go.V

/-- The functions that leave something in memory. -/
def leavesA : List Nat := [20, 21, 36, 59, 60, 64, 63, 76, 42, 78, 37, 134, 127, 118, 66, 113, 39, 70, 71, 72, 130, 129, 132, 137, 138, 139, 128, 131, 22, 61, 108, 133, 172, 171, 181]
/-- What was told of data. -/
def toldD : List Nat := [23, 35, 79, 100, 106, 40]
noncomputable def ca : Cfg := ⟨fun f => f == 64 || f == 78 || f == 131, fun f => f == 64 || f == 130,
  fun f => if f == 110 || f == 62 then some (cloneL Tryz.prog f) else if f == 111 then some (cloneP Tryz.prog f) else if f == 109 then some mcloneH else if f == 7 || f == 33 then some (roH (limH Tryz.prog ck f)) else if toldD.contains f then some (limH Tryz.prog cf f) else none,
  fun f => if leavesA.contains f then 0 else 1⟩
theorem told_cloneL {f : FuncId} (h : CloneAt Tryz.prog f) : ByHand Tryz.prog f (cloneL Tryz.prog f) := ⟨fun B W args m v m' e2 hv => cloneL_sound follows_mixed h e2 hv, fun args m v m' e2 => cloneL_ver (W := default) e2⟩
theorem told_cloneP {f : FuncId} (h : CloneAt Tryz.prog f) : ByHand Tryz.prog f (cloneP Tryz.prog f) := ⟨fun B W args m v m' e2 hv => cloneP_sound follows_mixed h e2 hv, fun args m v m' e2 => cloneP_ver (W := default) e2⟩
theorem told_cf (f : FuncId) (h : List AV → Mem → Option (AV × Mem)) (e : cf.hook f = some h) : ByHand Tryz.prog f h := by
  cases e
theorem told_ca (f : FuncId) (h : List AV → Mem → Option (AV × Mem)) (e : ca.hook f = some h) : ByHand Tryz.prog f h := by
  unfold ca at e
  dsimp only at e
  split at e
  · rename_i hc
    have : f = 110 ∨ f = 62 := by simpa using hc
    cases e
    rcases this with rfl | rfl
    · exact told_cloneL cl38
    · exact told_cloneL cl24
  · split at e
    · rename_i hc
      have : f = 111 := by simpa using hc
      subst this
      cases e
      exact told_cloneP cl39
    · split at e
      · rename_i hc
        have : f = 109 := by simpa using hc
        subst this
        cases e
        exact mcl37
      · split at e
        · cases e; exact told_ro (told_lim follows_mixed told_ck f)
        · split at e
          · cases e; exact told_lim follows_mixed told_cf f
          · cases e
theorem hooksA (B : Bs) (W : World) : Hooks Tryz.prog B W ca := hooks_of told_ca
theorem ca_gives {f : FuncId} {args : List AV} {r : AV} (h : Gives Tryz.prog cf f args r) (hf : ca.hook f = some (limH Tryz.prog cf f) := by rfl) : Gives Tryz.prog ca f args r := fun m0 args0 m hz => eh_hook hf (lim_eq (h m0 args0 m hz))
end Go.Proofs.YtnhcmcfgemoehaaGreat
