/- Part of a proof. -/
import Derived.Test.YtkoekdfimpcofaaGreatVT9
import Derived.Test.YtkoekdfimpcofaaGreatRows
import Derived.WalkKit
import Derived.ProofKit
import Derived.OpenShut
import Derived.JoinedCond
set_option maxHeartbeats 64000000
set_option linter.unusedSimpArgs false
set_option linter.unusedVariables false
set_option linter.unusedSectionVars false
namespace Go.Proofs.YtkoekdfimpcofaaGreat
open Go.V
theorem Auf:ownKnob Tryz.prog.godebug = none:=by kernel_rfl
theorem Auo:laidOutB Tryz.prog = true:=by kernel_rfl
theorem Aol:Tryz.prog.readableRec 22 = true ∧ 22 < Tryz.prog.types.size:=⟨by kernel_rfl,of_decide_eq_true (by kernel_rfl)⟩
section
variable {H:Type} {en:TypeId × Value → H} {W:World}
set_option maxRecDepth 100000 in
theorem Atn {T:TypeId} {k:IntKind} (hT:Tryz.prog.underlying T = some (.int k)) {v:Value} {d:DataW H} {p:List MemPlace} {base:Nat} (hv:Value.okWide Tryz.prog W .any base T v) (h:DataW.Trod en Tryz.prog W 0 (fun _ => true) true T v d p):∃ n:Int,Rel (G.start W) (.sc (.int k n)) v ∧ (k.min ≤ n ∧ n ≤ k.max):=by
 obtain ⟨fuel,h⟩:=h
 have hv:v.cells.toList = [v]:=by
  cases v with
  | agg cs => simp [Value.okWide,Cell.okWide,Cell.ok,hT] at hv
  | _ => rfl
 rw [hv] at h
 obtain ⟨n,h1,rfl,hw⟩:=A0t hT h
 cases h1
 exact ⟨n,rfl,by simpa [Lit.wf] using hw⟩
end
end Go.Proofs.YtkoekdfimpcofaaGreat
