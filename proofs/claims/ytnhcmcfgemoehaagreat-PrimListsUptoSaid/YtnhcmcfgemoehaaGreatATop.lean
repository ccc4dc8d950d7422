import Derived.Test.YtnhcmcfgemoehaaGreatASet
import Derived.Test.YtnhcmcfgemoehaaGreatYRead
import Derived.WalkKit
import Derived.ProofKit
import Derived.OpenShut
import Derived.JoinedCond
/- From the walks to the rows. -/
set_option linter.unusedSimpArgs false
set_option linter.unusedVariables false
set_option linter.unusedSectionVars false
namespace Go.Proofs.YtnhcmcfgemoehaaGreat
open Go.V
theorem own_knob : ownKnob Tryz.prog.godebug = none := by kernel_rfl
theorem laid_out : laidOutB Tryz.prog = true := by kernel_rfl
theorem readable43 : Tryz.prog.readableRec 43 = true ∧ 43 < Tryz.prog.types.size := ⟨by kernel_rfl, of_decide_eq_true (by kernel_rfl)⟩
theorem readable44 : Tryz.prog.readableRec 44 = true ∧ 44 < Tryz.prog.types.size := ⟨by kernel_rfl, of_decide_eq_true (by kernel_rfl)⟩
section
variable {H : Type} {en : TypeId × Value → H} {W : World}
set_option maxRecDepth 100000 in
theorem trod_dats {v : Value} {d : DataW H} {p : List MemPlace} {base : Nat} (hv : Value.okWide Tryz.prog W .any base 43 v) (h : DataW.Trod en Tryz.prog W 0 (fun _ => true) true 43 v d p) (hb : Rows.uptoBulk d ≤ 1048576) : ∃ L : List Dat, Rel (G.start W) (.lst (encs L)) v ∧ fitss L ∧ L.length < 2 ^ 21 := by
  obtain ⟨fuel, h⟩ := h
  have hv : v.cells.toList = [v] := by
    cases v with
    | agg cs => simp [Value.okWide, Cell.okWide, Cell.ok, Tryz.underlying43] at hv
    | _ => rfl
  rw [hv] at h
  exact dats_in h hb
set_option maxRecDepth 100000 in
theorem trod_num {T : TypeId} {k : IntKind} (hT : Tryz.prog.underlying T = some (.int k)) {v : Value} {d : DataW H} {p : List MemPlace} {base : Nat} (hv : Value.okWide Tryz.prog W .any base T v) (h : DataW.Trod en Tryz.prog W 0 (fun _ => true) true T v d p) : ∃ n : Int, Rel (G.start W) (.sc (.int k n)) v ∧ (k.min ≤ n ∧ n ≤ k.max) := by
  obtain ⟨fuel, h⟩ := h
  have hv : v.cells.toList = [v] := by
    cases v with
    | agg cs => simp [Value.okWide, Cell.okWide, Cell.ok, hT] at hv
    | _ => rfl
  rw [hv] at h
  obtain ⟨n, h1, rfl, hw⟩ := rd_int hT h
  cases h1
  exact ⟨n, rfl, by simpa [Lit.wf] using hw⟩
end
theorem fitss_all : ∀ {l : List Dat}, fitss l → ∀ d ∈ l, d.fits
  | [], _, d, h => by cases h
  | x :: l, h, d, hd => by
    cases List.mem_cons.1 hd with
    | inl e => subst e; exact h.1
    | inr e => exact fitss_all h.2 d e
end Go.Proofs.YtnhcmcfgemoehaaGreat
