import Derived.Test.YtnhcmcfgemoehaaPBase
import Derived.WalkKit
import Derived.ProofKit
import Derived.OpenShut
import Derived.JoinedCond
/- From the walks to the rows. -/
set_option linter.unusedSimpArgs false
set_option linter.unusedVariables false
set_option linter.unusedSectionVars false
namespace Go.Proofs.Ytnhcmcfgemoehaa
open Go.V
theorem own_knob : ownKnob Try.prog.godebug = none := by kernel_rfl
theorem laid_out : laidOutB Try.prog = true := by kernel_rfl
theorem bulk_one {H : Type} (d : DataW H) : 1 ≤ Rows.uptoBulk d := by
  cases d with
  | lit l => cases l <;> simp [Rows.uptoBulk]
  | _ => simp [Rows.uptoBulk]
theorem bulk_length {H : Type} (l : List (DataW H)) : l.length ≤ Rows.uptoBulkAll l := by
  induction l with
  | nil => simp [Rows.uptoBulkAll]
  | cons x r ih => have := bulk_one x; simp only [Rows.uptoBulkAll, List.length_cons]; omega
section
variable {H : Type} {en : TypeId × Value → H} {W : World}
theorem one_cell {T base : Nat} {v : Value} {d : DataW H} {p : List MemPlace} (hn : ∀ cs, v ≠ .agg cs) (h : DataW.Trod en Try.prog W 0 (fun _ => true) true T v d p) : ∃ fuel, rd en Try.prog W fuel T [v] = some (d, p) := by
  obtain ⟨fuel, h⟩ := h
  have hv : v.cells.toList = [v] := by
    cases v with
    | agg cs => exact (hn cs rfl).elim
    | _ => rfl
  rw [hv] at h
  exact ⟨fuel, h⟩
set_option maxRecDepth 100000 in
theorem trod_text {T : TypeId} (hT : Try.prog.underlying T = some .string) {v : Value} {d : DataW H} {p : List MemPlace} {base : Nat} (hv : Value.okWide Try.prog W .any base T v) (h : DataW.Trod en Try.prog W 0 (fun _ => true) true T v d p) (hb : Rows.uptoBulk d ≤ 1048576) : ∃ l : List UInt8, Rel (G.start W) (.sc (.string ⟨⟨l⟩⟩)) v ∧ l.length < 2 ^ 21 := by
  obtain ⟨fuel, h⟩ := h
  have hv : v.cells.toList = [v] := by
    cases v with
    | agg cs => simp [Value.okWide, Cell.okWide, Cell.ok, hT] at hv
    | _ => rfl
  rw [hv] at h
  obtain ⟨l, h1, rfl⟩ := rd_string hT h
  cases h1
  exact ⟨l, rfl, by simp only [Rows.uptoBulk] at hb; omega⟩
set_option maxRecDepth 100000 in
theorem trod_num {T : TypeId} {k : IntKind} (hT : Try.prog.underlying T = some (.int k)) {v : Value} {d : DataW H} {p : List MemPlace} {base : Nat} (hv : Value.okWide Try.prog W .any base T v) (h : DataW.Trod en Try.prog W 0 (fun _ => true) true T v d p) : ∃ n : Int, Rel (G.start W) (.sc (.int k n)) v ∧ (k.min ≤ n ∧ n ≤ k.max) := by
  obtain ⟨fuel, h⟩ := h
  have hv : v.cells.toList = [v] := by
    cases v with
    | agg cs => simp [Value.okWide, Cell.okWide, Cell.ok, hT] at hv
    | _ => rfl
  rw [hv] at h
  obtain ⟨n, h1, rfl, hw⟩ := rd_int hT h
  cases h1
  exact ⟨n, rfl, by simpa [Lit.wf] using hw⟩
end
end Go.Proofs.Ytnhcmcfgemoehaa
