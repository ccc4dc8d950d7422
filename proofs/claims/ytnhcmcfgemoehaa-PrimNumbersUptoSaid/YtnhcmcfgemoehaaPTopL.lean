import Derived.Test.YtnhcmcfgemoehaaPTop
/- A list of numbers that is handed in. -/
set_option linter.unusedSimpArgs false
set_option linter.unusedVariables false
set_option linter.unusedSectionVars false
namespace Go.Proofs.Ytnhcmcfgemoehaa
open Go.V
section
variable {H : Type} {en : TypeId × Value → H} {W : World}
set_option maxRecDepth 100000 in
theorem trod_ints {T e : TypeId} (hT : Try.prog.underlying T = some (.slice e)) (he : Try.prog.underlying e = some (.int .i64)) (hk : 0 < Try.prog.cellsOf e) {v : Value} {d : DataW H} {p : List MemPlace} {base : Nat} (hv : Value.okWide Try.prog W .any base T v) (h : DataW.Trod en Try.prog W 0 (fun _ => true) true T v d p) (hb : Rows.uptoBulk d ≤ 1048576) : ∃ L : List Int, Rel (G.start W) (.lst (L.map int)) v ∧ True := by
  obtain ⟨fuel, h⟩ := h
  have hv : v.cells.toList = [v] := by
    cases v with
    | agg cs => simp [Value.okWide, Cell.okWide, Cell.ok, hT] at hv
    | _ => rfl
  rw [hv] at h
  obtain ⟨ys, h1, _⟩ := rd_lst hT hk h (fun n : Int => int n) (fun _ _ => True) (fun cs x p _ hx hl => by
    obtain ⟨n, rfl, rfl, _⟩ := rd_int he hx
    exact ⟨n, .int .i64 n, rfl, rfl, trivial⟩)
  exact ⟨ys, h1, trivial⟩
end
set_option maxRecDepth 100000 in
theorem trod22 {H : Type} {en : TypeId × Value → H} {W : World} {v : Value} {d : DataW H} {p : List MemPlace} {base : Nat} (hv : Value.okWide Try.prog W .any base 22 v) (h : DataW.Trod en Try.prog W 0 (fun _ => true) true 22 v d p) (hb : Rows.uptoBulk d ≤ 1048576) : ∃ L : List Int, Rel (G.start W) (.lst (L.map int)) v ∧ True := trod_ints Try.underlying22 Try.underlying2 (of_decide_eq_true (by kernel_rfl)) hv h hb
end Go.Proofs.Ytnhcmcfgemoehaa
