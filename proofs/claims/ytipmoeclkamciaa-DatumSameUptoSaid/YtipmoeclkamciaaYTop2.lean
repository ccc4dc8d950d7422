import Derived.Test.YtipmoeclkamciaaYTop
/- Texts and bytes as they are read. -/
set_option linter.unusedSimpArgs false
set_option linter.unusedVariables false
set_option linter.unusedSectionVars false
namespace Go.Proofs.Ytipmoeclkamciaa
open Go.V
section
variable {H : Type} {en : TypeId × Value → H} {W : World}
theorem trod_text {v : Value} {d : DataW H} {p : List MemPlace} {base : Nat} (hv : Value.okWide Try.prog W .any base 9 v) (h : DataW.Trod en Try.prog W 0 (fun _ => true) true 9 v d p) (hb : Rows.uptoBulk d ≤ 1048576) : ∃ l : List UInt8, Rel (G.start W) (.sc (.string ⟨⟨l⟩⟩)) v ∧ l.length < 2 ^ 21 := by
  obtain ⟨fuel, h⟩ := h
  have hv : v.cells.toList = [v] := by
    cases v with
    | agg cs => simp [Value.okWide, Cell.okWide, Cell.ok, Try.underlying9] at hv
    | _ => rfl
  rw [hv] at h
  obtain ⟨l, h1, rfl⟩ := rd_string Try.underlying9 h
  cases h1
  exact ⟨l, rfl, by simp only [Rows.uptoBulk] at hb; omega⟩
theorem trod_byte {v : Value} {d : DataW H} {p : List MemPlace} {base : Nat} (hv : Value.okWide Try.prog W .any base 5 v) (h : DataW.Trod en Try.prog W 0 (fun _ => true) true 5 v d p) : ∃ n : Int, Rel (G.start W) (.sc (.int .u8 n)) v ∧ (0 ≤ n ∧ n ≤ 255) := by
  obtain ⟨fuel, h⟩ := h
  have hv : v.cells.toList = [v] := by
    cases v with
    | agg cs => simp [Value.okWide, Cell.okWide, Cell.ok, Try.underlying5] at hv
    | _ => rfl
  rw [hv] at h
  obtain ⟨n, h1, rfl, hw⟩ := rd_int Try.underlying5 h
  cases h1
  exact ⟨n, rfl, by simpa [Lit.wf, IntKind.min, IntKind.max, IntKind.signed, IntKind.bits] using hw⟩
end
end Go.Proofs.Ytipmoeclkamciaa
