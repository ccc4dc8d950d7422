/- For all arguments that are not too great: the law 'PrimNames' is true, and what is handed in reads as it read. Conditions: none but the given bound of the second form. -/
import Derived.Test.YtnhcmcfgemoehaaGreatPNames
import Derived.Test.YtnhcmcfgemoehaaGreatPTop
set_option linter.unusedSimpArgs false
set_option linter.unusedVariables false
set_option linter.unusedSectionVars false
namespace Go.Proofs.YtnhcmcfgemoehaaGreat.primNames
open Go.V Go.ChangeShapes Go.WideShapes Go.ChangeAt Go.RowKit

theorem readable3 : Tryz.prog.readableRec 3 = true ∧ 3 < Tryz.prog.types.size := ⟨by kernel_rfl, of_decide_eq_true (by kernel_rfl)⟩
theorem readable5 : Tryz.prog.readableRec 5 = true ∧ 5 < Tryz.prog.types.size := ⟨by kernel_rfl, of_decide_eq_true (by kernel_rfl)⟩
theorem readable9 : Tryz.prog.readableRec 9 = true ∧ 9 < Tryz.prog.types.size := ⟨by kernel_rfl, of_decide_eq_true (by kernel_rfl)⟩
set_option maxRecDepth 100000 in
theorem contract (H : Type) (en : TypeId × Value → H) (W : World) (base : Nat) (args : Array Value) (ds gs : List (DataW H)) (before : List MemPlace)
    (hval : ∀ (j : Nat) t v, Tryz.f3.params[j]? = some t → args[j]? = some v → Value.okWide Tryz.prog W .any base t v)
    (hW : DataW.Whole en Tryz.prog Tryz.f3.params.toList Rows.primNamesSpec.vars false W args.toList ds gs before) (hk : Rows.uptoSmall H (ds ++ gs) = true) :
    Calls Tryz.prog 3 args W fun e W' => ∃ v, e = .returned v ∧ Rows.primNamesSpec.post en Tryz.prog Tryz.f3 false true false false W args v W' := by
  have hW' := hW
  obtain ⟨p, q, hA0, hV, rfl, hfz, hnd⟩ := hW
  have hA : DataW.TrodAll en Tryz.prog W 0 (fun _ => true) true Tryz.f3.params.toList args.toList ds p := hA0
  rw [Tryz.params3] at hA hval
  obtain ⟨v0, vs0, d0, ds0, p0, q0, hargs0, rfl, rfl, h0, r0⟩ := trodAll_cons hA
  obtain ⟨v1, vs1, d1, ds1, p1, q1, hargs1, rfl, rfl, h1, r1⟩ := trodAll_cons r0
  obtain ⟨v2, vs2, d2, ds2, p2, q2, hargs2, rfl, rfl, h2, r2⟩ := trodAll_cons r1
  obtain ⟨v3, vs3, d3, ds3, p3, q3, hargs3, rfl, rfl, h3, r3⟩ := trodAll_cons r2
  obtain ⟨rfl, rfl, rfl⟩ := trodAll_nil r3
  subst hargs1
  subst hargs2
  subst hargs3
  obtain rfl : args = #[v0, v1, v2, v3] := by cases args; simp_all
  obtain ⟨rfl, rfl⟩ := trodVars_none hV
  have hb : Rows.uptoBulkAll [d0, d1, d2, d3] ≤ 1048576 := by
    have := of_decide_eq_true hk
    simpa using this
  simp only [Rows.uptoBulkAll] at hb
  obtain ⟨x0, rl0, b0⟩ := trod_num Tryz.underlying3 (hval 0 3 v0 rfl rfl) h0
  obtain ⟨x1, rl1, b1⟩ := trod_text Tryz.underlying9 (hval 1 9 v1 rfl rfl) h1 (by omega)
  obtain ⟨x2, rl2, b2⟩ := trod_num Tryz.underlying3 (hval 2 3 v2 rfl rfl) h2
  obtain ⟨x3, rl3, b3⟩ := trod_num Tryz.underlying5 (hval 3 5 v3 rfl rfl) h3
  have run := g3 x0 x1 x2 x3 b3.1 (Int.lt_of_le_of_lt b3.2 (by decide)) Mem.empty [.sc (.int .i64 x0), .sc (.string ⟨⟨x1⟩⟩), .sc (.int .i64 x2), .sc (.int .u8 x3)] Mem.empty (by simp)
  refine (calls_true follows_mixed (hooksz _ W) Tryz.func3 rfl (by simp [Tryz.f3]) (.cons rl0 (.cons rl1 (.cons rl2 (.one rl3)))) run).mono fun e W' ⟨he, hbl⟩ => ?_
  subst he
  refine ⟨_, rfl, post_true laid_out rfl rfl Tryz.underlying4 (fun t ht => ?_) hW' (fun ds hds => ?_) hbl⟩
  · rw [Tryz.params3] at ht
    simp only [List.mem_cons, List.not_mem_nil, or_false] at ht
    rcases ht with rfl | rfl | rfl | rfl
    · exact readable3
    · exact readable9
    · exact readable3
    · exact readable5
  · rw [Tryz.params3] at hds
    rcases ds with _ | ⟨a, _ | ⟨a, _ | ⟨a, _ | ⟨a, _ | ⟨z, zs⟩⟩⟩⟩⟩ <;> simp at hds
    rfl

set_option maxRecDepth 100000 in
theorem lifted (os : Os) (started : os.Started) (H : Type) (enc : TypeId × Value → H) (F : Stop.Interp) :
    ReturnsInHanded {} Tryz.checked os 3 .any ((Rows.OpenSpec.upto Rows.primNamesSpec).pre6 enc Tryz.prog Tryz.f3 Rows.primNamesUptoRow.domain false) (((Rows.OpenSpec.upto Rows.primNamesSpec).at F).post enc Tryz.prog Tryz.f3 false true false false) := by
  refine returnsInHanded_of_cond (C := Tryz.checked) (s := Rows.OpenSpec.upto Rows.primNamesSpec) (k := Rows.uptoSmall) rfl own_knob started (by kernel_rfl) Tryz.func3
    (OpenSpec.witness (enc := enc) (C := Tryz.checked) (s := Rows.OpenSpec.upto Rows.primNamesSpec) (k := Rows.uptoSmall) rfl false ⟨#[], #[.int .i64 0, .string .empty, .int .i64 0, .int .u8 0], []⟩ 8 (by kernel_rfl) (by kernel_rfl) (by kernel_rfl)
      (x := ([.lit (.int .i64 0), .lit (.string []), .lit (.int .i64 0), .lit (.int .u8 0)], [], [])) (by kernel_rfl) rfl (by kernel_rfl)) ?_
  intro W base args ds gs before hval hW _ hk _
  exact contract H enc W base args ds gs before hval hW hk

theorem proved : Rows.PrimNamesUptoSaid :=
  OpenClaim.holds_of_cond 3 Tryz.f3 rfl rfl rfl rfl rfl rfl rfl ⟨rfl, rfl, rfl, rfl, rfl⟩ rfl rfl rfl rfl rfl (by kernel_rfl) Tryz.func3 (by kernel_rfl)
    (of_decide_eq_true (by kernel_rfl)) (by unfold Func.isWrapper; first | (rw [if_pos (by decide +kernel)]; kernel_rfl) | (rw [if_neg (by decide +kernel)]; exact ⟨rfl, rfl⟩))
    (fun os started H enc _ F => lifted os started H enc F)
end Go.Proofs.YtnhcmcfgemoehaaGreat.primNames
