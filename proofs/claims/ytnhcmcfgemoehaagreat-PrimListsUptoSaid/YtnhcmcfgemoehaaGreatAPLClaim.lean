/- For all arguments that are not too great: the law 'PrimLists' is true, and what is handed in reads as it read. Conditions: none but the given bound of the second form. -/
import Derived.Test.YtnhcmcfgemoehaaGreatAPL
import Derived.Test.YtnhcmcfgemoehaaGreatATop
set_option linter.unusedSimpArgs false
set_option linter.unusedVariables false
set_option linter.unusedSectionVars false
namespace Go.Proofs.YtnhcmcfgemoehaaGreat.primLists
open Go.V Go.ChangeShapes Go.WideShapes Go.ChangeAt Go.RowKit

set_option maxRecDepth 100000 in
theorem contract (H : Type) (en : TypeId × Value → H) (W : World) (base : Nat) (args : Array Value) (ds gs : List (DataW H)) (before : List MemPlace)
    (hval : ∀ (j : Nat) t v, Tryz.f4.params[j]? = some t → args[j]? = some v → Value.okWide Tryz.prog W .any base t v)
    (hW : DataW.Whole en Tryz.prog Tryz.f4.params.toList Rows.primListsSpec.vars false W args.toList ds gs before) (hk : Rows.uptoSmall H (ds ++ gs) = true) :
    Calls Tryz.prog 4 args W fun e W' => ∃ v, e = .returned v ∧ Rows.primListsSpec.post en Tryz.prog Tryz.f4 false true false false W args v W' := by
  have hW' := hW
  obtain ⟨p, q, hA0, hV, rfl, hfz, hnd⟩ := hW
  have hA : DataW.TrodAll en Tryz.prog W 0 (fun _ => true) true Tryz.f4.params.toList args.toList ds p := hA0
  rw [Tryz.params4] at hA hval
  obtain ⟨v0, vs0, d0, ds0, p0, q0, hargs0, rfl, rfl, h0, r0⟩ := trodAll_cons hA
  obtain ⟨v1, vs1, d1, ds1, p1, q1, hargs1, rfl, rfl, h1, r1⟩ := trodAll_cons r0
  obtain ⟨v2, vs2, d2, ds2, p2, q2, hargs2, rfl, rfl, h2, r2⟩ := trodAll_cons r1
  obtain ⟨v3, vs3, d3, ds3, p3, q3, hargs3, rfl, rfl, h3, r3⟩ := trodAll_cons r2
  obtain ⟨rfl, rfl, rfl⟩ := trodAll_nil r3
  subst hargs1
  subst hargs2
  subst hargs3
  obtain rfl : args = #[v0, v1, v2, v3] := by cases args; simp_all
  obtain ⟨rfl, rfl⟩ := trodVars_none hV
  have hb : Rows.uptoBulkAll [d0, d1, d2, d3] ≤ 1048576 := by
    have := of_decide_eq_true hk
    simpa using this
  simp only [Rows.uptoBulkAll] at hb
  obtain ⟨x0, rl0, b0⟩ := trod_dats (hval 0 43 v0 rfl rfl) h0 (by omega)
  obtain ⟨x1, rl1, b1⟩ := trod_num Tryz.underlying44 (hval 1 44 v1 rfl rfl) h1
  obtain ⟨x2, rl2, b2⟩ := trod_num Tryz.underlying44 (hval 2 44 v2 rfl rfl) h2
  obtain ⟨x3, rl3, b3⟩ := trod_num Tryz.underlying44 (hval 3 44 v3 rfl rfl) h3
  have c1 : 0 ≤ x1 ∧ x1 ≤ 65535 := b1
  have c2 : 0 ≤ x2 ∧ x2 ≤ 65535 := b2
  have c3 : 0 ≤ x3 ∧ x3 ≤ 65535 := b3
  clear b1 b2 b3
  obtain ⟨y1, rfl⟩ : ∃ n : Nat, x1 = n := ⟨x1.toNat, by omega⟩
  obtain ⟨y2, rfl⟩ : ∃ n : Nat, x2 = n := ⟨x2.toNat, by omega⟩
  obtain ⟨y3, rfl⟩ : ∃ n : Nat, x3 = n := ⟨x3.toNat, by omega⟩
  have run := q4 x0 (fitss_all b0.1) y1 y2 y3 (by omega) (by omega) (by omega) Mem.empty
  refine (calls_true follows_mixed (hooksA _ W) Tryz.func4 rfl (by simp [Tryz.f4]) (.cons rl0 (.cons rl1 (.cons rl2 (.one rl3)))) run).mono fun e W' ⟨he, hbl⟩ => ?_
  subst he
  refine ⟨_, rfl, post_true laid_out rfl rfl Tryz.underlying4 (fun t ht => ?_) hW' (fun ds hds => ?_) hbl⟩
  · rw [Tryz.params4] at ht
    simp only [List.mem_cons, List.not_mem_nil, or_false] at ht
    rcases ht with rfl | rfl | rfl | rfl
    · exact readable43
    · exact readable44
    · exact readable44
    · exact readable44
  · rw [Tryz.params4] at hds
    rcases ds with _ | ⟨a, _ | ⟨a, _ | ⟨a, _ | ⟨a, _ | ⟨z, zs⟩⟩⟩⟩⟩ <;> simp at hds
    rfl

set_option maxRecDepth 100000 in
theorem lifted (os : Os) (started : os.Started) (H : Type) (enc : TypeId × Value → H) (F : Stop.Interp) :
    ReturnsInHanded {} Tryz.checked os 4 .any ((Rows.OpenSpec.upto Rows.primListsSpec).pre6 enc Tryz.prog Tryz.f4 Rows.primListsUptoRow.domain false) (((Rows.OpenSpec.upto Rows.primListsSpec).at F).post enc Tryz.prog Tryz.f4 false true false false) := by
  refine returnsInHanded_of_cond (C := Tryz.checked) (s := Rows.OpenSpec.upto Rows.primListsSpec) (k := Rows.uptoSmall) rfl own_knob started (by kernel_rfl) Tryz.func4
    (OpenSpec.witness (enc := enc) (C := Tryz.checked) (s := Rows.OpenSpec.upto Rows.primListsSpec) (k := Rows.uptoSmall) rfl false ⟨#[], #[.slice none 0 0, .int .u16 0, .int .u16 0, .int .u16 0], []⟩ 8 (by kernel_rfl) (by kernel_rfl) (by kernel_rfl)
      (x := ([.nil, .lit (.int .u16 0), .lit (.int .u16 0), .lit (.int .u16 0)], [], [])) (by kernel_rfl) rfl (by kernel_rfl)) ?_
  intro W base args ds gs before hval hW _ hk _
  exact contract H enc W base args ds gs before hval hW hk

theorem proved : Rows.PrimListsUptoSaid :=
  OpenClaim.holds_of_cond 4 Tryz.f4 rfl rfl rfl rfl rfl rfl rfl ⟨rfl, rfl, rfl, rfl, rfl⟩ rfl rfl rfl rfl rfl (by kernel_rfl) Tryz.func4 (by kernel_rfl)
    (of_decide_eq_true (by kernel_rfl)) (by unfold Func.isWrapper; first | (rw [if_pos (by decide +kernel)]; kernel_rfl) | (rw [if_neg (by decide +kernel)]; exact ⟨rfl, rfl⟩))
    (fun os started H enc _ F => lifted os started H enc F)
end Go.Proofs.YtnhcmcfgemoehaaGreat.primLists
