import Derived.Test.YtnhcmcfgemoehaaGreatAList
/- A procedure's row. -/
set_option linter.unusedSimpArgs false
set_option linter.unusedVariables false
set_option linter.unusedSectionVars false
namespace Go.Proofs.YtnhcmcfgemoehaaGreat
set_option maxRecDepth 4000
open Go.V
attribute [local simp] Nat.add_assoc

theorem q33 (m : Mem) : EH Tryz.prog ca (.func 33) [] m tableA m := ro_run rfl run22 table_out
theorem q7 (m : Mem) : EH Tryz.prog ca (.func 7) [] m (.sc (.bool true)) m := ro_run rfl run6 rfl
/-- The procedure of a number. -/
def rowOf (n : Int) : List UInt8 × Int × Int := if n < 0 ∨ 85 ≤ n then ([], 0, 0) else (rws[n.toNat]?).getD ([], 0, 0)
theorem rowOf_at {n : Int} (h : ¬ n < 0) (h2 : ¬ 85 ≤ n) : rws[n.toNat]? = some (rowOf n) := by
  have hl : n.toNat < rws.length := by rw [rws_length]; omega
  unfold rowOf
  rw [if_neg (by omega), List.getElem?_eq_getElem hl]
  rfl
theorem table_i {n : Int} (h : ¬ n < 0) (h2 : ¬ 85 ≤ n) : aindex Tryz.prog 87 tableA (int n) = some (.agg (rowC (rowOf n))) := by
  have := table_at (rowOf_at h h2)
  rwa [Int.toNat_of_nonneg (by omega)] at this
theorem rowOf_out {n : Int} (h : n < 0 ∨ 85 ≤ n) : rowOf n = ([], 0, 0) := by unfold rowOf; rw [if_pos h]
@[simp] theorem rowC_bel (r : List UInt8 × Int × Int) (n : Nat) : AV.bels n (rowC r) = true := rfl
@[simp] theorem rowC_fzs (r : List UInt8 × Int × Int) (m : Mem) : fzv m (.agg (rowC r)) = (.agg (rowC r), m) := rfl
set_option maxHeartbeats 4000000 in
theorem q31 (n : Int) : Gives Tryz.prog ca 31 [int n] (.tup [.agg (rowC (rowOf n)), .sc (.bool (!decide ((rowOf n).1 = [])))]) := by
  refine gives_run Tryz.func31 rfl rfl rfl rfl (by simp) (by simp [Tryz.f31]) (by simp [Tryz.f31]) fun m => ?_
  simp [Tryz.f31, show ca.keepRes 31 = false from rfl]
  by_cases h : n < 0
  · simp [h, abuild, placesOf, fillAt, rowOf_out (.inl h), rowC, oneOf]
  · by_cases h2 : 85 ≤ n
    · simp [h, h2, abuild, placesOf, fillAt, rowOf_out (.inr h2), rowC, oneOf]
    · simp [h, h2, (q33 _).go, table_i h h2]
      simp only [rowC]
      simp
      refine go_draw_of (by kernel_rfl) ?_
      simp
      refine goM_of (l := [(2, 4)]) (by kernel_rfl) (?_ : List.all _ _ = true) ?_
      · simp [metAt, metOk, rank, objOf, verKept, Region.wanted, Mem.ver]
      simp
end Go.Proofs.YtnhcmcfgemoehaaGreat
