import Derived.Test.YtnhcmcfgemoehaaPTold
/- Any procedure's name, and how many values it takes. -/
set_option linter.unusedSimpArgs false
set_option linter.unusedVariables false
set_option linter.unusedSectionVars false
namespace Go.Proofs.Ytnhcmcfgemoehaa
open Go.V
attribute [local simp] Nat.add_assoc

/-- The procedure of a number. -/
def rowOf (n : Int) : List UInt8 × Int × Int := if n < 0 ∨ 85 ≤ n then ([], 0, 0) else (rws[n.toNat]?).getD ([], 0, 0)
theorem rowOf_at {n : Int} (h : ¬ n < 0) (h2 : ¬ 85 ≤ n) : rws[n.toNat]? = some (rowOf n) := by
  have hl : n.toNat < rws.length := by rw [rws_length]; omega
  unfold rowOf
  rw [if_neg (by omega), List.getElem?_eq_getElem hl]
  rfl
theorem table_i {n : Int} (h : ¬ n < 0) (h2 : ¬ 85 ≤ n) : aindex Try.prog 69 tableA (int n) = some (.agg (rowC (rowOf n))) := by
  have := table_at (rowOf_at h h2)
  rwa [Int.toNat_of_nonneg (by omega)] at this
theorem rowOf_out {n : Int} (h : n < 0 ∨ 85 ≤ n) : rowOf n = ([], 0, 0) := by unfold rowOf; rw [if_pos h]
@[simp] theorem rowC_bel (r : List UInt8 × Int × Int) (n : Nat) : AV.bels n (rowC r) = true := rfl
@[simp] theorem rowC_fzs (r : List UInt8 × Int × Int) (m : Mem) : fzv m (.agg (rowC r)) = (.agg (rowC r), m) := rfl
set_option maxHeartbeats 4000000 in
theorem g15 (n : Int) : Gives Try.prog cp 15 [int n] (.tup [.agg (rowC (rowOf n)), .sc (.bool (!decide ((rowOf n).1 = [])))]) := by
  refine gives_run Try.func15 rfl rfl rfl rfl (by simp) (by simp [Try.f15]) (by simp [Try.f15]) fun m => ?_
  simp [Try.f15, show cp.keepRes 15 = false from rfl]
  by_cases h : n < 0
  · simp [h, abuild, placesOf, fillAt, rowOf_out (.inl h), rowC, oneOf]
  · by_cases h2 : 85 ≤ n
    · simp [h, h2, abuild, placesOf, fillAt, rowOf_out (.inr h2), rowC, oneOf]
    · simp [h, h2, (g22 _).go, table_i h h2]
      simp only [rowC]
      simp
      refine go_draw_of (by kernel_rfl) ?_
      simp
      refine goM_of (l := [(2, 4)]) (by kernel_rfl) (?_ : List.all _ _ = true) ?_
      · simp [metAt, metOk, rank, objOf, verKept, Region.wanted, Mem.ver]
      simp
set_option maxHeartbeats 4000000 in
theorem g13 (n : Int) : Gives Try.prog cp 13 [int n] (.tup [int (rowOf n).2.1, int (rowOf n).2.2]) := by
  refine gives_run Try.func13 rfl rfl rfl rfl (by simp) (by simp [Try.f13]) (by simp [Try.f13]) fun m => ?_
  simp [Try.f13, show cp.keepRes 13 = false from rfl, (g15 n).go]
  simp only [rowC]
  simp
  refine go_draw_of (by kernel_rfl) ?_
  simp
  refine goM_nil (by kernel_rfl) ?_
  simp
set_option maxHeartbeats 4000000 in
theorem g14 (n : Int) : Gives Try.prog cp 14 [int n] (.sc (.string ⟨⟨(rowOf n).1⟩⟩)) := by
  refine gives_run Try.func14 rfl rfl rfl rfl (by simp) (by simp [Try.f14]) (by simp [Try.f14]) fun m => ?_
  simp [Try.f14, show cp.keepRes 14 = false from rfl, (g15 n).go]
  simp only [rowC]
  simp

/-- The procedures that are told, as pairs. -/
def entP : List (List UInt8 × Int × Int) → Nat → List (Nat × List UInt8)
  | [], _ => []
  | r :: l, i => (if r.1 = [] then [] else [(i, r.1)]) ++ entP l (i + 1)
theorem ent_pairs : ∀ (l : List (List UInt8 × Int × Int)) (i : Nat), ent l i = (entP l i).map fun p => nmA p.1 p.2
  | [], i => rfl
  | r :: l, i => by
    simp only [ent, entP, List.map_append, ent_pairs l (i + 1)]
    split <;> simp
def prs : List (Nat × List UInt8) := entP rws 0
theorem ents_prs : ents 85 = prs.map fun p => nmA p.1 p.2 := by
  unfold ents prs
  rw [List.take_of_length_le (by rw [rws_length]; omega), ent_pairs]
def chk4 : Bool := prs.all fun p => decide (fnd p.2 = ((p.1 : Int), true)) && !decide (p.2 = []) && decide (0 ≤ (rowOf p.1).2.1) && (decide ((rowOf p.1).2.2 < 0) || decide ((rowOf p.1).2.1 ≤ (rowOf p.1).2.2)) && decide ((rowOf p.1).1 = p.2)
theorem chk4_true : chk4 = true := by kernel_rfl
theorem prs_nodup : (prs.map (·.2)).Nodup := of_decide_eq_true (by kernel_rfl)
theorem prs_length : prs.length = 76 := by kernel_rfl
theorem entP_any (s : List UInt8) : ∀ (l : List (List UInt8 × Int × Int)) (i : Nat), ((entP l i).map (·.2)).any (fun x => decide (x = s)) = l.any (isRow s)
  | [], i => rfl
  | r :: l, i => by
    simp only [entP, List.map_append, List.any_append, List.any_cons, entP_any s l (i + 1)]
    congr 1
    by_cases h : r.1 = []
    · simp [h, isRow]
    · simp [h, isRow]
/-- A name is found if and only if it is told. -/
theorem fnd_iff (s : List UInt8) : (fnd s).2 = (prs.map (·.2)).any fun x => decide (x = s) := by
  unfold prs
  rw [entP_any]
  unfold fnd
  cases h : rws.findIdx? (isRow s) with
  | none =>
    have := List.findIdx?_eq_none_iff.1 h
    symm
    simpa using this
  | some k =>
    obtain ⟨h1, h2, _⟩ := List.findIdx?_eq_some_iff_getElem.1 h
    symm
    exact List.any_eq_true.2 ⟨_, List.getElem_mem h1, h2⟩
theorem fnd_name (s : List UInt8) (h : (fnd s).2 = true) : (rowOf (fnd s).1).1 = s := by
  unfold fnd at h ⊢
  cases hk : rws.findIdx? (isRow s) with
  | none => rw [hk] at h; cases h
  | some k =>
    obtain ⟨h1, h2, _⟩ := List.findIdx?_eq_some_iff_getElem.1 hk
    have h3 : k < 85 := by rwa [rws_length] at h1
    have h4 := rowOf_at (n := (k : Int)) (by omega) (by omega)
    simp only [Int.toNat_natCast, List.getElem?_eq_getElem h1, Option.some.injEq] at h4
    dsimp only
    rw [← h4]
    simp only [isRow, Bool.and_eq_true, decide_eq_true_eq] at h2
    exact h2.2
theorem prs_chk {i : Nat} {p : Nat × List UInt8} (h : prs[i]? = some p) : fnd p.2 = ((p.1 : Int), true) ∧ p.2 ≠ [] ∧ 0 ≤ (rowOf p.1).2.1 ∧ ((rowOf p.1).2.2 < 0 ∨ (rowOf p.1).2.1 ≤ (rowOf p.1).2.2) := by
  have := List.all_eq_true.1 chk4_true p (List.mem_of_getElem? h)
  simp only [Bool.and_eq_true, Bool.or_eq_true, decide_eq_true_eq, Bool.not_eq_true', decide_eq_false_iff_not] at this
  obtain ⟨⟨⟨⟨a, b⟩, c⟩, d⟩, e⟩ := this
  exact ⟨a, b, c, d⟩
attribute [irreducible] prs

end Go.Proofs.Ytnhcmcfgemoehaa
