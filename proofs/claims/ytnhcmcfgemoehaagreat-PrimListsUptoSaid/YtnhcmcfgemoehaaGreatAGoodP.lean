import Derived.Test.YtnhcmcfgemoehaaGreatATab
/- Whether a value is of the kind that a procedure takes. -/
set_option linter.unusedSimpArgs false
set_option linter.unusedVariables false
set_option linter.unusedSectionVars false
namespace Go.Proofs.YtnhcmcfgemoehaaGreat
set_option maxRecDepth 4000
open Go.V
attribute [local simp] Nat.add_assoc

def goodP (a : ArM) (n : Int) (v : Val) (i : Int) : Bool :=
  if n ≤ 11 then decide (v.1 = 1) else if 50 ≤ n then decide (v.1 = 1) else if n = 39 then decide (v.1 = 1) else if n = 42 then decide (v.1 = 1)
  else if 16 ≤ n ∧ n ≤ 19 then decide (0 < i ∨ (getM a v).1.k = 1)
  else if n = 26 then decide (i = 0 ∨ v.1 = 1)
  else if n = 28 then decide (0 < i ∨ v.1 = 1)
  else if 29 ≤ n ∧ n ≤ 31 then decide ((i = 0 ∧ (getM a v).1.k = 2) ∨ (i = 1 ∧ v.1 = 1) ∨ i = 2)
  else if n = 33 ∨ n = 35 then decide ((i = 0 ∧ (getM a v).1.k = 3) ∨ (0 < i ∧ v.1 = 1))
  else if n = 32 ∨ n = 34 ∨ n = 36 ∨ n = 38 ∨ n = 40 then decide ((getM a v).1.k = 3)
  else if n = 37 then decide (v.1 = 5)
  else if n = 41 then decide (v.1 = 3)
  else true
set_option maxHeartbeats 16000000 in
theorem q38 {X : Nat → Prop} {A C : Nat} {n : Int} {l : List Val} {a : ArM} {k : Int} {m : Mem} (hA : Ar X A a m) (hsm : Small a) (hC : has m C (clC A n l k)) {i : Nat} {v : Val} (hv : l[i]? = some v) : EH Tryz.prog ca (.func 38) [.ptr C 0, int i] m (.sc (.bool (goodP a n v i))) m := by
  have k1 : Kp m ((m.new [int 0, int 0] false).set m.next [int v.1, int v.2]) := by simp
  have q := fun kd => (show EH Tryz.prog ca (.func 65) [.ptr C 0, .agg [int v.1, int v.2], int kd] _ _ _ from q65 (hA.kp k1) hsm (hC.kp k1) v kd)
  obtain ⟨hl, w, hg⟩ := hC
  have n0 : C ≠ m.next := by omega
  have hix : aindexAddr Tryz.prog 66 (.lst (vals l)) (int i) = some ((valA v).cptr 0) := vals_at hv
  refine eh_run Tryz.func38 rfl rfl rfl rfl (args1 := [.ptr C 0, int i]) (m1 := m) (by simp [fzvs]) (by simp) (by simp [Tryz.f38]) (by simp [Tryz.f38]) ?_
  simp only [Tryz.f38, show ca.keepRes 38 = false from rfl]
  obtain ⟨g, hgd⟩ : ∃ g, g = goodP a n v i := ⟨_, rfl⟩
  rw [← hgd]
  simp [hg, n0, hix, valA_agg]
  by_cases a1 : n ≤ 11
  · rw [goodP, if_pos a1] at hgd
    simp [a1, hgd]
  by_cases a2 : 50 ≤ n
  · rw [goodP, if_neg a1, if_pos a2] at hgd
    simp [a1, a2, hgd]
  by_cases a3 : n = 39
  · rw [goodP, if_neg a1, if_neg a2, if_pos a3] at hgd
    simp [a3, hgd]
  by_cases a4 : n = 42
  · rw [goodP, if_neg a1, if_neg a2, if_neg a3, if_pos a4] at hgd
    simp [a4, hgd]
  rw [goodP, if_neg a1, if_neg a2, if_neg a3, if_neg a4] at hgd
  by_cases a5 : 16 ≤ n ∧ n ≤ 19
  · rw [if_pos a5] at hgd
    simp [a1, a2, a3, a4, a5]
    by_cases hi : 0 < i
    · simp [hi, hgd]
    · simp [hi, (q 1).go, hgd]
  rw [if_neg a5] at hgd
  by_cases b1 : 16 ≤ n
  rotate_left
  · have c1 : n ≠ 26 := by omega
    have c2 : n ≠ 28 := by omega
    have c3 : ¬ 29 ≤ n := by omega
    have c4 : n ≠ 33 := by omega
    have c5 : n ≠ 35 := by omega
    have c6 : n ≠ 32 := by omega
    have c7 : n ≠ 34 := by omega
    have c8 : n ≠ 36 := by omega
    have c9 : n ≠ 38 := by omega
    have d1 : n ≠ 40 := by omega
    have d2 : n ≠ 37 := by omega
    have d3 : n ≠ 41 := by omega
    rw [if_neg c1, if_neg c2, if_neg (by omega), if_neg (by omega), if_neg (by omega), if_neg d2, if_neg d3] at hgd
    simp [a1, a2, a3, a4, b1, c1, c2, c3, c4, c5, c6, c7, c8, c9, d1, d2, d3, hgd]
  have b2 : ¬ n ≤ 19 := by omega
  by_cases c1 : n = 26
  · rw [if_pos c1] at hgd
    subst c1
    by_cases hi : i = 0
    · simp [hi, hgd]
    · have hi' : ¬ (i : Int) = 0 := by omega
      simp [hi, hgd]
  rw [if_neg c1] at hgd
  by_cases c2 : n = 28
  · rw [if_pos c2] at hgd
    subst c2
    by_cases hi : 0 < i
    · simp [hi, hgd]
    · simp [hi, hgd]
  rw [if_neg c2] at hgd
  by_cases c3 : 29 ≤ n ∧ n ≤ 31
  · rw [if_pos c3] at hgd
    simp [a1, a2, a3, a4, b1, b2, c1, c2, c3]
    by_cases h0 : i = 0
    · subst h0
      by_cases hk : (getM a v).1.k = 2
      · simp [(q 2).go, hgd, hk, undefV, undef]
      · simp [(q 2).go, hgd, hk, undefV, undef]
    · by_cases h1 : i = 1
      · subst h1
        by_cases hk : v.1 = 1
        · simp [hk, hgd, undefV, undef]
        · simp [hk, hgd, undefV, undef]
      · have h1' : ¬ (i : Int) = 1 := by omega
        simp [h0, h1', h1, hgd, undefV, undef]
  rw [if_neg c3] at hgd
  have c3' : ¬ (29 ≤ n ∧ n ≤ 31) := c3
  by_cases e1 : 29 ≤ n
  rotate_left
  · have c4 : n ≠ 33 := by omega
    have c5 : n ≠ 35 := by omega
    have c6 : n ≠ 32 := by omega
    have c7 : n ≠ 34 := by omega
    have c8 : n ≠ 36 := by omega
    have c9 : n ≠ 38 := by omega
    have d1 : n ≠ 40 := by omega
    have d2 : n ≠ 37 := by omega
    have d3 : n ≠ 41 := by omega
    rw [if_neg (by omega), if_neg (by omega), if_neg d2, if_neg d3] at hgd
    simp [a1, a2, a3, a4, b1, b2, c1, c2, e1, c4, c5, c6, c7, c8, c9, d1, d2, d3, hgd]
  have e2 : ¬ n ≤ 31 := by omega
  by_cases c4 : n = 33 ∨ n = 35
  · rw [if_pos c4] at hgd
    by_cases h0 : i = 0
    · subst h0
      by_cases hk : (getM a v).1.k = 3
      · rcases c4 with rfl | rfl
        · simp [(q 3).go, hgd, hk, undefV, undef]
        · simp [(q 3).go, hgd, hk, undefV, undef]
      · rcases c4 with rfl | rfl
        · simp [(q 3).go, hgd, hk, undefV, undef]
        · simp [(q 3).go, hgd, hk, undefV, undef]
    · have hi : 0 < i := by omega
      rcases c4 with rfl | rfl
      · simp [h0, hi, hgd, undefV, undef]
      · simp [h0, hi, hgd, undefV, undef]
  rw [if_neg c4] at hgd
  by_cases c5 : n = 32 ∨ n = 34 ∨ n = 36 ∨ n = 38 ∨ n = 40
  · rw [if_pos c5] at hgd
    rcases c5 with rfl | rfl | rfl | rfl | rfl
    · simp [(q 3).go, hgd]
    · simp [(q 3).go, hgd]
    · simp [(q 3).go, hgd]
    · simp [(q 3).go, hgd]
    · simp [(q 3).go, hgd]
  rw [if_neg c5] at hgd
  by_cases c6 : n = 37
  · rw [if_pos c6] at hgd
    subst c6
    simp [hgd]
  rw [if_neg c6] at hgd
  by_cases c7 : n = 41
  · rw [if_pos c7] at hgd
    subst c7
    simp [hgd]
  rw [if_neg c7] at hgd
  have d1 : n ≠ 33 := by omega
  have d2 : n ≠ 35 := by omega
  have d3 : n ≠ 32 := by omega
  have d4 : n ≠ 34 := by omega
  have d5 : n ≠ 36 := by omega
  have d6 : n ≠ 38 := by omega
  have d7 : n ≠ 40 := by omega
  simp [a1, a2, a3, a4, b1, b2, c1, c2, e1, e2, c6, c7, d1, d2, d3, d4, d5, d6, d7, hgd]
end Go.Proofs.YtnhcmcfgemoehaaGreat
