import Derived.Test.YtnhcmcfgemoehaaPNum1
/- A product. -/
set_option linter.unusedSimpArgs false
set_option linter.unusedVariables false
set_option linter.unusedSectionVars false
namespace Go.Proofs.Ytnhcmcfgemoehaa
open Go.V
attribute [local simp] Nat.add_assoc
theorem ex_nat (n : Nat) : ∃ c, n = c := ⟨n, rfl⟩
theorem abin_shrN {P : Program} {t : TypeId} {xo yo : Operand} {k : IntKind} {n r : Nat} (h : n / 4294967296 = r) : abin P .shr t xo yo (.sc (.int .u64 n)) (.sc (.int k 32)) = some (.sc (.int .u64 (r : Int))) := by
  rw [abin_shr32, Int.fdiv_eq_ediv_of_nonneg _ (by omega)]
  have : (n : Int) / 2 ^ 32 = (r : Int) := by omega
  rw [this]
theorem abin_andN {P : Program} {t : TypeId} {xo yo : Operand} {n r : Nat} (h0 : n < 18446744073709551616) (h : n % 4294967296 = r) : abin P .and t xo yo (.sc (.int .u64 n)) (.sc (.int .u64 4294967295)) = some (.sc (.int .u64 (r : Int))) := by
  rw [abin_and32 h0]
  subst h
  rfl
theorem wrapMul {a b c : Nat} (h : a * b = c) (hc : c < 18446744073709551616) : IntKind.u64.wrap ((a : Int) * b) = c := by
  rw [show (a : Int) * b = ((a * b : Nat) : Int) from by simp, h]
  exact IntWalk.u64_in _ (by omega)
theorem wrapAdd {a b c : Nat} (h : a + b = c) (hc : c < 18446744073709551616) : IntKind.u64.wrap ((a : Int) + b) = c := by
  rw [show (a : Int) + b = ((a + b : Nat) : Int) from by simp, h]
  exact IntWalk.u64_in _ (by omega)

set_option maxHeartbeats 1000000 in
theorem a79c (x y lo x0 x1 y0 y1 w0 p u r t w1 w : Nat) (hx : x ≤ 1152921504606846976) (hy : y ≤ 1152921504606846976) (hlo : x * y = lo) (h : lo ≤ 1152921504606846976)
    (hx0 : x % 4294967296 = x0) (hx1 : x / 4294967296 = x1) (hy0 : y % 4294967296 = y0) (hy1 : y / 4294967296 = y1) (hw0 : x0 * y0 = w0) (hp : x1 * y0 = p) (hu : x0 * y1 = u) (hv : x1 * y1 = 0)
    (hr : w0 / 4294967296 = r) (ht : p + r = t) (hw1 : t % 4294967296 = w1) (hw2 : t / 4294967296 = 0) (hw : w1 + u = w) (hw3 : w / 4294967296 = 0) (b1 : w0 < 18446744073709551616) (b2 : p < 18446744073709551616) (b3 : u < 18446744073709551616) (b4 : t < 18446744073709551616) (b5 : w < 18446744073709551616) (b6 : x < 18446744073709551616) (b7 : y < 18446744073709551616) (b8 : lo < 18446744073709551616) :
    Gives Try.prog cp 79 [.sc (.int .u64 x), .sc (.int .u64 y)] (.tup [.sc (.int .u64 0), .sc (.int .u64 lo)]) := by
  refine gives_run Try.func79 rfl rfl rfl rfl (by simp) (by simp [Try.f79]) (by simp [Try.f79]) fun m => ?_
  have A1 := fun {t : TypeId} {xo yo : Operand} => abin_andN (P := Try.prog) (t := t) (xo := xo) (yo := yo) b6 hx0
  have A2 := fun {t : TypeId} {xo yo : Operand} => abin_andN (P := Try.prog) (t := t) (xo := xo) (yo := yo) b7 hy0
  have A3 := fun {t : TypeId} {xo yo : Operand} => abin_andN (P := Try.prog) (t := t) (xo := xo) (yo := yo) b4 hw1
  have S1 := fun {t : TypeId} {xo yo : Operand} {k : IntKind} => abin_shrN (P := Try.prog) (t := t) (xo := xo) (yo := yo) (k := k) hx1
  have S2 := fun {t : TypeId} {xo yo : Operand} {k : IntKind} => abin_shrN (P := Try.prog) (t := t) (xo := xo) (yo := yo) (k := k) hy1
  have S3 := fun {t : TypeId} {xo yo : Operand} {k : IntKind} => abin_shrN (P := Try.prog) (t := t) (xo := xo) (yo := yo) (k := k) hr
  have S4 := fun {t : TypeId} {xo yo : Operand} {k : IntKind} => abin_shrN (P := Try.prog) (t := t) (xo := xo) (yo := yo) (k := k) hw2
  have S5 := fun {t : TypeId} {xo yo : Operand} {k : IntKind} => abin_shrN (P := Try.prog) (t := t) (xo := xo) (yo := yo) (k := k) hw3
  have P1 := wrapMul hw0 b1
  have P2 := wrapMul hp b2
  have P3 := wrapMul hu b3
  have P4 := wrapMul hv (by omega)
  have P5 := wrapMul hlo b8
  have D1 := wrapAdd ht b4
  have D2 := wrapAdd hw b5
  have D3 : IntKind.u64.wrap 0 = 0 := IntWalk.u64_in 0 (by omega)
  clear hx0 hx1 hy0 hy1 hr hw1 hw2 hw3
  simp [Try.f79, show cp.keepRes 79 = false from rfl, abin_mul, A1, A2, A3, S1, S2, S3, S4, S5, P1, P2, P3, P4, P5, D1, D2, D3]
theorem mul_key (x1 x0 y1 y0 : Nat) : (x1 * 4294967296 + x0) * (y1 * 4294967296 + y0) = x1 * y1 * 18446744073709551616 + (x1 * y0 + x0 * y1) * 4294967296 + x0 * y0 := by
  have q1 : x1 * 4294967296 * (y1 * 4294967296) = x1 * y1 * 18446744073709551616 := by rw [Nat.mul_mul_mul_comm]
  have q2 : x1 * 4294967296 * y0 = x1 * y0 * 4294967296 := Nat.mul_right_comm _ _ _
  have q3 : x0 * (y1 * 4294967296) = x0 * y1 * 4294967296 := (Nat.mul_assoc _ _ _).symm
  rw [Nat.add_mul, Nat.mul_add, Nat.mul_add, q1, q2, q3, Nat.add_mul]
  omega
theorem mul_bits (x1 x0 y1 y0 V Pp U W : Nat) (h : V * 18446744073709551616 + (Pp + U) * 4294967296 + W ≤ 1152921504606846976) : V = 0 ∧ (Pp + W / 4294967296) / 4294967296 = 0 ∧ ((Pp + W / 4294967296) % 4294967296 + U) / 4294967296 = 0 ∧ W < 18446744073709551616 ∧ Pp < 18446744073709551616 ∧ U < 18446744073709551616 ∧ Pp + W / 4294967296 < 18446744073709551616 ∧ (Pp + W / 4294967296) % 4294967296 + U < 18446744073709551616 := by
  refine ⟨?_, ?_, ?_, ?_, ?_, ?_, ?_, ?_⟩ <;> omega
theorem a79 (x y lo : Nat) (hx : x ≤ 1152921504606846976) (hy : y ≤ 1152921504606846976) (hlo : x * y = lo) (h : lo ≤ 1152921504606846976) : Gives Try.prog cp 79 [.sc (.int .u64 x), .sc (.int .u64 y)] (.tup [.sc (.int .u64 0), .sc (.int .u64 lo)]) := by
  have k := mul_key (x / 4294967296) (x % 4294967296) (y / 4294967296) (y % 4294967296)
  rw [Nat.div_add_mod' x, Nat.div_add_mod' y, hlo] at k
  rw [k] at h
  have c := mul_bits 0 0 0 0 _ _ _ _ h
  exact a79c x y lo (x % 4294967296) (x / 4294967296) (y % 4294967296) (y / 4294967296) _ _ _ _ _ _ _ hx hy hlo (by rw [k]; exact h) (Eq.refl _) (Eq.refl _) (Eq.refl _) (Eq.refl _) (Eq.refl _) (Eq.refl _) (Eq.refl _) c.1 (Eq.refl _) (Eq.refl _) (Eq.refl _) c.2.1 (Eq.refl _) c.2.2.1 c.2.2.2.1 c.2.2.2.2.1 c.2.2.2.2.2.1 c.2.2.2.2.2.2.1 c.2.2.2.2.2.2.2 (Nat.lt_of_le_of_lt hx (by omega)) (Nat.lt_of_le_of_lt hy (by omega)) (Nat.lt_of_le_of_lt (by rw [k]; exact h) (show 1152921504606846976 < 18446744073709551616 by omega))
theorem sgn_mul (a b : Int) : (if (decide (a < 0) != decide (b < 0)) then -((a.natAbs * b.natAbs : Nat) : Int) else ((a.natAbs * b.natAbs : Nat) : Int)) = a * b := by
  rw [Int.natCast_mul]
  rcases Int.lt_or_le a 0 with h | h <;> rcases Int.lt_or_le b 0 with k | k
  · have e1 : a = -(a.natAbs : Int) := by omega
    have e2 : b = -(b.natAbs : Int) := by omega
    simp only [h, k, decide_true, bne_self_eq_false, Bool.false_eq_true, if_false]
    conv => rhs; rw [e1, e2, Int.neg_mul_neg]
  · have e1 : a = -(a.natAbs : Int) := by omega
    have e2 : b = (b.natAbs : Int) := by omega
    have k' : ¬ b < 0 := by omega
    simp only [h, k', decide_true, decide_false]
    conv => rhs; rw [e1, e2, Int.neg_mul]
    rfl
  · have e1 : a = (a.natAbs : Int) := by omega
    have e2 : b = -(b.natAbs : Int) := by omega
    have h' : ¬ a < 0 := by omega
    simp only [h', k, decide_true, decide_false]
    conv => rhs; rw [e1, e2, Int.mul_neg]
    rfl
  · have e1 : a = (a.natAbs : Int) := by omega
    have e2 : b = (b.natAbs : Int) := by omega
    have h' : ¬ a < 0 := by omega
    have k' : ¬ b < 0 := by omega
    simp only [h', k', decide_false, bne_self_eq_false, Bool.false_eq_true, if_false]
    conv => rhs; rw [e1, e2]
theorem a48 {a b : Int} (h1 : isIn a = true) (h2 : isIn b = true) (h3 : isIn (a * b) = true) : Gives Try.prog cp 48 [int a, int b] (.tup [int (a * b), int 0]) := by
  refine gives_run Try.func48 rfl rfl rfl rfl (by simp) (by simp [Try.f48]) (by simp [Try.f48]) fun m => ?_
  simp [Try.f48, show cp.keepRes 48 = false from rfl, abuildSlice, placesOf, fillAt, zeros]
  have hz : ∀ M : Mem, ∀ v, M.get m.next = some (.cells [int a, int b] false v) → fzvs M [.sl m.next 0 2 1 false (some 2)] = ([.lst [int a, int b]], M.mark m.next [int a, int b] v) := by
    intro M v h
    simp [fzvs, fz1, h, chunk]
  rw [(a77' a b).goF (hz _ _ (by simp; rfl))]
  have i1 := isIn_iff.1 h1
  have i2 := isIn_iff.1 h2
  have i3 := isIn_iff.1 h3
  have hab : a.natAbs * b.natAbs = (a * b).natAbs := (Int.natAbs_mul a b).symm
  have hle : a.natAbs * b.natAbs ≤ 1152921504606846976 := by rw [hab]; omega
  have sg := sgn_mul a b
  obtain ⟨c, hc⟩ := ex_nat (a.natAbs * b.natAbs)
  rw [hc] at sg hle
  have c81 := a81 (n := c) (decide (a < 0) != decide (b < 0)) hle (by rw [sg]; exact h3)
  rw [sg] at c81
  simp [h1, h2, (a80 h1).go, (a80 h2).go, (a79 _ _ c (by omega) (by omega) hc hle).go, abin_neqb Try.underlying4]
  rw [c81.go]
  simp
end Go.Proofs.Ytnhcmcfgemoehaa
