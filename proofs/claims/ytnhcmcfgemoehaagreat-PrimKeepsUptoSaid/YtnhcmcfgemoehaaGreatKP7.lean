import Derived.Test.YtnhcmcfgemoehaaGreatKP6
import Derived.WalkKit
import Derived.ProofKit
import Derived.OpenShut
import Derived.JoinedCond
/- Numbers. -/
set_option linter.unusedSimpArgs false
set_option linter.unusedVariables false
set_option linter.unusedSectionVars false
namespace Go.Proofs.YtnhcmcfgemoehaaGreat
set_option maxRecDepth 4000
open Go.V
attribute [local simp] Nat.add_assoc
section
variable {P : Program} {t : TypeId} {x y : Operand} {q k : IntKind} {a b : Int}
theorem abin_mul : abin P .mul t x y (.sc (.int q a)) (.sc (.int q b)) = some (.sc (.int q (q.wrap (a * b)))) := by
  simp only [abin, plain, eqGuard, binOp, Op.intArith]; simp; rfl
theorem abin_quo (h : b ≠ 0) : abin P .quo t x y (.sc (.int q a)) (.sc (.int q b)) = some (.sc (.int q (q.wrap (a.tdiv b)))) := by
  simp only [abin, plain, eqGuard, binOp, Op.intDiv]; simp [h]; rfl
theorem abin_rem (h : b ≠ 0) : abin P .rem t x y (.sc (.int q a)) (.sc (.int q b)) = some (.sc (.int q (a.tmod b))) := by
  simp only [abin, plain, eqGuard, binOp, Op.intDiv]; simp [h]; rfl
theorem abin_shr32 : abin P .shr t x y (.sc (.int .u64 a)) (.sc (.int k 32)) = some (.sc (.int .u64 (a.fdiv (2 ^ 32)))) := by
  simp only [abin, plain, eqGuard, binOp, Op.shift]; simp; rfl
theorem abin_and32 {n : Nat} (h : n < 2 ^ 64) : abin P .and t x y (.sc (.int .u64 n)) (.sc (.int .u64 4294967295)) = some (.sc (.int .u64 ((n % 2 ^ 32 : Nat) : Int))) := by
  have e : abin P .and t x y (.sc (.int .u64 n)) (.sc (.int .u64 4294967295)) = some (.sc (.int .u64 (IntKind.u64.wrap ((BitVec.ofInt 64 n &&& BitVec.ofInt 64 4294967295).toNat)))) := rfl
  rw [e]
  have h2 : (BitVec.ofInt 64 (n : Int) &&& BitVec.ofInt 64 4294967295).toNat = n % 2 ^ 32 := by
    rw [BitVec.toNat_and]
    have h3 : (BitVec.ofInt 64 4294967295).toNat = 2 ^ 32 - 1 := rfl
    have h4 : (BitVec.ofInt 64 (n : Int)).toNat = n := by
      rw [BitVec.toNat_ofInt]
      omega
    rw [h3, h4, Nat.and_two_pow_sub_one_eq_mod]
  rw [h2, IntWalk.u64_in _ (by omega)]
end
theorem un_neg {P : Program} {a : Int} : pureRun P (Op.unary .neg (.int .i64 a)) = some (.int .i64 (IntKind.i64.wrap (-a))) := by
  rw [← Int.zero_sub]; rfl
theorem amin2 {t u T : TypeId} {a b : Int} {m : Mem} : abuiltin Tryz.prog .min #[t, u] T [int a, int b] m = some (int (min a b), m) := by
  show Option.map (·, m) (Option.map AV.sc (pureRun Tryz.prog (Builtin.min_ #[t, u] T [Value.int .i64 a, Value.int .i64 b].toArray))) = _
  have : pureRun Tryz.prog (Builtin.min_ #[t, u] T [Value.int .i64 a, Value.int .i64 b].toArray) = some (.int .i64 (if b < a then b else a)) := rfl
  rw [this]
  have : (if b < a then b else a) = min a b := by simp only [Int.min_def]; split <;> split <;> omega
  rw [this]
  rfl
theorem isIn_iff {n : Int} : isIn n = true ↔ -1152921504606846976 ≤ n ∧ n ≤ 1152921504606846975 := by unfold isIn; simp
def allIn (l : List Int) : Int := if l.all isIn then 0 else 1
set_option maxHeartbeats 4000000 in
theorem q165 (l : List Int) (hl : l.length ≤ 1000) : Gives Tryz.prog ca 165 [.lst (l.map int)] (int (allIn l)) := by
  refine gives_run Tryz.func165 rfl rfl rfl rfl (by simp) (by simp [Tryz.f165]) (by simp [Tryz.f165]) fun m => ?_
  simp [Tryz.f165, show ca.keepRes 165 = false from rfl]
  refine go_count 7 l.length (fun i s' m' => Kp m m' ∧ s'.at 5 = .lst (l.map int) ∧ s'.at 6 = int l.length ∧ ∀ j n, j < i → l[j]? = some n → isIn n = true) (by simp) (by omega) ⟨by simp, by simp, by simp, fun j p hj => absurd hj (Nat.not_lt_zero j)⟩ ?_
  rintro i s' m' hi e7 ⟨hkp, e5, e6, hno⟩ hsame hw Q' hn he
  simp [e7, e6]
  refine goB_split (fun h => ?_) fun h => ?_
  · have hlt : i < l.length := by have := of_decide_eq_true h; omega
    obtain ⟨p, hp⟩ : ∃ p, l[i]? = some p := ⟨_, List.getElem?_eq_getElem hlt⟩
    have hx := aindexAddr_lst (q := .i64) (x := int p) (l := l.map int) (i := i) Tryz.underlying211 tsize2 (by rw [List.getElem?_map, hp]; rfl) (by simp)
    simp [e7, e5, hx, (q74 p).go]
    cases e : isIn p with
    | false =>
      have : allIn l = 1 := by
        unfold allIn
        rw [List.all_eq_false.2 ⟨p, List.mem_of_getElem? hp, by simp [e]⟩]
        rfl
      simp
      refine he _ _ _ (by simp) ?_
      simp [this]
      exact hkp
    | true =>
      simp [e7, hw]
      refine hn _ _ hlt (by simp) ⟨hkp, by simp [e5], by simp [e6], fun j n hj hp' => ?_⟩
      by_cases ej : j = i
      · subst ej; rw [hp] at hp'; cases hp'; exact e
      · exact hno j n (by omega) hp'
  · have hge : i = l.length := by have := of_decide_eq_false h; omega
    subst hge
    have : allIn l = 0 := by
      unfold allIn
      rw [List.all_eq_true.2]
      · rfl
      intro p hp
      obtain ⟨j, hj, rfl⟩ := List.mem_iff_getElem.1 hp
      exact hno j _ hj (List.getElem?_eq_getElem hj)
    simp
    refine he _ _ _ (by simp) ?_
    simp [this]
    exact hkp
theorem q165' (a b : Int) : Gives Tryz.prog ca 165 [.lst [int a, int b]] (int (if isIn a && isIn b then 0 else 1)) := by
  have := q165 [a, b] (by simp)
  have e : allIn [a, b] = if isIn a && isIn b then 0 else 1 := by simp [allIn]
  rw [e] at this
  exact this
/-- A result, or that it is none. -/
def fitR (n : Int) : Int × Int := if isIn n then (n, 0) else (0, 10)
theorem q166 (n : Int) : Gives Tryz.prog ca 166 [int n] (.tup [int (fitR n).1, int (fitR n).2]) := by
  refine gives_run Tryz.func166 rfl rfl rfl rfl (by simp) (by simp [Tryz.f166]) (by simp [Tryz.f166]) fun m => ?_
  simp [Tryz.f166, show ca.keepRes 166 = false from rfl, (q74 n).go]
  unfold fitR
  cases isIn n <;> simp
theorem both_in {a b : Int} (h : ¬ (isIn a = true ∧ isIn b = true)) : (isIn a && isIn b) = false := by
  rw [← Bool.not_eq_true, Bool.and_eq_true]; exact h
/-- May a number be parted by another one? -/
def prtR (a b : Int) : Int := if isIn a && isIn b then (if b = 0 then 11 else 0) else 1
theorem q170 (a b : Int) : Gives Tryz.prog ca 170 [int a, int b] (int (prtR a b)) := by
  refine gives_run Tryz.func170 rfl rfl rfl rfl (by simp) (by simp [Tryz.f170]) (by simp [Tryz.f170]) fun m => ?_
  simp [Tryz.f170, show ca.keepRes 170 = false from rfl, abuildSlice, placesOf, fillAt, zeros]
  have hz : ∀ M : Mem, ∀ v, M.get m.next = some (.cells [int a, int b] false v) → fzvs M [.sl m.next 0 2 1 false (some 2)] = ([.lst [int a, int b]], M.mark m.next [int a, int b] v) := by
    intro M v h
    simp [fzvs, fz1, h, chunk]
  rw [(q165' a b).goF (hz _ _ (by simp; rfl))]
  unfold prtR
  generalize hb : isIn b = y
  cases isIn a <;> cases y <;> simp
  by_cases h2 : b = 0
  · simp [h2]
  · simp [h2]
/-- A quotient, and a rest. -/
def quoR (a b : Int) : Int × Int := if prtR a b = 0 then fitR (a.tdiv b) else (0, prtR a b)
def remR (a b : Int) : Int × Int := if prtR a b = 0 then (a.tmod b, 0) else (0, prtR a b)
theorem prt_zero {a b : Int} (h : prtR a b = 0) : isIn a = true ∧ isIn b = true ∧ b ≠ 0 := by
  unfold prtR at h
  split at h
  · split at h
    · cases h
    · rename_i h1 h2
      simp only [Bool.and_eq_true] at h1
      exact ⟨h1.1, h1.2, h2⟩
  · cases h
theorem tdiv_abs (a b : Int) : (a.tdiv b).natAbs ≤ a.natAbs := by
  rw [Int.natAbs_tdiv]; exact Nat.div_le_self _ _
theorem q122 (a b : Int) : Gives Tryz.prog ca 122 [int a, int b] (.tup [int (quoR a b).1, int (quoR a b).2]) := by
  refine gives_run Tryz.func122 rfl rfl rfl rfl (by simp) (by simp [Tryz.f122]) (by simp [Tryz.f122]) fun m => ?_
  simp [Tryz.f122, show ca.keepRes 122 = false from rfl, (q170 a b).go]
  by_cases h : prtR a b = 0
  · obtain ⟨h1, h2, h3⟩ := prt_zero h
    rw [isIn_iff] at h1
    have h4 := tdiv_abs a b
    have hw : IntKind.i64.wrap (a.tdiv b) = a.tdiv b := IntWalk.i64_in _ (by omega)
    simp [h, abin_quo h3, hw, (q166 _).go, quoR]
  · simp [h, quoR]
theorem q123 (a b : Int) : Gives Tryz.prog ca 123 [int a, int b] (.tup [int (remR a b).1, int (remR a b).2]) := by
  refine gives_run Tryz.func123 rfl rfl rfl rfl (by simp) (by simp [Tryz.f123]) (by simp [Tryz.f123]) fun m => ?_
  simp [Tryz.f123, show ca.keepRes 123 = false from rfl, (q170 a b).go]
  by_cases h : prtR a b = 0
  · obtain ⟨h1, h2, h3⟩ := prt_zero h
    simp [h, abin_rem h3, remR]
  · simp [h, remR]
def addR (a b : Int) : Int × Int := if isIn a && isIn b then fitR (a + b) else (0, 1)
theorem q114 (a b : Int) : Gives Tryz.prog ca 114 [int a, int b] (.tup [int (addR a b).1, int (addR a b).2]) := by
  refine gives_run Tryz.func114 rfl rfl rfl rfl (by simp) (by simp [Tryz.f114]) (by simp [Tryz.f114]) fun m => ?_
  simp [Tryz.f114, show ca.keepRes 114 = false from rfl, abuildSlice, placesOf, fillAt, zeros]
  have hz : ∀ M : Mem, ∀ v, M.get m.next = some (.cells [int a, int b] false v) → fzvs M [.sl m.next 0 2 1 false (some 2)] = ([.lst [int a, int b]], M.mark m.next [int a, int b] v) := by
    intro M v h
    simp [fzvs, fz1, h, chunk]
  rw [(q165' a b).goF (hz _ _ (by simp; rfl))]
  unfold addR
  by_cases h : isIn a = true ∧ isIn b = true
  · have h1 := isIn_iff.1 h.1
    have h2 := isIn_iff.1 h.2
    have hw : IntKind.i64.wrap (a + b) = a + b := IntWalk.i64_in _ (by omega)
    simp [h.1, h.2, hw, (q166 _).go]
  · have e := both_in h
    simp [e]
def subR (a b : Int) : Int × Int := if isIn a && isIn b then fitR (a - b) else (0, 1)
theorem q117 (a b : Int) : Gives Tryz.prog ca 117 [int a, int b] (.tup [int (subR a b).1, int (subR a b).2]) := by
  refine gives_run Tryz.func117 rfl rfl rfl rfl (by simp) (by simp [Tryz.f117]) (by simp [Tryz.f117]) fun m => ?_
  simp [Tryz.f117, show ca.keepRes 117 = false from rfl, abuildSlice, placesOf, fillAt, zeros]
  have hz : ∀ M : Mem, ∀ v, M.get m.next = some (.cells [int a, int b] false v) → fzvs M [.sl m.next 0 2 1 false (some 2)] = ([.lst [int a, int b]], M.mark m.next [int a, int b] v) := by
    intro M v h
    simp [fzvs, fz1, h, chunk]
  rw [(q165' a b).goF (hz _ _ (by simp; rfl))]
  unfold subR
  by_cases h : isIn a = true ∧ isIn b = true
  · have h1 := isIn_iff.1 h.1
    have h2 := isIn_iff.1 h.2
    have hw : IntKind.i64.wrap (a - b) = a - b := IntWalk.i64_in _ (by omega)
    simp [h.1, h.2, hw, (q166 _).go]
  · have e := both_in h
    simp [e]
def negR (a : Int) : Int × Int := subR 0 a
theorem q119 (a : Int) : Gives Tryz.prog ca 119 [int a] (.tup [int (negR a).1, int (negR a).2]) := by
  refine gives_run Tryz.func119 rfl rfl rfl rfl (by simp) (by simp [Tryz.f119]) (by simp [Tryz.f119]) fun m => ?_
  simp [Tryz.f119, show ca.keepRes 119 = false from rfl, (q117 0 a).go, negR]
def modR (a b : Int) : Int × Int := if prtR a b = 0 then ((a.tmod b + b).tmod b, 0) else (0, prtR a b)
theorem tmod_lt (a b : Int) (h : b ≠ 0) : (a.tmod b).natAbs < b.natAbs := by
  rw [Int.natAbs_tmod]; exact Nat.mod_lt _ (by omega)
theorem q124 (a b : Int) : Gives Tryz.prog ca 124 [int a, int b] (.tup [int (modR a b).1, int (modR a b).2]) := by
  refine gives_run Tryz.func124 rfl rfl rfl rfl (by simp) (by simp [Tryz.f124]) (by simp [Tryz.f124]) fun m => ?_
  simp [Tryz.f124, show ca.keepRes 124 = false from rfl, (q170 a b).go]
  by_cases h : prtR a b = 0
  · obtain ⟨h1, h2, h3⟩ := prt_zero h
    rw [isIn_iff] at h1 h2
    have h4 := tmod_lt a b h3
    have hw : IntKind.i64.wrap (a.tmod b + b) = a.tmod b + b := IntWalk.i64_in _ (by omega)
    simp [h, abin_rem h3, hw, modR]
  · simp [h, modR]
theorem q168 {a : Int} (h : isIn a = true) : Gives Tryz.prog ca 168 [int a] (.sc (.int .u64 (a.natAbs : Int))) := by
  refine gives_run Tryz.func168 rfl rfl rfl rfl (by simp) (by simp [Tryz.f168]) (by simp [Tryz.f168]) fun m => ?_
  have h4 := isIn_iff.1 h
  have hw : IntKind.i64.wrap (-a) = -a := IntWalk.i64_in _ (by omega)
  have hm : max a (-a) = (a.natAbs : Int) := by omega
  have hw2 : IntKind.u64.wrap (a.natAbs : Int) = a.natAbs := IntWalk.u64_in _ (by omega)
  simp [Tryz.f168, show ca.keepRes 168 = false from rfl, amax2, un_neg, hw, hm, hw2]
/-- A number of a size and a sign. -/
def sgnR (hi lo : Nat) (neg : Bool) : Int × Int := if hi ≠ 0 then (0, 10) else if 1152921504606846976 < lo then (0, 10) else fitR (if neg then -(lo : Int) else lo)
theorem q169 (hi lo : Nat) (neg : Bool) : Gives Tryz.prog ca 169 [.sc (.int .u64 hi), .sc (.int .u64 lo), .sc (.bool neg)] (.tup [int (sgnR hi lo neg).1, int (sgnR hi lo neg).2]) := by
  refine gives_run Tryz.func169 rfl rfl rfl rfl (by simp) (by simp [Tryz.f169]) (by simp [Tryz.f169]) fun m => ?_
  unfold sgnR
  by_cases c1 : hi = 0
  · subst c1
    by_cases c2 : 1152921504606846976 < lo
    · have h5 : (1152921504606846976 : Int) < lo := by omega
      simp [Tryz.f169, show ca.keepRes 169 = false from rfl, c2, h5]
    · have h5 : ¬ (1152921504606846976 : Int) < lo := by omega
      have hw : IntKind.i64.wrap (lo : Int) = lo := IntWalk.i64_in _ (by omega)
      have hw2 : IntKind.i64.wrap (-(lo : Int)) = -lo := IntWalk.i64_in _ (by omega)
      cases neg
      · simp [Tryz.f169, show ca.keepRes 169 = false from rfl, c2, h5, hw, (q166 _).go]
      · simp [Tryz.f169, show ca.keepRes 169 = false from rfl, c2, h5, hw, un_neg, hw2, (q166 _).go]
  · have c1' : ¬ (hi : Int) = 0 := by omega
    simp [Tryz.f169, show ca.keepRes 169 = false from rfl, c1, c1', undefV, undef]
theorem q120 (a b : Int) : Gives Tryz.prog ca 120 [int a, int b] (.tup [int (min a b), int 0]) := by
  refine gives_run Tryz.func120 rfl rfl rfl rfl (by simp) (by simp [Tryz.f120]) (by simp [Tryz.f120]) fun m => ?_
  simp [Tryz.f120, show ca.keepRes 120 = false from rfl, amin2]
theorem q121 (a b : Int) : Gives Tryz.prog ca 121 [int a, int b] (.tup [int (max a b), int 0]) := by
  refine gives_run Tryz.func121 rfl rfl rfl rfl (by simp) (by simp [Tryz.f121]) (by simp [Tryz.f121]) fun m => ?_
  simp [Tryz.f121, show ca.keepRes 121 = false from rfl, amax2]
end Go.Proofs.YtnhcmcfgemoehaaGreat
namespace Go.Proofs.YtnhcmcfgemoehaaGreat
set_option maxRecDepth 4000
open Go.V
attribute [local simp] Nat.add_assoc
theorem ex_nat (n : Nat) : ∃ c, n = c := ⟨n, rfl⟩
theorem abin_shrN {P : Program} {t : TypeId} {xo yo : Operand} {k : IntKind} {n r : Nat} (h : n / 4294967296 = r) : abin P .shr t xo yo (.sc (.int .u64 n)) (.sc (.int k 32)) = some (.sc (.int .u64 (r : Int))) := by
  rw [abin_shr32, Int.fdiv_eq_ediv_of_nonneg _ (by omega)]
  have : (n : Int) / 2 ^ 32 = (r : Int) := by omega
  rw [this]
theorem abin_andN {P : Program} {t : TypeId} {xo yo : Operand} {n r : Nat} (h0 : n < 18446744073709551616) (h : n % 4294967296 = r) : abin P .and t xo yo (.sc (.int .u64 n)) (.sc (.int .u64 4294967295)) = some (.sc (.int .u64 (r : Int))) := by
  rw [abin_and32 h0]
  subst h
  rfl
theorem wrapMul {a b c : Nat} (h : a * b = c) (hc : c < 18446744073709551616) : IntKind.u64.wrap ((a : Int) * b) = c := by
  rw [show (a : Int) * b = ((a * b : Nat) : Int) from by simp, h]
  exact IntWalk.u64_in _ (by omega)
theorem wrapAdd {a b c : Nat} (h : a + b = c) (hc : c < 18446744073709551616) : IntKind.u64.wrap ((a : Int) + b) = c := by
  rw [show (a : Int) + b = ((a + b : Nat) : Int) from by simp, h]
  exact IntWalk.u64_in _ (by omega)
set_option maxHeartbeats 1000000 in
theorem q167c (x y lo hi x0 x1 y0 y1 w0 p u v vw r t w1 w2 w3 w : Nat)
    (hlo : IntKind.u64.wrap ((x : Int) * y) = (lo : Int))
    (hx0 : x % 4294967296 = x0) (hx1 : x / 4294967296 = x1) (hy0 : y % 4294967296 = y0) (hy1 : y / 4294967296 = y1) (hw0 : x0 * y0 = w0) (hp : x1 * y0 = p) (hu : x0 * y1 = u) (hv : x1 * y1 = v)
    (hr : w0 / 4294967296 = r) (ht : p + r = t) (hw1 : t % 4294967296 = w1) (hw2 : t / 4294967296 = w2) (hw : w1 + u = w) (hw3 : w / 4294967296 = w3) (hvw : v + w2 = vw) (hhi : vw + w3 = hi) (b1 : w0 < 18446744073709551616) (b2 : p < 18446744073709551616) (b3 : u < 18446744073709551616) (b4 : t < 18446744073709551616) (b5 : w < 18446744073709551616) (b6 : x < 18446744073709551616) (b7 : y < 18446744073709551616) (b9 : v < 18446744073709551616) (b10 : vw < 18446744073709551616) (b11 : hi < 18446744073709551616) :
    Gives Tryz.prog ca 167 [.sc (.int .u64 x), .sc (.int .u64 y)] (.tup [.sc (.int .u64 hi), .sc (.int .u64 lo)]) := by
  refine gives_run Tryz.func167 rfl rfl rfl rfl (by simp) (by simp [Tryz.f167]) (by simp [Tryz.f167]) fun m => ?_
  have A1 := fun {t : TypeId} {xo yo : Operand} => abin_andN (P := Tryz.prog) (t := t) (xo := xo) (yo := yo) b6 hx0
  have A2 := fun {t : TypeId} {xo yo : Operand} => abin_andN (P := Tryz.prog) (t := t) (xo := xo) (yo := yo) b7 hy0
  have A3 := fun {t : TypeId} {xo yo : Operand} => abin_andN (P := Tryz.prog) (t := t) (xo := xo) (yo := yo) b4 hw1
  have S1 := fun {t : TypeId} {xo yo : Operand} {k : IntKind} => abin_shrN (P := Tryz.prog) (t := t) (xo := xo) (yo := yo) (k := k) hx1
  have S2 := fun {t : TypeId} {xo yo : Operand} {k : IntKind} => abin_shrN (P := Tryz.prog) (t := t) (xo := xo) (yo := yo) (k := k) hy1
  have S3 := fun {t : TypeId} {xo yo : Operand} {k : IntKind} => abin_shrN (P := Tryz.prog) (t := t) (xo := xo) (yo := yo) (k := k) hr
  have S4 := fun {t : TypeId} {xo yo : Operand} {k : IntKind} => abin_shrN (P := Tryz.prog) (t := t) (xo := xo) (yo := yo) (k := k) hw2
  have S5 := fun {t : TypeId} {xo yo : Operand} {k : IntKind} => abin_shrN (P := Tryz.prog) (t := t) (xo := xo) (yo := yo) (k := k) hw3
  have P1 := wrapMul hw0 b1
  have P2 := wrapMul hp b2
  have P3 := wrapMul hu b3
  have P4 := wrapMul hv b9
  have D1 := wrapAdd ht b4
  have D2 := wrapAdd hw b5
  have D3 := wrapAdd hvw b10
  have D4 := wrapAdd hhi b11
  clear hx0 hx1 hy0 hy1 hr hw1 hw2 hw3
  simp [Tryz.f167, show ca.keepRes 167 = false from rfl, abin_mul, A1, A2, A3, S1, S2, S3, S4, S5, P1, P2, P3, P4, hlo, D1, D2, D3, D4]
theorem mul_key (x1 x0 y1 y0 : Nat) : (x1 * 4294967296 + x0) * (y1 * 4294967296 + y0) = x1 * y1 * 18446744073709551616 + (x1 * y0 + x0 * y1) * 4294967296 + x0 * y0 := by
  have q1 : x1 * 4294967296 * (y1 * 4294967296) = x1 * y1 * 18446744073709551616 := by rw [Nat.mul_mul_mul_comm]
  have q2 : x1 * 4294967296 * y0 = x1 * y0 * 4294967296 := Nat.mul_right_comm _ _ _
  have q3 : x0 * (y1 * 4294967296) = x0 * y1 * 4294967296 := (Nat.mul_assoc _ _ _).symm
  rw [Nat.add_mul, Nat.mul_add, Nat.mul_add, q1, q2, q3, Nat.add_mul]
  omega
theorem mul_bits (V Pp U W Z : Nat) (h : V * 18446744073709551616 + (Pp + U) * 4294967296 + W = Z) :
    V + (Pp + W / 4294967296) / 4294967296 + ((Pp + W / 4294967296) % 4294967296 + U) / 4294967296 = Z / 18446744073709551616 := by
  omega
theorem mul_bnd (V P U W : Nat) (b1 : W ≤ 18446744065119617025) (b2 : P ≤ 1152921504338411520) (b3 : U ≤ 1152921504338411520) (b4 : V ≤ 72057594037927936) : P + W / 4294967296 < 18446744073709551616 ∧ (P + W / 4294967296) % 4294967296 + U < 18446744073709551616 ∧ V + (P + W / 4294967296) / 4294967296 < 18446744073709551616 ∧ V + (P + W / 4294967296) / 4294967296 + ((P + W / 4294967296) % 4294967296 + U) / 4294967296 < 18446744073709551616 := by
  refine ⟨?_, ?_, ?_, ?_⟩ <;> omega
/-- A product of two sizes, in two parts. -/
theorem q167 (x y : Nat) (hx : x ≤ 1152921504606846976) (hy : y ≤ 1152921504606846976) : Gives Tryz.prog ca 167 [.sc (.int .u64 x), .sc (.int .u64 y)] (.tup [.sc (.int .u64 (((x * y) / 18446744073709551616 : Nat) : Int)), .sc (.int .u64 (((x * y) % 18446744073709551616 : Nat) : Int))]) := by
  have k := mul_key (x / 4294967296) (x % 4294967296) (y / 4294967296) (y % 4294967296)
  rw [Nat.div_add_mod' x, Nat.div_add_mod' y] at k
  have c := mul_bits _ _ _ _ _ k.symm
  have x0 : x % 4294967296 < 4294967296 := Nat.mod_lt _ (by omega)
  have y0 : y % 4294967296 < 4294967296 := Nat.mod_lt _ (by omega)
  have x1 : x / 4294967296 ≤ 268435456 := by omega
  have y1 : y / 4294967296 ≤ 268435456 := by omega
  have b1 : x % 4294967296 * (y % 4294967296) ≤ 4294967295 * 4294967295 := Nat.mul_le_mul (by omega) (by omega)
  have b2 : x / 4294967296 * (y % 4294967296) ≤ 268435456 * 4294967295 := Nat.mul_le_mul x1 (by omega)
  have b3 : x % 4294967296 * (y / 4294967296) ≤ 4294967295 * 268435456 := Nat.mul_le_mul (by omega) y1
  have b4 : x / 4294967296 * (y / 4294967296) ≤ 268435456 * 268435456 := Nat.mul_le_mul x1 y1
  have b5 : x * y ≤ 1152921504606846976 * 1152921504606846976 := Nat.mul_le_mul hx hy
  have hlo : IntKind.u64.wrap ((x : Int) * y) = (((x * y) % 18446744073709551616 : Nat) : Int) := by
    rw [show (x : Int) * y = ((x * y : Nat) : Int) from by simp]
    generalize x * y = z
    show IntKind.wrap .u64 (z : Int) = _
    simp [IntKind.wrap, IntKind.signed, IntKind.bits]
  have bb := mul_bnd (x / 4294967296 * (y / 4294967296)) (x / 4294967296 * (y % 4294967296)) (x % 4294967296 * (y / 4294967296)) (x % 4294967296 * (y % 4294967296)) b1 b2 b3 b4
  exact q167c x y _ _ (x % 4294967296) (x / 4294967296) (y % 4294967296) (y / 4294967296) _ _ _ _ _ _ _ _ _ _ _ hlo (Eq.refl _) (Eq.refl _) (Eq.refl _) (Eq.refl _) (Eq.refl _) (Eq.refl _) (Eq.refl _) (Eq.refl _) (Eq.refl _) (Eq.refl _) (Eq.refl _) (Eq.refl _) (Eq.refl _) (Eq.refl _) (Eq.refl _) c
    (by omega) (by omega) (by omega) bb.1 bb.2.1 (by omega) (by omega) (by omega) bb.2.2.1 (by rw [← c]; exact bb.2.2.2)
theorem sgn_mul (a b : Int) : (if (decide (a < 0) != decide (b < 0)) then -((a.natAbs * b.natAbs : Nat) : Int) else ((a.natAbs * b.natAbs : Nat) : Int)) = a * b := by
  rw [Int.natCast_mul]
  rcases Int.lt_or_le a 0 with h | h <;> rcases Int.lt_or_le b 0 with k | k
  · have e1 : a = -(a.natAbs : Int) := by omega
    have e2 : b = -(b.natAbs : Int) := by omega
    simp only [h, k, decide_true, bne_self_eq_false, Bool.false_eq_true, if_false]
    conv => rhs; rw [e1, e2, Int.neg_mul_neg]
  · have e1 : a = -(a.natAbs : Int) := by omega
    have e2 : b = (b.natAbs : Int) := by omega
    have k' : ¬ b < 0 := by omega
    simp only [h, k', decide_true, decide_false]
    conv => rhs; rw [e1, e2, Int.neg_mul]
    rfl
  · have e1 : a = (a.natAbs : Int) := by omega
    have e2 : b = -(b.natAbs : Int) := by omega
    have h' : ¬ a < 0 := by omega
    simp only [h', k, decide_true, decide_false]
    conv => rhs; rw [e1, e2, Int.mul_neg]
    rfl
  · have e1 : a = (a.natAbs : Int) := by omega
    have e2 : b = (b.natAbs : Int) := by omega
    have h' : ¬ a < 0 := by omega
    have k' : ¬ b < 0 := by omega
    simp only [h', k', decide_false, bne_self_eq_false, Bool.false_eq_true, if_false]
    conv => rhs; rw [e1, e2]
theorem mul_lim {z : Nat} : (z / 18446744073709551616 ≠ 0 ∨ 1152921504606846976 < z % 18446744073709551616) ↔ 1152921504606846976 < z := by omega
/-- A product. -/
def mulR (a b : Int) : Int × Int := if isIn a && isIn b then fitR (a * b) else (0, 1)
theorem sgn_mulR (a b : Int) : sgnR (a.natAbs * b.natAbs / 18446744073709551616) (a.natAbs * b.natAbs % 18446744073709551616) (decide (a < 0) != decide (b < 0)) = fitR (a * b) := by
  have sg := sgn_mul a b
  have hab : a.natAbs * b.natAbs = (a * b).natAbs := (Int.natAbs_mul a b).symm
  unfold sgnR
  rw [hab] at sg ⊢
  have lim := mul_lim (z := (a * b).natAbs)
  have out : 1152921504606846976 < (a * b).natAbs → fitR (a * b) = (0, 10) := fun h => by
    unfold fitR isIn
    rw [if_neg]
    simp
    omega
  by_cases c1 : (a * b).natAbs / 18446744073709551616 = 0
  · rw [if_neg (by simpa using c1)]
    by_cases c2 : 1152921504606846976 < (a * b).natAbs % 18446744073709551616
    · rw [if_pos c2, out (lim.1 (.inr c2))]
    · rw [if_neg c2]
      have hlt : (a * b).natAbs % 18446744073709551616 = (a * b).natAbs := by omega
      rw [hlt, sg]
  · rw [if_pos c1, out (lim.1 (.inl c1))]
theorem q115 (a b : Int) : Gives Tryz.prog ca 115 [int a, int b] (.tup [int (mulR a b).1, int (mulR a b).2]) := by
  refine gives_run Tryz.func115 rfl rfl rfl rfl (by simp) (by simp [Tryz.f115]) (by simp [Tryz.f115]) fun m => ?_
  simp [Tryz.f115, show ca.keepRes 115 = false from rfl, abuildSlice, placesOf, fillAt, zeros]
  have hz : ∀ M : Mem, ∀ v, M.get m.next = some (.cells [int a, int b] false v) → fzvs M [.sl m.next 0 2 1 false (some 2)] = ([.lst [int a, int b]], M.mark m.next [int a, int b] v) := by
    intro M v h
    simp [fzvs, fz1, h, chunk]
  rw [(q165' a b).goF (hz _ _ (by simp; rfl))]
  unfold mulR
  by_cases h : isIn a = true ∧ isIn b = true
  · have i1 := isIn_iff.1 h.1
    have i2 := isIn_iff.1 h.2
    have sg := sgn_mulR a b
    have c67 := q167 a.natAbs b.natAbs (by omega) (by omega)
    obtain ⟨hi, hhi⟩ := ex_nat (a.natAbs * b.natAbs / 18446744073709551616)
    obtain ⟨lo, hlo⟩ := ex_nat (a.natAbs * b.natAbs % 18446744073709551616)
    rw [hhi, hlo] at sg c67
    have c69 := q169 hi lo (decide (a < 0) != decide (b < 0))
    rw [sg] at c69
    simp [h.1, h.2, (q168 h.1).go, (q168 h.2).go, c67.go, abin_neqb Tryz.underlying4]
    rw [c69.go]
    simp
  · have e := both_in h
    simp [e]
theorem abin_remN {P : Program} {t : TypeId} {xo yo : Operand} {x y : Nat} (h : y ≠ 0) : abin P .rem t xo yo (.sc (.int .u64 x)) (.sc (.int .u64 y)) = some (.sc (.int .u64 ((x % y : Nat) : Int))) := by
  rw [abin_rem (by omega), ← Int.ofNat_tmod]
/-- The greatest that parts both. -/
def gcdR (a b : Int) : Int × Int := if isIn a && isIn b then sgnR 0 (Nat.gcd a.natAbs b.natAbs) false else (0, 1)
set_option maxHeartbeats 1000000 in
theorem q116 (a b : Int) : Gives Tryz.prog ca 116 [int a, int b] (.tup [int (gcdR a b).1, int (gcdR a b).2]) := by
  refine gives_run Tryz.func116 rfl rfl rfl rfl (by simp) (by simp [Tryz.f116]) (by simp [Tryz.f116]) fun m => ?_
  simp [Tryz.f116, show ca.keepRes 116 = false from rfl, abuildSlice, placesOf, fillAt, zeros]
  have hz : ∀ M : Mem, ∀ v, M.get m.next = some (.cells [int a, int b] false v) → fzvs M [.sl m.next 0 2 1 false (some 2)] = ([.lst [int a, int b]], M.mark m.next [int a, int b] v) := by
    intro M v h
    simp [fzvs, fz1, h, chunk]
  rw [(q165' a b).goF (hz _ _ (by simp; rfl))]
  unfold gcdR
  by_cases h : isIn a = true ∧ isIn b = true
  rotate_left
  · have e := both_in h
    simp [e]
  simp [h.1, h.2, (q168 h.1).go, (q168 h.2).go]
  refine go_loopF (fun n s' m' => ∃ x y : Nat, n = y ∧ Nat.gcd x y = Nat.gcd a.natAbs b.natAbs ∧ s'.at 7 = .sc (.int .u64 x) ∧ s'.at 8 = .sc (.int .u64 y) ∧ Kp m m') b.natAbs ⟨a.natAbs, b.natAbs, rfl, rfl, by simp, by simp, by simp⟩ ?_
  rintro n s' m' ⟨x, y, rfl, hg, e7, e8, hkp⟩ hsame Q' hn he
  simp [e8]
  refine goB_split (fun h => ?_) fun h => ?_
  · have hy : n ≠ 0 := by have := of_decide_eq_true h; omega
    simp
    refine go_draw0 (by kernel_rfl) (by kernel_rfl) ?_
    simp [e7, e8, abin_remN hy]
    refine hn (x % n) _ _ (Nat.mod_lt _ (by omega)) ⟨n, x % n, rfl, ?_, by simp, by simp, by simpa using hkp⟩
    rw [← hg, Nat.gcd_comm x n, Nat.gcd_rec n x, Nat.gcd_comm]
  · have hy : n = 0 := by have := of_decide_eq_false h; omega
    subst hy
    rw [Nat.gcd_zero_right] at hg
    rw [hg] at e7
    simp
    refine he _ _ _ (by simp) ?_
    have c69 : Gives Tryz.prog ca 169 [.sc (.int .u64 0), .sc (.int .u64 ((a.natAbs.gcd b.natAbs : Nat) : Int)), .sc (.bool false)] _ := q169 0 (a.natAbs.gcd b.natAbs) false
    simp [e7, c69.go]
    exact hkp
/-- A power. -/
def powL (a : Int) : Nat → Int → Int × Int
  | 0, x => (x, 0)
  | k + 1, x => if (mulR x a).2 ≠ 0 then (0, (mulR x a).2) else powL a k (mulR x a).1
def powR (a n : Int) : Int × Int :=
  if (isIn a && isIn n) = false then (0, 1) else if n < 0 then (0, 1) else if 1 < a.natAbs ∧ 60 < n then (0, 10) else if n = 0 then (1, 0)
  else if a.natAbs ≤ 1 ∧ n.tmod 2 = 0 then (a * a, 0) else if a.natAbs ≤ 1 then (a, 0) else powL a n.toNat 1
set_option maxHeartbeats 2000000 in
theorem q125 (a n : Int) : Gives Tryz.prog ca 125 [int a, int n] (.tup [int (powR a n).1, int (powR a n).2]) := by
  refine gives_run Tryz.func125 rfl rfl rfl rfl (by simp) (by simp [Tryz.f125]) (by simp [Tryz.f125]) fun m => ?_
  simp [Tryz.f125, show ca.keepRes 125 = false from rfl, abuildSlice, placesOf, fillAt, zeros]
  have hz : ∀ M : Mem, ∀ v, M.get m.next = some (.cells [int a, int n] false v) → fzvs M [.sl m.next 0 2 1 false (some 2)] = ([.lst [int a, int n]], M.mark m.next [int a, int n] v) := by
    intro M v h
    simp [fzvs, fz1, h, chunk]
  rw [(q165' a n).goF (hz _ _ (by simp; rfl))]
  unfold powR
  by_cases h : isIn a = true ∧ isIn n = true
  rotate_left
  · have e := both_in h
    simp [e]
  have i1 := isIn_iff.1 h.1
  have i2 := isIn_iff.1 h.2
  rw [if_neg (by simp [h.1, h.2])]
  by_cases c1 : n < 0
  · simp [h.1, h.2, c1]
  by_cases c2 : 1 < a.natAbs ∧ 60 < n
  · have c2' : (1 : Int) < a.natAbs := by omega
    simp only [if_neg c1, if_pos c2]
    simp [h.1, h.2, c1, c2.2, c2', (q168 h.1).go]
  rw [if_neg c1, if_neg c2]
  by_cases c3 : n = 0
  · subst c3
    by_cases cA : 1 < a.natAbs
    · have cA' : (1 : Int) < a.natAbs := by omega
      simp [h.1, h.2, (q168 h.1).go, cA']
    · have cA' : ¬ (1 : Int) < a.natAbs := by omega
      simp [h.1, h.2, (q168 h.1).go, cA', undefV, undef]
  rw [if_neg c3]
  by_cases cA : a.natAbs ≤ 1
  · have cA' : ¬ (1 : Int) < a.natAbs := by omega
    have cB' : (a.natAbs : Int) ≤ 1 := by omega
    have hw : IntKind.i64.wrap (a * a) = a * a := by
      have : a = 0 ∨ a = 1 ∨ a = -1 := by omega
      rcases this with rfl | rfl | rfl <;> rfl
    by_cases c4 : n.tmod 2 = 0
    · rw [if_pos ⟨cA, c4⟩]
      simp [h.1, h.2, (q168 h.1).go, cA', cB', c1, c3, c4, abin_rem (b := 2) (by decide), abin_mul, hw, undefV, undef]
    · rw [if_neg (fun q => c4 q.2), if_pos cA]
      simp [h.1, h.2, (q168 h.1).go, cA', cB', c1, c3, c4, abin_rem (b := 2) (by decide), undefV, undef]
  · have cA' : (1 : Int) < a.natAbs := by omega
    have cB' : ¬ (a.natAbs : Int) ≤ 1 := by omega
    have c5 : ¬ 60 < n := fun q => c2 ⟨by omega, q⟩
    rw [if_neg (fun q => cA q.1), if_neg cA]
    obtain ⟨k, rfl⟩ : ∃ k : Nat, n = k := ⟨n.toNat, by omega⟩
    rw [Int.toNat_natCast]
    obtain ⟨res, hres⟩ : ∃ res, res = powL a k 1 := ⟨_, rfl⟩
    rw [← hres]
    have c3' : ¬ k = 0 := by omega
    simp [h.1, h.2, (q168 h.1).go, cA', cB', c1, c3', c5, undefV, undef]
    refine go_count 47 k (fun i s' m' => Kp m m' ∧ ∃ x, s'.at 7 = int x ∧ res = powL a (k - i) x) (by simp) (by omega) ⟨by simp, 1, by simp, hres⟩ ?_
    rintro i s' m' hi e47 ⟨hkp, x, e7, ex⟩ hsame hw Q' hn he
    have e0 : s'.at 0 = int a := (hsame 0 (by kernel_rfl)).trans (by simp)
    have e46 : s'.at 46 = int k := (hsame 46 (by kernel_rfl)).trans (by simp)
    clear hsame
    simp [e46, e47]
    refine goB_split (fun h => ?_) fun h => ?_
    · have hlt : i < k := by simpa using h
      rw [show k - i = (k - (i + 1)) + 1 by omega, powL] at ex
      simp [e7, e0, (q115 x a).go]
      by_cases hz : (mulR x a).2 = 0
      · rw [if_neg (by simp [hz])] at ex
        simp [hz, e47, hw]
        exact hn _ _ hlt (by simp) ⟨hkp, (mulR x a).1, by simp, ex⟩
      · rw [if_pos hz] at ex
        simp [hz]
        refine he _ _ _ (by simp) ?_
        simp [ex]
        exact hkp
    · have hge : i = k := by have := of_decide_eq_false h; omega
      subst hge
      rw [Nat.sub_self, powL] at ex
      simp
      refine he _ _ _ (by simp) ?_
      simp [e7, ex]
      exact hkp
end Go.Proofs.YtnhcmcfgemoehaaGreat

/- What a procedure makes of numbers. -/
set_option linter.unusedSimpArgs false
set_option linter.unusedVariables false
set_option linter.unusedSectionVars false
namespace Go.Proofs.YtnhcmcfgemoehaaGreat
set_option maxRecDepth 4000
open Go.V
attribute [local simp] Nat.add_assoc
def numV (r e : Int) : Val := if e = 0 then (1, r) else (0, 0)
/-- What fix says, as a fault. -/
def kdOf (e : Int) : Int := if e = 0 then 0 else if e = 10 then 4 else if e = 11 then 5 else 6
set_option maxRecDepth 20000 in
theorem q118 {A C : Nat} {n : Int} {l : List Val} {m : Mem} (hC : has m C (clC A n l 0)) (r e : Int) : wph Tryz.prog ca (.func 118) [.ptr C 0, int r, int e] m fun v m' => v = valA (numV r e) ∧ KpC (fun j => j = C) m m' ∧ has m' C (clC A n l (kdOf e)) := by
  have hCl := hC.1
  refine wph_go Tryz.func118 rfl rfl (by simp [Tryz.f118]) (by simp [Tryz.f118]) fun Q hQ => ?_
  simp only [Tryz.f118, show ca.keepRes 118 = false from rfl, show ca.keepArgs 118 = false from rfl] at hQ ⊢
  obtain ⟨M1, hM1⟩ : ∃ M1, M1 = m.new [int 0, int 0] false := ⟨_, rfl⟩
  have k1 : Kp m M1 := by rw [hM1]; simp
  have n1 : M1.next = m.next + 1 := by rw [hM1]; simp
  have b0 : M1.get m.next = some (.cells [int 0, int 0] false (m.clock + 1)) := by rw [hM1]; simp
  have hC1 := hC.kp k1
  have fin : ∀ (s' : Sl) (m5 : Mem) (v : Val), s'.at 6 = .ptr m.next 0 → (∃ w, (m5.set m.next [int v.1, int v.2]).get m.next = some (.cells [int v.1, int v.2] false w)) → numV r e = v → KpC (fun j => j = C) M1 m5 → has m5 C (clC A n l (kdOf e)) → Q .ret s' (m5.set m.next [int v.1, int v.2]) := by
    intro s' m5 v h6 ⟨w, hg⟩ hv kc hc
    refine hQ _ _ _ ?_
    rw [leave_ret]
    refine ⟨[valA v], by simp [aresult, h6, hg, aload, partOf, valA_agg], ?_⟩
    simp only [Bool.false_eq_true, if_false, oneOf, fzr_valA, hv]
    exact ⟨trivial, KpC.cut (((KpC.of (.of k1)).trans (kc.mono fun j h => .inl h)).trans ((kc_set m.next _ _).mono fun j h => .inr (by omega))), hc.kc (kc_set m.next _ _) (by omega)⟩
  simp
  rw [← hM1]
  clear hM1
  by_cases e0 : e = 0
  · subst e0
    simp [(q126 r).go, b0, valA_agg]
    exact fin _ _ (1, r) (by simp) ⟨_, by simp; rfl⟩ (by simp [numV]) (.refl _ _) (by simpa [kdOf] using hC1)
  by_cases e1 : e = 10
  · subst e1
    simp
    refine goH_of (q134 hC1 4) ?_
    rintro _ m5 ⟨rfl, kc, hc⟩
    have g := (kc.get m.next (by omega) (by omega)).trans b0
    simp [g, valA_agg]
    exact fin _ _ (0, 0) (by simp) ⟨_, by simp; rfl⟩ (by simp [numV]) kc (by simpa [kdOf, failK] using hc)
  by_cases e2 : e = 11
  · subst e2
    simp
    refine goH_of (q134 hC1 5) ?_
    rintro _ m5 ⟨rfl, kc, hc⟩
    have g := (kc.get m.next (by omega) (by omega)).trans b0
    simp [g, valA_agg]
    exact fin _ _ (0, 0) (by simp) ⟨_, by simp; rfl⟩ (by simp [numV]) kc (by simpa [kdOf, failK] using hc)
  simp [e0, e1, e2]
  refine goH_of (q134 hC1 6) ?_
  rintro _ m5 ⟨rfl, kc, hc⟩
  have g := (kc.get m.next (by omega) (by omega)).trans b0
  simp [g, valA_agg]
  exact fin _ _ (0, 0) (by simp) ⟨_, by simp; rfl⟩ (by simp [numV, e0]) kc (by simpa [kdOf, failK, e0, e1, e2] using hc)
/-- Numbers put together, from the left to the right. -/
def foldR (F : Int → Int → Int × Int) : Int → List Val → Int × Int
  | x, [] => (x, 0)
  | x, v :: l => if (F x v.2).2 ≠ 0 then (0, (F x v.2).2) else foldR F (F x v.2).1 l
theorem drop_at {l : List Val} {i : Nat} {v : Val} (h : l[i]? = some v) : l.drop i = v :: l.drop (i + 1) := by
  obtain ⟨h1, h2⟩ := List.getElem?_eq_some_iff.1 h
  rw [List.drop_eq_getElem_cons h1, h2]
set_option maxHeartbeats 4000000 in
theorem q113 {A C : Nat} {n : Int} {l lc : List Val} {f : FuncId} {F : Int → Int → Int × Int} {m : Mem} (hC : has m C (clC A n lc 0)) (hl : l.length ≤ 4096) (hs : ∀ a b, Gives Tryz.prog ca f [int a, int b] (.tup [int (F a b).1, int (F a b).2])) (first : Int) : wph Tryz.prog ca (.func 113) [.ptr C 0, int first, .lst (vals l), .fn (.func f) [] []] m fun v m' => v = valA (numV (foldR F first l).1 (foldR F first l).2) ∧ KpC (fun j => j = C) m m' ∧ has m' C (clC A n lc (kdOf (foldR F first l).2)) := by
  have hCl := hC.1
  refine wph_go Tryz.func113 rfl rfl (by simp [Tryz.f113]) (by simp [Tryz.f113]) fun Q hQ => ?_
  simp only [Tryz.f113, show ca.keepRes 113 = false from rfl, show ca.keepArgs 113 = false from rfl] at hQ ⊢
  have ln : ∀ (R : TypeId) (m : Mem), abuiltin Tryz.prog .len #[66] R [.lst (vals l)] m = some (int l.length, m) := fun R m => by rw [alen_lst Tryz.underlying66]; simp
  obtain ⟨M1, hM1⟩ : ∃ M1, M1 = m.new [int 0, int 0] false := ⟨_, rfl⟩
  have k1 : Kp m M1 := by rw [hM1]; simp
  have n1 : M1.next = m.next + 1 := by rw [hM1]; simp
  have b0 : M1.get m.next = some (.cells [int 0, int 0] false (m.clock + 1)) := by rw [hM1]; simp
  have hC1 := hC.kp k1
  obtain ⟨res, hres⟩ : ∃ res, res = foldR F first l := ⟨_, rfl⟩
  rw [← hres] at hQ
  have fin : ∀ (s' : Sl) (m5 : Mem) (v : Val), s'.at 8 = .ptr m.next 0 → (∃ w, (m5.set m.next [int v.1, int v.2]).get m.next = some (.cells [int v.1, int v.2] false w)) → numV res.1 res.2 = v → KpC (fun j => j = C) M1 m5 → has m5 C (clC A n lc (kdOf res.2)) → Q .ret s' (m5.set m.next [int v.1, int v.2]) := by
    intro s' m5 v h6 ⟨w, hg⟩ hv kc hc
    refine hQ _ _ _ ?_
    rw [leave_ret]
    refine ⟨[valA v], by simp [aresult, h6, hg, aload, partOf, valA_agg], ?_⟩
    simp only [Bool.false_eq_true, if_false, oneOf, fzr_valA, hv]
    exact ⟨trivial, KpC.cut (((KpC.of (.of k1)).trans (kc.mono fun j h => .inl h)).trans ((kc_set m.next _ _).mono fun j h => .inr (by omega))), hc.kc (kc_set m.next _ _) (by omega)⟩
  simp [ln]
  rw [← hM1]
  clear hM1
  refine go_count 15 l.length (fun i s' m' => Kp M1 m' ∧ ∃ x, s'.at 1 = int x ∧ res = foldR F x (l.drop i)) (by simp) (by omega) ⟨.refl _, first, by simp, hres⟩ ?_
  rintro i s' m' hi e15 ⟨hkp, x, e1, ex⟩ hsame hw Q' hn he
  have e0 : s'.at 0 = .ptr C 0 := (hsame 0 (by kernel_rfl)).trans (by simp)
  have e3 : s'.at 3 = .fn (.func f) [] [] := (hsame 3 (by kernel_rfl)).trans (by simp)
  have e8 : s'.at 8 = .ptr m.next 0 := (hsame 8 (by kernel_rfl)).trans (by simp)
  have e13 : s'.at 13 = .lst (vals l) := (hsame 13 (by kernel_rfl)).trans (by simp)
  have e14 : s'.at 14 = int l.length := (hsame 14 (by kernel_rfl)).trans (by simp)
  clear hsame
  have n' := hkp.next
  simp [e15, e14]
  refine goB_split (fun h => ?_) fun h => ?_
  · have hlt : i < l.length := by simpa using h
    obtain ⟨v, hv⟩ : ∃ v, l[i]? = some v := ⟨_, List.getElem?_eq_getElem hlt⟩
    have hix := vals_at hv
    rw [drop_at hv, foldR] at ex
    have z0 : m.next ≠ m'.next := by omega
    have k4 : Kp m' ((m'.new [int 0, int 0] false).set m'.next [int v.1, int v.2]) := by simp
    have g := ((hkp.trans k4).get m.next (by omega)).trans b0
    simp [e15, e13, hix, e3, e1, (hs x v.2).go]
    by_cases hz : (F x v.2).2 = 0
    · rw [if_neg (by simp [hz])] at ex
      simp [hz, e15, hw]
      exact hn _ _ hlt (by simp) ⟨hkp.trans k4, (F x v.2).1, by simp, ex⟩
    · rw [if_pos hz] at ex
      simp [hz, e0]
      refine goH_of (q118 (hC1.kp (hkp.trans k4)) 0 (F x v.2).2) ?_
      rintro _ m5 ⟨rfl, kc, hc⟩
      have g5 := (kc.get m.next (by have := (hkp.trans k4).next; omega) (by omega)).trans g
      simp [e8, g5, numV, hz, valA_agg]
      refine he _ _ _ (by simp) ?_
      simp
      refine fin _ _ (0, 0) (by simp [e8]) ⟨_, by simp; rfl⟩ (by rw [ex]; simp [numV, hz]) (KpC.trans (.of (.of (hkp.trans k4))) kc) (by rw [ex]; exact hc)
  · have hge : i = l.length := by have := of_decide_eq_false h; omega
    subst hge
    rw [List.drop_length, foldR] at ex
    have g := (hkp.get m.next (by omega)).trans b0
    simp
    refine he _ _ _ (by simp) ?_
    simp [e1, e8, g, (q126 x).go, valA_agg]
    exact fin _ _ (1, x) (by simp [e8]) ⟨_, by simp; rfl⟩ (by rw [ex]; simp [numV]) (.of (.of hkp)) (by rw [ex]; exact hC1.kp hkp)
theorem vals_tail {l : List Val} (h : l ≠ []) : aslice Tryz.prog 66 (.lst (vals l)) (some (int 1)) none none = some (.lst (vals l.tail)) := by
  cases l with
  | nil => exact absurd rfl h
  | cons v l =>
    have := aslice_lst (T := 66) (xs := vals (v :: l)) (k := 2) (lo := some (int 1)) (hi := none) (l := some 1) (h := none) Tryz.underlying66 tsize51 (obnd_nat (n := 1)) obnd_none (by simp) (by simp) (vals_ok _)
    have e : (vals l).take l.length = vals l := List.take_of_length_le (by simp)
    simp [vals_cons, e] at this
    simpa [vals_cons] using this
theorem q120' (a b : Int) : Gives Tryz.prog ca 120 [int a, int b] (.tup [int ((fun a b : Int => (min a b, (0 : Int))) a b).1, int ((fun a b : Int => (min a b, (0 : Int))) a b).2]) := q120 a b
theorem q121' (a b : Int) : Gives Tryz.prog ca 121 [int a, int b] (.tup [int ((fun a b : Int => (max a b, (0 : Int))) a b).1, int ((fun a b : Int => (max a b, (0 : Int))) a b).2]) := q121 a b
def argN (l : List Val) (i : Nat) : Int := match l[i]? with | some v => v.2 | none => 0
/-- What is made of numbers, and what is wrong. -/
def reckR (n : Int) (l : List Val) : Int × Int :=
  if n = 0 then foldR addR 0 l else if n = 2 then foldR mulR 1 l else if n = 54 then foldR gcdR 0 l
  else if n = 1 then (if 1 < l.length then foldR subR (argN l 0) l.tail else negR (argN l 0))
  else if n = 51 then foldR (fun a b => (min a b, 0)) (argN l 0) l.tail else if n = 52 then foldR (fun a b => (max a b, 0)) (argN l 0) l.tail
  else if n = 3 then quoR (argN l 0) (argN l 1) else if n = 4 then remR (argN l 0) (argN l 1) else if n = 5 then modR (argN l 0) (argN l 1)
  else if n = 53 then powR (argN l 0) (argN l 1) else if argN l 0 < 0 then negR (argN l 0) else (argN l 0, 0)
set_option maxRecDepth 20000 in
set_option maxHeartbeats 16000000 in
theorem q66 {A C : Nat} {n : Int} {l : List Val} {m : Mem} (hC : has m C (clC A n l 0)) (hl : l.length ≤ 4096) (hn : n = 1 ∨ n = 51 ∨ n = 52 → l ≠ []) : wph Tryz.prog ca (.func 66) [.ptr C 0] m fun v m' => v = valA (numV (reckR n l).1 (reckR n l).2) ∧ KpC (fun j => j = C) m m' ∧ has m' C (clC A n l (kdOf (reckR n l).2)) := by
  have hCl := hC.1
  refine wph_go Tryz.func66 rfl rfl (by simp [Tryz.f66]) (by simp [Tryz.f66]) fun Q hQ => ?_
  simp only [Tryz.f66, show ca.keepRes 66 = false from rfl, show ca.keepArgs 66 = false from rfl] at hQ ⊢
  have ln : ∀ (R : TypeId) (m : Mem), abuiltin Tryz.prog .len #[66] R [.lst (vals l)] m = some (int l.length, m) := fun R m => by rw [alen_lst Tryz.underlying66]; simp
  obtain ⟨M1, hM1⟩ : ∃ M1, M1 = m.new [int 0, int 0] false := ⟨_, rfl⟩
  have k1 : Kp m M1 := by rw [hM1]; simp
  have n1 : M1.next = m.next + 1 := by rw [hM1]; simp
  have b0 : M1.get m.next = some (.cells [int 0, int 0] false (m.clock + 1)) := by rw [hM1]; simp
  have hC1 := hC.kp k1
  obtain ⟨_, w, gC⟩ := id hC1
  obtain ⟨_, w', gC0⟩ := id hC
  have c0 : C ≠ m.next := by omega
  obtain ⟨res, hres⟩ : ∃ res, res = reckR n l := ⟨_, rfl⟩
  rw [← hres] at hQ
  have fin : ∀ (s' : Sl) (m5 : Mem) (v : Val), s'.at 2 = .ptr m.next 0 → (∃ w, (m5.set m.next [int v.1, int v.2]).get m.next = some (.cells [int v.1, int v.2] false w)) → numV res.1 res.2 = v → KpC (fun j => j = C) M1 m5 → has m5 C (clC A n l (kdOf res.2)) → Q .ret s' (m5.set m.next [int v.1, int v.2]) := by
    intro s' m5 v h6 ⟨w, hg⟩ hv kc hc
    refine hQ _ _ _ ?_
    rw [leave_ret]
    refine ⟨[valA v], by simp [aresult, h6, hg, aload, partOf, valA_agg], ?_⟩
    simp only [Bool.false_eq_true, if_false, oneOf, fzr_valA, hv]
    exact ⟨trivial, KpC.cut (((KpC.of (.of k1)).trans (kc.mono fun j h => .inl h)).trans ((kc_set m.next _ _).mono fun j h => .inr (by omega))), hc.kc (kc_set m.next _ _) (by omega)⟩
  simp [gC0, c0, ln]
  rw [← hM1]
  clear hM1
  refine goB_cut (fun s' m' => m' = M1 ∧ s'.at 0 = .ptr C 0 ∧ s'.at 2 = .ptr m.next 0 ∧ s'.at 3 = .lst (vals l) ∧ s'.at 4 = int (argN l 0) ∧ s'.at 5 = int 0) (fun h k' hk' => ?_) (fun h k' hk' => ?_) ?_
  · have hlt : 0 < l.length := by have := of_decide_eq_true h; omega
    obtain ⟨v, hv⟩ : ∃ v, l[0]? = some v := ⟨_, List.getElem?_eq_getElem hlt⟩
    have hix : aindexAddr Tryz.prog 66 (.lst (vals l)) (int 0) = some ((valA v).cptr 0) := vals_at (i := 0) hv
    simp [hix]
    exact hk' _ _ ⟨rfl, by simp, by simp, by simp, by simp [argN, hv], by simp⟩
  · have hz : l[0]? = none := List.getElem?_eq_none (by have := of_decide_eq_false h; omega)
    simp
    exact hk' _ _ ⟨rfl, by simp, by simp, by simp, by simp [argN, hz], by simp⟩
  rintro s' m' ⟨hm, e0, e2, e3, e4, e5⟩
  rw [hm]
  clear hm m'
  simp [e3, ln]
  refine goB_cut (fun s' m' => m' = M1 ∧ s'.at 0 = .ptr C 0 ∧ s'.at 2 = .ptr m.next 0 ∧ s'.at 3 = .lst (vals l) ∧ s'.at 4 = int (argN l 0) ∧ s'.at 5 = int (argN l 1)) (fun h k' hk' => ?_) (fun h k' hk' => ?_) ?_
  · have hlt : 1 < l.length := by have := of_decide_eq_true h; omega
    obtain ⟨v, hv⟩ : ∃ v, l[1]? = some v := ⟨_, List.getElem?_eq_getElem hlt⟩
    have hix : aindexAddr Tryz.prog 66 (.lst (vals l)) (int 1) = some ((valA v).cptr 0) := vals_at (i := 1) hv
    simp [hix, e3]
    exact hk' _ _ ⟨rfl, by simp [e0], by simp [e2], by simp [e3], by simp [e4], by simp [argN, hv]⟩
  · have hz : l[1]? = none := List.getElem?_eq_none (by have := of_decide_eq_false h; omega)
    simp
    exact hk' _ _ ⟨rfl, by simp [e0], by simp [e2], by simp [e3], by simp [e4], by simp [e5, argN, hz]⟩
  clear e0 e2 e3 e4 e5
  rintro s' m' ⟨hm, e0, e2, e3, e4, e5⟩
  rw [hm]
  clear hm m'
  simp [e0, gC]
  by_cases q0 : n = 0
  · rw [reckR, if_pos q0] at hres
    simp [q0, e0, gC]
    refine goH_of (q113 hC1 hl q114 0) ?_
    rintro _ m5 ⟨rfl, kc, hc⟩
    have g5 := (kc.get m.next (by omega) (by omega)).trans b0
    simp [g5, e2, valA_agg]
    exact fin _ _ _ (by simp [e2]) ⟨_, by simp; rfl⟩ (by rw [hres]) kc (by rw [hres]; exact hc)
  by_cases q2 : n = 2
  · rw [reckR, if_neg q0, if_pos q2] at hres
    simp [q0, q2, e0, gC]
    refine goH_of (q113 hC1 hl q115 1) ?_
    rintro _ m5 ⟨rfl, kc, hc⟩
    have g5 := (kc.get m.next (by omega) (by omega)).trans b0
    simp [g5, e2, valA_agg]
    exact fin _ _ _ (by simp [e2]) ⟨_, by simp; rfl⟩ (by rw [hres]) kc (by rw [hres]; exact hc)
  by_cases q54 : n = 54
  · rw [reckR, if_neg q0, if_neg q2, if_pos q54] at hres
    simp [q0, q2, q54, e0, gC]
    refine goH_of (q113 hC1 hl q116 0) ?_
    rintro _ m5 ⟨rfl, kc, hc⟩
    have g5 := (kc.get m.next (by omega) (by omega)).trans b0
    simp [g5, e2, valA_agg]
    exact fin _ _ _ (by simp [e2]) ⟨_, by simp; rfl⟩ (by rw [hres]) kc (by rw [hres]; exact hc)
  by_cases q1 : n = 1
  · rw [reckR, if_neg q0, if_neg q2, if_neg q54, if_pos q1] at hres
    have hne := hn (.inl q1)
    simp [q0, q2, q54, q1, e3, ln]
    by_cases h1 : 1 < l.length
    · rw [if_pos h1] at hres
      simp [h1, show (1 : Int) < l.length by omega, e0, e3, e4, vals_tail hne]
      refine goH_of (q113 hC1 (l := l.tail) (by simp; omega) q117 (argN l 0)) ?_
      rintro _ m5 ⟨rfl, kc, hc⟩
      have g5 := (kc.get m.next (by omega) (by omega)).trans b0
      simp [g5, e2, valA_agg]
      exact fin _ _ _ (by simp [e2]) ⟨_, by simp; rfl⟩ (by rw [hres]) kc (by rw [hres]; exact hc)
    · rw [if_neg h1] at hres
      simp [h1, show ¬ (1 : Int) < l.length by omega, e0, e4, (q119 (argN l 0)).go]
      refine goH_of (q118 hC1 _ _) ?_
      rintro _ m5 ⟨rfl, kc, hc⟩
      have g5 := (kc.get m.next (by omega) (by omega)).trans b0
      simp [g5, e2, valA_agg]
      exact fin _ _ _ (by simp [e2]) ⟨_, by simp; rfl⟩ (by rw [hres]) kc (by rw [hres]; exact hc)
  by_cases q51 : n = 51
  · rw [reckR, if_neg q0, if_neg q2, if_neg q54, if_neg q1, if_pos q51] at hres
    have hne := hn (.inr (.inl q51))
    simp [q0, q2, q54, q1, q51, e0, e3, e4, vals_tail hne]
    refine goH_of (q113 hC1 (l := l.tail) (by simp; omega) q120' (argN l 0)) ?_
    rintro _ m5 ⟨rfl, kc, hc⟩
    have g5 := (kc.get m.next (by omega) (by omega)).trans b0
    simp [g5, e2, valA_agg]
    exact fin _ _ _ (by simp [e2]) ⟨_, by simp; rfl⟩ (by rw [hres]) kc (by rw [hres]; exact hc)
  by_cases q52 : n = 52
  · rw [reckR, if_neg q0, if_neg q2, if_neg q54, if_neg q1, if_neg q51, if_pos q52] at hres
    have hne := hn (.inr (.inr q52))
    simp [q0, q2, q54, q1, q51, q52, e0, e3, e4, vals_tail hne]
    refine goH_of (q113 hC1 (l := l.tail) (by simp; omega) q121' (argN l 0)) ?_
    rintro _ m5 ⟨rfl, kc, hc⟩
    have g5 := (kc.get m.next (by omega) (by omega)).trans b0
    simp [g5, e2, valA_agg]
    exact fin _ _ _ (by simp [e2]) ⟨_, by simp; rfl⟩ (by rw [hres]) kc (by rw [hres]; exact hc)
  by_cases q3 : n = 3
  · rw [reckR, if_neg q0, if_neg q2, if_neg q54, if_neg q1, if_neg q51, if_neg q52, if_pos q3] at hres
    simp [q0, q2, q54, q1, q51, q52, q3, e0, e4, e5, (q122 (argN l 0) (argN l 1)).go]
    refine goH_of (q118 hC1 _ _) ?_
    rintro _ m5 ⟨rfl, kc, hc⟩
    have g5 := (kc.get m.next (by omega) (by omega)).trans b0
    simp [g5, e2, valA_agg]
    exact fin _ _ _ (by simp [e2]) ⟨_, by simp; rfl⟩ (by rw [hres]) kc (by rw [hres]; exact hc)
  by_cases q4 : n = 4
  · rw [reckR, if_neg q0, if_neg q2, if_neg q54, if_neg q1, if_neg q51, if_neg q52, if_neg q3, if_pos q4] at hres
    simp [q0, q2, q54, q1, q51, q52, q3, q4, e0, e4, e5, (q123 (argN l 0) (argN l 1)).go]
    refine goH_of (q118 hC1 _ _) ?_
    rintro _ m5 ⟨rfl, kc, hc⟩
    have g5 := (kc.get m.next (by omega) (by omega)).trans b0
    simp [g5, e2, valA_agg]
    exact fin _ _ _ (by simp [e2]) ⟨_, by simp; rfl⟩ (by rw [hres]) kc (by rw [hres]; exact hc)
  by_cases q5 : n = 5
  · rw [reckR, if_neg q0, if_neg q2, if_neg q54, if_neg q1, if_neg q51, if_neg q52, if_neg q3, if_neg q4, if_pos q5] at hres
    simp [q0, q2, q54, q1, q51, q52, q3, q4, q5, e0, e4, e5, (q124 (argN l 0) (argN l 1)).go]
    refine goH_of (q118 hC1 _ _) ?_
    rintro _ m5 ⟨rfl, kc, hc⟩
    have g5 := (kc.get m.next (by omega) (by omega)).trans b0
    simp [g5, e2, valA_agg]
    exact fin _ _ _ (by simp [e2]) ⟨_, by simp; rfl⟩ (by rw [hres]) kc (by rw [hres]; exact hc)
  by_cases q53 : n = 53
  · rw [reckR, if_neg q0, if_neg q2, if_neg q54, if_neg q1, if_neg q51, if_neg q52, if_neg q3, if_neg q4, if_neg q5, if_pos q53] at hres
    simp [q0, q2, q54, q1, q51, q52, q3, q4, q5, q53, e0, e4, e5, (q125 (argN l 0) (argN l 1)).go]
    refine goH_of (q118 hC1 _ _) ?_
    rintro _ m5 ⟨rfl, kc, hc⟩
    have g5 := (kc.get m.next (by omega) (by omega)).trans b0
    simp [g5, e2, valA_agg]
    exact fin _ _ _ (by simp [e2]) ⟨_, by simp; rfl⟩ (by rw [hres]) kc (by rw [hres]; exact hc)
  rw [reckR, if_neg q0, if_neg q2, if_neg q54, if_neg q1, if_neg q51, if_neg q52, if_neg q3, if_neg q4, if_neg q5, if_neg q53] at hres
  simp [q0, q2, q54, q1, q51, q52, q3, q4, q5, q53, e4]
  by_cases hz : argN l 0 < 0
  · rw [if_pos hz] at hres
    simp [hz, e0, e4, (q119 (argN l 0)).go]
    refine goH_of (q118 hC1 _ _) ?_
    rintro _ m5 ⟨rfl, kc, hc⟩
    have g5 := (kc.get m.next (by omega) (by omega)).trans b0
    simp [g5, e2, valA_agg]
    exact fin _ _ _ (by simp [e2]) ⟨_, by simp; rfl⟩ (by rw [hres]) kc (by rw [hres]; exact hc)
  · rw [if_neg hz] at hres
    simp [hz, e2, e4, b0, (q126 (argN l 0)).go, valA_agg]
    exact fin _ _ (1, argN l 0) (by simp [e2]) ⟨_, by simp; rfl⟩ (by rw [hres]; simp [numV]) (.refl _ _) (by rw [hres]; simpa [kdOf] using hC1)
end Go.Proofs.YtnhcmcfgemoehaaGreat

/- What is asked of values. -/
set_option linter.unusedSimpArgs false
set_option linter.unusedVariables false
set_option linter.unusedSectionVars false
namespace Go.Proofs.YtnhcmcfgemoehaaGreat
set_option maxRecDepth 4000
open Go.V
attribute [local simp] Nat.add_assoc
def truV (b : Bool) : Val := (2, if b then 1 else 0)
theorem q67 (b : Bool) : Gives Tryz.prog ca 67 [.sc (.bool b)] (valA (truV b)) := by
  refine gives_run Tryz.func67 rfl rfl rfl rfl (by simp) (by simp [Tryz.f67]) (by simp [Tryz.f67]) fun m => ?_
  cases b
  · simp [Tryz.f67, show ca.keepRes 67 = false from rfl, abuild, placesOf, fillAt]
    rfl
  · simp [Tryz.f67, show ca.keepRes 67 = false from rfl, abuild, placesOf, fillAt]
    rfl
/-- Do two numbers stand as they are to? -/
def relM (n x y : Int) : Bool := if n = 6 then decide (x = y) else if n = 8 then decide (y < x) else if n = 7 then decide (x < y) else if n = 10 then decide (y ≤ x) else decide (x ≤ y)
def holdsM (n : Int) : List Val → Bool
  | [] => true
  | [_] => true
  | x :: y :: l => relM n x.2 y.2 && holdsM n (y :: l)
theorem holds_at {n : Int} {l : List Val} {i : Nat} {x y : Val} (hx : l[i]? = some x) (hy : l[i + 1]? = some y) : holdsM n (l.drop i) = (relM n x.2 y.2 && holdsM n (l.drop (i + 1))) := by
  rw [drop_at hx, drop_at hy, holdsM]
theorem holds_end {n : Int} {l : List Val} {i : Nat} (h : l.length ≤ i + 1) : holdsM n (l.drop i) = true := by
  have : (l.drop i).length ≤ 1 := by rw [List.length_drop]; omega
  match l.drop i, this with
  | [], _ => rfl
  | [_], _ => rfl
  | _ :: _ :: _, h => simp at h
set_option maxHeartbeats 8000000 in
theorem q68 {A C : Nat} {n k : Int} {l : List Val} {m : Mem} (hC : has m C (clC A n l k)) (hl : l.length ≤ 4096) : EH Tryz.prog ca (.func 68) [.ptr C 0] m (.sc (.bool (holdsM n l))) m := by
  obtain ⟨hCl, w, hg⟩ := hC
  have ln : ∀ (R : TypeId) (m : Mem), abuiltin Tryz.prog .len #[66] R [.lst (vals l)] m = some (int l.length, m) := fun R m => by rw [alen_lst Tryz.underlying66]; simp
  refine eh_run Tryz.func68 rfl rfl rfl rfl (args1 := [.ptr C 0]) (m1 := m) (by simp) (by simp) (by simp [Tryz.f68]) (by simp [Tryz.f68]) ?_
  simp only [Tryz.f68, show ca.keepRes 68 = false from rfl]
  obtain ⟨g, hgd⟩ : ∃ g, g = holdsM n l := ⟨_, rfl⟩
  rw [← hgd]
  simp
  refine go_loopF (fun d s' m' => ∃ i : Nat, d = l.length - i ∧ s'.at 3 = int ((i : Int) + 1) ∧ m' = m ∧ g = holdsM n (l.drop i)) l.length ⟨0, rfl, by simp, rfl, by simpa using hgd⟩ ?_
  rintro d s' m' ⟨i, rfl, e3, rfl, hh⟩ hsame Q' hn he
  have e0 : s'.at 0 = .ptr C 0 := (hsame 0 (by kernel_rfl)).trans (by simp)
  clear hsame
  simp [e0, e3, hg, ln]
  refine goB_split (fun h => ?_) fun h => ?_
  · have hlt : i + 1 < l.length := by have := of_decide_eq_true h; omega
    obtain ⟨x, hx⟩ : ∃ x, l[i]? = some x := ⟨_, List.getElem?_eq_getElem (by omega)⟩
    obtain ⟨y, hy⟩ : ∃ x, l[i + 1]? = some x := ⟨_, List.getElem?_eq_getElem hlt⟩
    have ix := vals_at hx
    have iy := vals_at hy
    have hw : IntKind.i64.wrap ((i : Int) + 1 - 1) = (i : Int) := by rw [IntWalk.i64_in _ (by omega)]; omega
    have hw2 : IntKind.i64.wrap ((i : Int) + 1 + 1) = (((i + 1 : Nat) : Int) + 1) := by rw [IntWalk.i64_in _ (by omega)]; omega
    rw [holds_at hx hy] at hh
    simp
    refine go_draw0 (by kernel_rfl) (by kernel_rfl) ?_
    rw [Int.natCast_add, Int.natCast_one] at iy
    have hw0 : IntKind.i64.wrap (i : Int) = (i : Int) := IntWalk.i64_in _ (by omega)
    simp [e0, e3, hg, hw, hw0, ix, iy]
    by_cases d6 : n = 6
    · by_cases hxy : x.2 = y.2
      · have hr : relM n x.2 y.2 = true := by simp [relM, d6, hxy]
        rw [hr, Bool.true_and] at hh
        simp [d6, hxy]
        simp [e3, hw2]
        exact hn (l.length - (i + 1)) _ _ (by omega) ⟨i + 1, rfl, by simp, by simp, hh⟩
      · have hr : relM n x.2 y.2 = false := by simp [relM, d6, hxy]
        rw [hr, Bool.false_and] at hh
        subst hh
        simp [d6, hxy]
        refine he _ _ _ (by simp) ?_
        simp
    by_cases d8 : n = 8
    · by_cases hxy : y.2 < x.2
      · have hr : relM n x.2 y.2 = true := by simp [relM, d6, d8, hxy]
        rw [hr, Bool.true_and] at hh
        simp [d6, d8, hxy]
        simp [e3, hw2]
        exact hn (l.length - (i + 1)) _ _ (by omega) ⟨i + 1, rfl, by simp, by simp, hh⟩
      · have hr : relM n x.2 y.2 = false := by simp [relM, d6, d8, hxy]
        rw [hr, Bool.false_and] at hh
        subst hh
        simp [d6, d8, hxy]
        refine he _ _ _ (by simp) ?_
        simp
    by_cases d7 : n = 7
    · by_cases hxy : x.2 < y.2
      · have hr : relM n x.2 y.2 = true := by simp [relM, d6, d8, d7, hxy]
        rw [hr, Bool.true_and] at hh
        simp [d6, d8, d7, hxy]
        simp [e3, hw2]
        exact hn (l.length - (i + 1)) _ _ (by omega) ⟨i + 1, rfl, by simp, by simp, hh⟩
      · have hr : relM n x.2 y.2 = false := by simp [relM, d6, d8, d7, hxy]
        rw [hr, Bool.false_and] at hh
        subst hh
        simp [d6, d8, d7, hxy]
        refine he _ _ _ (by simp) ?_
        simp
    by_cases d10 : n = 10
    · by_cases hxy : y.2 ≤ x.2
      · have hr : relM n x.2 y.2 = true := by simp [relM, d6, d8, d7, d10, hxy]
        rw [hr, Bool.true_and] at hh
        simp [d6, d8, d7, d10, hxy]
        simp [e3, hw2]
        exact hn (l.length - (i + 1)) _ _ (by omega) ⟨i + 1, rfl, by simp, by simp, hh⟩
      · have hr : relM n x.2 y.2 = false := by simp [relM, d6, d8, d7, d10, hxy]
        rw [hr, Bool.false_and] at hh
        subst hh
        simp [d6, d8, d7, d10, hxy]
        refine he _ _ _ (by simp) ?_
        simp
    by_cases hxy : x.2 ≤ y.2
    · have hr : relM n x.2 y.2 = true := by simp [relM, d6, d8, d7, d10, hxy]
      rw [hr, Bool.true_and] at hh
      simp [d6, d8, d7, d10, hxy]
      simp [e3, hw2]
      exact hn (l.length - (i + 1)) _ _ (by omega) ⟨i + 1, rfl, by simp, by simp, hh⟩
    · have hr : relM n x.2 y.2 = false := by simp [relM, d6, d8, d7, d10, hxy]
      rw [hr, Bool.false_and] at hh
      subst hh
      simp [d6, d8, d7, d10, hxy]
      refine he _ _ _ (by simp) ?_
      simp
  · have hge : l.length ≤ i + 1 := by have := of_decide_eq_false h; omega
    rw [holds_end hge] at hh
    subst hh
    simp
    refine he _ _ _ (by simp) ?_
    simp
/-- What a value is. -/
def asksM (a : ArM) (n : Int) (v : Val) : Bool :=
  if n = 21 then decide (v.1 = 4) else if n = 43 then decide (v.1 = 5) else if n = 45 then decide (v.1 = 1) else if n = 46 then decide (v.1 = 2) else if n = 47 then decide (v.1 = 3)
  else if n = 20 then decide ((getM a v).1.k = 1) else if n = 44 then decide ((getM a v).1.k = 3) else if n = 49 then decide ((getM a v).1.k = 2)
  else if n = 12 then decide (v = (2, 0)) else if n = 11 then decide (v.2 = 0)
  else decide (v.1 = 6 ∨ (getM a v).1.k = 5 ∨ (getM a v).1.k = 6)
set_option maxHeartbeats 8000000 in
theorem q69 {X : Nat → Prop} {A C : Nat} {n k : Int} {l : List Val} {a : ArM} {m : Mem} (hA : Ar X A a m) (hsm : Small a) (hC : has m C (clC A n l k)) (v : Val) : EH Tryz.prog ca (.func 69) [.ptr C 0, valA v] m (.sc (.bool (asksM a n v))) m := by
  obtain ⟨hCl, w, hg⟩ := id hC
  obtain ⟨vt, vn⟩ := v
  refine eh_run Tryz.func69 rfl rfl rfl rfl (args1 := [.ptr C 0, valA (vt, vn)]) (m1 := m) (by simp [fzvs]) (by simp) (by simp [Tryz.f69]) (by simp [Tryz.f69]) ?_
  simp only [Tryz.f69, show ca.keepRes 69 = false from rfl]
  have hag : AV.agg [int vt, int vn] = valA (vt, vn) := rfl
  obtain ⟨g, hgd⟩ : ∃ g, g = asksM a n (vt, vn) := ⟨_, rfl⟩
  rw [← hgd]
  obtain ⟨x0, hx0⟩ : ∃ x, x = (m.new [int vt, int vn] false).newMap := ⟨_, rfl⟩
  obtain ⟨vx0, mpx0⟩ : ∃ v, x0.map (m.next + 1) = some ⟨[], 0, v⟩ := ⟨_, by rw [hx0]; simp; rfl⟩
  have ux1 := amapUpdate_newI (P := Tryz.prog) tmap119 Tryz.underlying3 mpx0 (ks := []) rfl (k := 21) rfl (int 4)
  obtain ⟨x1, hx1⟩ : ∃ x, x = x0.setMap (m.next + 1) ([] ++ [(.int .i64 21, int 4, 0)]) (0 + 1) := ⟨_, rfl⟩
  obtain ⟨vx1, mpx1⟩ : ∃ v, x1.map (m.next + 1) = some ⟨[(.int .i64 21, int 4, 0)], 1, v⟩ := ⟨_, by rw [hx1]; simp; rfl⟩
  rw [← hx1] at ux1
  have ux2 := amapUpdate_newI (P := Tryz.prog) tmap119 Tryz.underlying3 mpx1 (ks := [21]) rfl (k := 43) rfl (int 5)
  obtain ⟨x2, hx2⟩ : ∃ x, x = x1.setMap (m.next + 1) ([(.int .i64 21, int 4, 0)] ++ [(.int .i64 43, int 5, 1)]) (1 + 1) := ⟨_, rfl⟩
  obtain ⟨vx2, mpx2⟩ : ∃ v, x2.map (m.next + 1) = some ⟨[(.int .i64 21, int 4, 0), (.int .i64 43, int 5, 1)], 2, v⟩ := ⟨_, by rw [hx2]; simp; rfl⟩
  rw [← hx2] at ux2
  have ux3 := amapUpdate_newI (P := Tryz.prog) tmap119 Tryz.underlying3 mpx2 (ks := [21, 43]) rfl (k := 45) rfl (int 1)
  obtain ⟨x3, hx3⟩ : ∃ x, x = x2.setMap (m.next + 1) ([(.int .i64 21, int 4, 0), (.int .i64 43, int 5, 1)] ++ [(.int .i64 45, int 1, 2)]) (2 + 1) := ⟨_, rfl⟩
  obtain ⟨vx3, mpx3⟩ : ∃ v, x3.map (m.next + 1) = some ⟨[(.int .i64 21, int 4, 0), (.int .i64 43, int 5, 1), (.int .i64 45, int 1, 2)], 3, v⟩ := ⟨_, by rw [hx3]; simp; rfl⟩
  rw [← hx3] at ux3
  have ux4 := amapUpdate_newI (P := Tryz.prog) tmap119 Tryz.underlying3 mpx3 (ks := [21, 43, 45]) rfl (k := 46) rfl (int 2)
  obtain ⟨x4, hx4⟩ : ∃ x, x = x3.setMap (m.next + 1) ([(.int .i64 21, int 4, 0), (.int .i64 43, int 5, 1), (.int .i64 45, int 1, 2)] ++ [(.int .i64 46, int 2, 3)]) (3 + 1) := ⟨_, rfl⟩
  obtain ⟨vx4, mpx4⟩ : ∃ v, x4.map (m.next + 1) = some ⟨[(.int .i64 21, int 4, 0), (.int .i64 43, int 5, 1), (.int .i64 45, int 1, 2), (.int .i64 46, int 2, 3)], 4, v⟩ := ⟨_, by rw [hx4]; simp; rfl⟩
  rw [← hx4] at ux4
  have ux5 := amapUpdate_newI (P := Tryz.prog) tmap119 Tryz.underlying3 mpx4 (ks := [21, 43, 45, 46]) rfl (k := 47) rfl (int 3)
  obtain ⟨x5, hx5⟩ : ∃ x, x = x4.setMap (m.next + 1) ([(.int .i64 21, int 4, 0), (.int .i64 43, int 5, 1), (.int .i64 45, int 1, 2), (.int .i64 46, int 2, 3)] ++ [(.int .i64 47, int 3, 4)]) (4 + 1) := ⟨_, rfl⟩
  obtain ⟨vx5, mpx5⟩ : ∃ v, x5.map (m.next + 1) = some ⟨[(.int .i64 21, int 4, 0), (.int .i64 43, int 5, 1), (.int .i64 45, int 1, 2), (.int .i64 46, int 2, 3), (.int .i64 47, int 3, 4)], 5, v⟩ := ⟨_, by rw [hx5]; simp; rfl⟩
  rw [← hx5] at ux5
  have gx : ∀ j, x5.get j = x0.get j := fun j => by rw [hx5, hx4, hx3, hx2, hx1]; simp
  have nx : x5.next = x0.next := by rw [hx5, hx4, hx3, hx2, hx1]; simp
  have hlx := alookup_int (P := Tryz.prog) (ok := true) tmap119 Tryz.underlying3 mpx5 (ks := [21, 43, 45, 46, 47]) rfl n
  have kx : Kp m x5 := by rw [hx5, hx4, hx3, hx2, hx1, hx0]; simp
  have b5 : x5.get m.next = some (.cells [int vt, int vn] false (m.clock + 1)) := by rw [gx, hx0]; simp
  have C5 := (kx.get C hCl).trans hg
  have nx5 : x5.next = m.next + 2 := by rw [nx, hx0]; simp
  clear hx5 hx4 hx3 hx2 hx1 mpx0 mpx1 mpx2 mpx3 mpx4
  simp [amakeMap_none tmap119]
  rw [← hx0]
  clear hx0 gx nx
  simp [ux1, ux2, ux3, ux4, ux5, C5]
  clear ux1 ux2 ux3 ux4 ux5
  by_cases d21 : n = 21
  · rw [asksM, if_pos d21] at hgd
    subst d21
    have hl' : alookup Tryz.prog 119 (.mp (m.next + 1)) (int 21) true x5 = some (.tup [int 4, .sc (.bool true)]) := by rw [hlx]; rfl
    simp [hl', b5, hgd]
    exact kx
  by_cases d43 : n = 43
  · rw [asksM, if_neg d21, if_pos d43] at hgd
    subst d43
    have hl' : alookup Tryz.prog 119 (.mp (m.next + 1)) (int 43) true x5 = some (.tup [int 5, .sc (.bool true)]) := by rw [hlx]; rfl
    simp [hl', b5, hgd]
    exact kx
  by_cases d45 : n = 45
  · rw [asksM, if_neg d21, if_neg d43, if_pos d45] at hgd
    subst d45
    have hl' : alookup Tryz.prog 119 (.mp (m.next + 1)) (int 45) true x5 = some (.tup [int 1, .sc (.bool true)]) := by rw [hlx]; rfl
    simp [hl', b5, hgd]
    exact kx
  by_cases d46 : n = 46
  · rw [asksM, if_neg d21, if_neg d43, if_neg d45, if_pos d46] at hgd
    subst d46
    have hl' : alookup Tryz.prog 119 (.mp (m.next + 1)) (int 46) true x5 = some (.tup [int 2, .sc (.bool true)]) := by rw [hlx]; rfl
    simp [hl', b5, hgd]
    exact kx
  by_cases d47 : n = 47
  · rw [asksM, if_neg d21, if_neg d43, if_neg d45, if_neg d46, if_pos d47] at hgd
    subst d47
    have hl' : alookup Tryz.prog 119 (.mp (m.next + 1)) (int 47) true x5 = some (.tup [int 3, .sc (.bool true)]) := by rw [hlx]; rfl
    simp [hl', b5, hgd]
    exact kx
  have hl' : alookup Tryz.prog 119 (.mp (m.next + 1)) (int n) true x5 = some (.tup [int 0, .sc (.bool false)]) := by
    have hfi : ([21, 43, 45, 46, 47] : List Int).findIdx? (fun x => decide (x = n)) = none := by
      rw [List.findIdx?_eq_none_iff]
      intro x hx
      simp at hx
      simp
      omega
    rw [hlx, hfi]
    simp [tzero3]
  obtain ⟨y0, hy0⟩ : ∃ x, x = x5.newMap := ⟨_, rfl⟩
  obtain ⟨vy0, mpy0⟩ : ∃ v, y0.map (x5.next) = some ⟨[], 0, v⟩ := ⟨_, by rw [hy0]; simp; rfl⟩
  have uy1 := amapUpdate_newI (P := Tryz.prog) tmap119 Tryz.underlying3 mpy0 (ks := []) rfl (k := 20) rfl (int 1)
  obtain ⟨y1, hy1⟩ : ∃ x, x = y0.setMap (x5.next) ([] ++ [(.int .i64 20, int 1, 0)]) (0 + 1) := ⟨_, rfl⟩
  obtain ⟨vy1, mpy1⟩ : ∃ v, y1.map (x5.next) = some ⟨[(.int .i64 20, int 1, 0)], 1, v⟩ := ⟨_, by rw [hy1]; simp; rfl⟩
  rw [← hy1] at uy1
  have uy2 := amapUpdate_newI (P := Tryz.prog) tmap119 Tryz.underlying3 mpy1 (ks := [20]) rfl (k := 44) rfl (int 3)
  obtain ⟨y2, hy2⟩ : ∃ x, x = y1.setMap (x5.next) ([(.int .i64 20, int 1, 0)] ++ [(.int .i64 44, int 3, 1)]) (1 + 1) := ⟨_, rfl⟩
  obtain ⟨vy2, mpy2⟩ : ∃ v, y2.map (x5.next) = some ⟨[(.int .i64 20, int 1, 0), (.int .i64 44, int 3, 1)], 2, v⟩ := ⟨_, by rw [hy2]; simp; rfl⟩
  rw [← hy2] at uy2
  have uy3 := amapUpdate_newI (P := Tryz.prog) tmap119 Tryz.underlying3 mpy2 (ks := [20, 44]) rfl (k := 49) rfl (int 2)
  obtain ⟨y3, hy3⟩ : ∃ x, x = y2.setMap (x5.next) ([(.int .i64 20, int 1, 0), (.int .i64 44, int 3, 1)] ++ [(.int .i64 49, int 2, 2)]) (2 + 1) := ⟨_, rfl⟩
  obtain ⟨vy3, mpy3⟩ : ∃ v, y3.map (x5.next) = some ⟨[(.int .i64 20, int 1, 0), (.int .i64 44, int 3, 1), (.int .i64 49, int 2, 2)], 3, v⟩ := ⟨_, by rw [hy3]; simp; rfl⟩
  rw [← hy3] at uy3
  have gy : ∀ j, y3.get j = y0.get j := fun j => by rw [hy3, hy2, hy1]; simp
  have ny : y3.next = y0.next := by rw [hy3, hy2, hy1]; simp
  have hly := alookup_int (P := Tryz.prog) (ok := true) tmap119 Tryz.underlying3 mpy3 (ks := [20, 44, 49]) rfl n
  have ky : Kp x5 y3 := by rw [hy3, hy2, hy1, hy0]; simp
  have kxy := kx.trans ky
  have b3 := (ky.get m.next (by omega)).trans b5
  have C3 := (ky.get C (by omega)).trans C5
  clear hy3 hy2 hy1 mpy0 mpy1 mpy2
  simp [hl', amakeMap_none tmap119]
  rw [← hy0]
  clear hy0 gy ny
  simp [uy1, uy2, uy3, C3]
  clear uy1 uy2 uy3
  by_cases d20 : n = 20
  · rw [asksM, if_neg d21, if_neg d43, if_neg d45, if_neg d46, if_neg d47, if_pos d20] at hgd
    have q := q65 (hA.kp kxy) hsm (hC.kp kxy) (vt, vn) 1
    subst d20
    have hl'' : alookup Tryz.prog 119 (.mp x5.next) (int 20) true y3 = some (.tup [int 1, .sc (.bool true)]) := by rw [hly]; rfl
    simp [hl'', b3, hag, q.go, hgd]
    exact kxy
  by_cases d44 : n = 44
  · rw [asksM, if_neg d21, if_neg d43, if_neg d45, if_neg d46, if_neg d47, if_neg d20, if_pos d44] at hgd
    have q := q65 (hA.kp kxy) hsm (hC.kp kxy) (vt, vn) 3
    subst d44
    have hl'' : alookup Tryz.prog 119 (.mp x5.next) (int 44) true y3 = some (.tup [int 3, .sc (.bool true)]) := by rw [hly]; rfl
    simp [hl'', b3, hag, q.go, hgd]
    exact kxy
  by_cases d49 : n = 49
  · rw [asksM, if_neg d21, if_neg d43, if_neg d45, if_neg d46, if_neg d47, if_neg d20, if_neg d44, if_pos d49] at hgd
    have q := q65 (hA.kp kxy) hsm (hC.kp kxy) (vt, vn) 2
    subst d49
    have hl'' : alookup Tryz.prog 119 (.mp x5.next) (int 49) true y3 = some (.tup [int 2, .sc (.bool true)]) := by rw [hly]; rfl
    simp [hl'', b3, hag, q.go, hgd]
    exact kxy
  have hl'' : alookup Tryz.prog 119 (.mp x5.next) (int n) true y3 = some (.tup [int 0, .sc (.bool false)]) := by
    have hfi : ([20, 44, 49] : List Int).findIdx? (fun x => decide (x = n)) = none := by
      rw [List.findIdx?_eq_none_iff]
      intro x hx
      simp at hx
      simp
      omega
    rw [hly, hfi]
    simp [tzero3]
  simp [hl'', C3]
  by_cases d12 : n = 12
  · rw [asksM, if_neg d21, if_neg d43, if_neg d45, if_neg d46, if_neg d47, if_neg d20, if_neg d44, if_neg d49, if_pos d12] at hgd
    simp [d12]
    refine go_drawD (by kernel_rfl) ?_
    simp [b3, (q67 false).go, hag, val_eq, truV]
    refine goM_of (l := [(0, 1)]) (by kernel_rfl) (?_ : List.all _ _ = true) ?_
    · simp [metAtD, metOkD, rank, verKeptD, Region.wanted, Mem.ver, b3]
    simp [hgd]
    exact kxy
  by_cases d11 : n = 11
  · rw [asksM, if_neg d21, if_neg d43, if_neg d45, if_neg d46, if_neg d47, if_neg d20, if_neg d44, if_neg d49, if_neg d12, if_pos d11] at hgd
    simp [d12, d11, b3, hgd]
    exact kxy
  rw [asksM, if_neg d21, if_neg d43, if_neg d45, if_neg d46, if_neg d47, if_neg d20, if_neg d44, if_neg d49, if_neg d12, if_neg d11] at hgd
  have q5 := q65 (hA.kp kxy) hsm (hC.kp kxy) (vt, vn) 5
  have q6 := q65 (hA.kp kxy) hsm (hC.kp kxy) (vt, vn) 6
  simp [d12, d11, b3]
  by_cases h6 : vt = 6
  · simp [h6, undefV, undef, hgd]
    exact kxy
  · by_cases h5 : (getM a (vt, vn)).1.k = 5
    · simp [h6, hag, q5.go, h5, undefV, undef, hgd, b3]
      exact kxy
    · simp [h6, hag, q5.go, q6.go, h5, undefV, undef, hgd, b3]
      exact kxy
end Go.Proofs.YtnhcmcfgemoehaaGreat

/- A cell's value is changed. -/
set_option linter.unusedSimpArgs false
set_option linter.unusedVariables false
set_option linter.unusedSectionVars false
namespace Go.Proofs.YtnhcmcfgemoehaaGreat
set_option maxRecDepth 4000
open Go.V
attribute [local simp] Nat.add_assoc
def putA (a : ArM) (p : Nat) (c : CeM) (i : Nat) (x : Val) : ArM := ⟨a.room, a.cells.set p ⟨c.k, c.n, c.a.set i x, c.s⟩, a.names⟩
theorem zip_set : ∀ (l : List CeM) (xs : List AV) (p : Nat) (c d : CeM), l[p]? = some c → d.k = c.k → d.n = c.n → d.s = c.s → List.zipWith rowA (l.set p d) xs = List.zipWith rowA l xs
  | [], _, p, c, d, h, _, _, _ => by simp at h
  | b :: l, [], p, c, d, h, _, _, _ => by simp
  | b :: l, x :: xs, 0, c, d, h, h1, h2, h3 => by simp at h; subst h; simp [rowA, h1, h2, h3]
  | b :: l, x :: xs, p + 1, c, d, h, h1, h2, h3 => by simpa using zip_set l xs p c d (by simpa using h) h1 h2 h3
theorem ixM_at {a : ArM} {p : Nat} {c : CeM} (hc : a.cells[p]? = some c) : ixM a (7, (p : Int)) = some p := by
  have := (List.getElem?_eq_some_iff.1 hc).1
  simp [ixM, goodM, below]
  omega
theorem ar_put {X : Nat → Prop} {A M : Nat} {a : ArM} {m : Mem} {t : Nat → Option Nat} {cs ns : AV} {xs : List AV} (h : ArT t A M cs ns xs a m) (hx : ∀ j, t j ≠ none → X j ∧ j < m.next) {p : Nat} {c : CeM} (hc : a.cells[p]? = some c) {id : Nat} (hy : xs[p]? = some (.sl id 0 (vals c.a).length 2 true none)) (ht : t id = some (4 + p)) (hid : id < m.next) (i : Nat) (hi : i < c.a.length) (x : Val) : Ar X A (putA a p c i x) (m.set id (flat (vals (c.a.set i x)))) := by
  obtain ⟨lt, ta, ⟨v, get⟩, ml, tm, ⟨v2, map⟩, cells, names, len, row, sane⟩ := h
  have ne : ∀ j n, t j = some n → n ≠ 4 + p → j ≠ id := by
    rintro j n hj hn rfl
    rw [ht] at hj
    cases hj
    exact hn rfl
  have keep : ∀ j n, n ≠ 4 + p → j < m.next → t j = some n → (m.set id (flat (vals (c.a.set i x)))).get j = m.get j ∧ t j = some n := fun j n hn hj hj' => ⟨by simp [ne j n hj' hn], hj'⟩
  refine ⟨t, M, cs, ns, xs, ⟨by simpa using lt, ta, ⟨v, ?_⟩, by simpa using ml, tm, ⟨v2, by simpa [putA] using map⟩, ?_, ?_, ?_, ?_, ?_⟩, fun j hj => by simpa using hx j hj⟩
  · rw [(keep A 0 (by omega) lt ta).1]; exact get
  · show Has t 1 4 true (.emp 0) _ cs (List.zipWith rowA (a.cells.set p _) xs)
    rw [zip_set a.cells xs p c ⟨c.k, c.n, c.a.set i x, c.s⟩ hc rfl rfl rfl]
    exact cells.mono (by simp) fun j => keep j _ (by omega)
  · exact names.mono (by simp) fun j => keep j _ (by omega)
  · simpa [putA] using len
  · intro i' c' x' hc' hx'
    by_cases e : i' = p
    · subst e
      rw [hy] at hx'
      cases hx'
      have hlt := (List.getElem?_eq_some_iff.1 hc).1
      simp only [putA, List.getElem?_set_self hlt] at hc'
      cases hc'
      refine .inr ⟨fun q => ?_, id, m.clock + 1, by simp, by simpa using hid, ht, by simp⟩
      have := congrArg List.length q
      simp at this
      rw [this] at hi
      simp at hi
    · simp only [putA] at hc'
      rw [List.getElem?_set_ne (fun h => e h.symm)] at hc'
      exact (row i' c' x' hc' hx').mono (by simp) fun j => keep j _ (by omega)
  · simpa [putA] using sane
section
variable {X : Nat → Prop} {A : Nat} {a : ArM} {m : Mem}
set_option maxHeartbeats 8000000 in
theorem q128 (hA : Ar X A a m) {p : Nat} {c : CeM} (hc : a.cells[p]? = some c) (hk : c.k = 1 ∨ c.k = 2) {i : Nat} (hi : i < c.a.length) {x : Val} (hg : goodM a x = true) : wph Tryz.prog ca (.func 128) [.ptr A 0, valA (7, (p : Int)), int i, valA x] m fun v m' => v = int 0 ∧ Up X A (putA a p c i x) m m' := by
  refine wph_go Tryz.func128 rfl rfl (by simp [Tryz.f128]) (by simp [Tryz.f128]) fun Q hQ => ?_
  simp only [Tryz.f128, show ca.keepRes 128 = false from rfl, show ca.keepArgs 128 = false from rfl] at hQ ⊢
  obtain ⟨M1, hM1⟩ : ∃ M1, M1 = (m.new [int 7, int p] false).new [int x.1, int x.2] false := ⟨_, rfl⟩
  have k1 : Kp m M1 := by rw [hM1]; simp
  have n1 : M1.next = m.next + 2 := by rw [hM1]; simp
  have b0 : M1.get m.next = some (.cells [int 7, int p] false (m.clock + 1)) := by rw [hM1]; simp
  have b1 : M1.get (m.next + 1) = some (.cells [int x.1, int x.2] false (m.clock + 2)) := by rw [hM1]; simp
  have hA1 := hA.kp k1
  have q1 := q34 hA1
  have q2 := q41 hA1 x
  rw [hg] at q2
  obtain ⟨t, M, cs, ns, xs, h, hx'⟩ := id hA1
  have q3 := q77 h hx' (7, (p : Int))
  obtain ⟨C, vc, y, rfl, hC, htC, hgC, hy, hz, hrow⟩ := h.at hc
  have c1 : cellP a (.sl C 0 a.cells.length 4 true none) (7, (p : Int)) = .ptr C (p * 4) := by simp [cellP, ixM_at hc, blk]
  rw [c1] at q3
  obtain ⟨f1, f2⟩ := flat_at (zip_ok a.cells xs) hz
  have part : ∀ {k : Nat} {r : AV} (q : Nat) (w : AV), ((flat (List.zipWith rowA a.cells xs)).drop (k * 4)).take 4 = r.cells → r.cells[q]? = some w → (flat (List.zipWith rowA a.cells xs))[k * 4 + q]? = some w := by
    intro k r q w h2 h3
    have hq : q < 4 := by
      have := (List.getElem?_eq_some_iff.1 h3).1
      rw [← h2] at this
      simp at this
      omega
    rw [← h2, List.getElem?_take_of_lt hq, List.getElem?_drop] at h3
    exact h3
  have px0 := part 0 (int c.k) f2 rfl
  have px2 := part 2 y f2 rfl
  rw [Nat.add_zero] at px0
  obtain ⟨e, _⟩ | ⟨hne, id, w, rfl, hid, htid, hgid⟩ := hrow
  · have := congrArg List.length e
    simp at this
    rw [this] at hi
    simp at hi
  have hb : below (i : Int) c.a.length = true := by simp [below]; omega
  have ln : ∀ (R : TypeId) (m : Mem), abuiltin Tryz.prog .len #[66] R [.sl id 0 (vals c.a).length 2 true none] m = some (int c.a.length, m) := fun R m => by rw [alen_sl Tryz.underlying66]; simp
  have hix := aindexAddr_sl (P := Tryz.prog) (q := .i64) (ag := true) (c := none) (id := id) (off := 0) (len := (vals c.a).length) (i := i) Tryz.underlying66 tsize51 (by simpa using hi)
  simp only [vals_length] at hix ln
  have hag : AV.agg [int 7, int p] = valA (7, (p : Int)) := rfl
  simp
  rw [← hM1]
  clear hM1
  simp [q1.go, b0, hag, q3.go]
  have up := ar_put (X := X) h hx' hc hy htid hid i hi x
  have sp := splice_vals c.a i x hi
  simp [splice] at sp
  have hlen : i * 2 + 2 ≤ (flat (vals c.a)).length := by rw [flat_length (vals_ok c.a)]; simp; omega
  have kk : KpC X m (M1.set id (flat (vals (c.a.set i x)))) := (KpC.of (.of k1)).trans ((kc_set id _ M1).mono fun j e => by
    have e : j = id := e
    subst e
    exact (hx' j (by rw [htid]; simp)).1)
  have fin : ∀ (s' : Sl), s'.at 8 = int 0 → Q .ret s' (M1.set id (flat (vals (c.a.set i x)))) := fun s' h8 => hQ _ _ _ (by
    rw [leave_ret]
    exact ⟨[int 0], by simp [aresult, h8], by simp [oneOf]; exact ⟨X, up, kk, fun j h => .inl h⟩⟩)
  rcases hk with hk | hk
  · simp [eq135, hgC, px0, px2, hk, undefV, undef, ln, (q75 (i : Int) c.a.length).go, hb, b1, valA_agg, q2.go]
    refine go_draw0 (by kernel_rfl) (by kernel_rfl) ?_
    simp [hgC, px2, b1, hix, hgid, sp, hlen]
    exact fin _ (by simp)
  · simp [eq135, hgC, px0, px2, hk, undefV, undef, ln, (q75 (i : Int) c.a.length).go, hb, b1, valA_agg, q2.go]
    refine go_draw0 (by kernel_rfl) (by kernel_rfl) ?_
    simp [hgC, px2, b1, hix, hgid, sp, hlen]
    exact fin _ (by simp)
end
end Go.Proofs.YtnhcmcfgemoehaaGreat

/- Vectors. -/
set_option linter.unusedSimpArgs false
set_option linter.unusedVariables false
set_option linter.unusedSectionVars false
namespace Go.Proofs.YtnhcmcfgemoehaaGreat
set_option maxRecDepth 4000
open Go.V
attribute [local simp] Nat.add_assoc
theorem q173 (x y : Nat) (hx : x ≤ 1152921504606846976) (hy : y ≤ 1152921504606846976) : Gives Tryz.prog ca 173 [.sc (.int .u64 x), .sc (.int .u64 y)] (.tup [.sc (.int .u64 (((x * y) / 18446744073709551616 : Nat) : Int)), .sc (.int .u64 (((x * y) % 18446744073709551616 : Nat) : Int))]) := by
  have q := q167 x y hx hy
  generalize (x * y) / 18446744073709551616 = hi at *
  generalize (x * y) % 18446744073709551616 = lo at *
  refine gives_run Tryz.func173 rfl rfl rfl rfl (by simp) (by simp [Tryz.f173]) (by simp [Tryz.f173]) fun m => ?_
  simp [Tryz.f173, show ca.keepRes 173 = false from rfl, q.go]
theorem flat_vals_length (l : List Val) : (flat (vals l)).length = l.length * 2 := by rw [flat_length (vals_ok l)]; simp
theorem flat_vals_append (l r : List Val) : flat (vals (l ++ r)) = flat (vals l) ++ flat (vals r) := by rw [vals_append, flat_append]
theorem flat_vals_drop (l : List Val) (c : Nat) (h : c ≤ l.length) : (flat (vals l)).drop (c * 2) = flat (vals (l.drop c)) := by
  conv => lhs; rw [← List.take_append_drop c l, flat_vals_append]
  exact List.drop_left' (by rw [flat_vals_length]; simp; omega)
theorem splice_app (a b d : List Val) (h : b.length ≤ d.length) : splice (flat (vals (a ++ d))) (a.length * 2) (flat (vals b)) = flat (vals (a ++ b ++ d.drop b.length)) := by
  rw [splice, flat_vals_length, ← Nat.add_mul, flat_vals_drop _ _ (by simp; omega), flat_vals_append a d, List.take_left' (flat_vals_length a), flat_vals_append (a ++ b), flat_vals_append a b]
  congr 3
  rw [List.drop_append, List.drop_eq_nil_of_le (by omega), List.nil_append]
  congr 1
  omega
theorem zeros_vals : ∀ n : Nat, zeros [int 0, int 0] n = flat (vals (List.replicate n (0, 0)))
  | 0 => rfl
  | n + 1 => by
    rw [List.replicate_succ, vals_cons, flat_cons, ← zeros_vals n]
    rfl
theorem bcopy {T u R : TypeId} {d x : AV} {m : Mem} : abuiltin Tryz.prog .copy #[T, u] R [d, x] m = acopy Tryz.prog T d x m := abuiltin_copy (args := []) (ts := #[])
theorem asl_sl {id off len : Nat} {cap : Option Nat} {l : Nat} (h : l ≤ len) : aslice Tryz.prog 66 (.sl id off len 2 true cap) (some (int l)) none none = some (.sl id (off + l * 2) (len - l) 2 true (cap.map (· - l))) := by
  have := aslice_sl (P := Tryz.prog) (T := 66) (c := 0) (id := id) (off := off) (len := len) (k := 2) (ag := true) (cap := cap) (lo := some (int l)) (hi := none) (l := some l) (h := none) Tryz.underlying66 tsize51 (obnd_nat (n := l)) obnd_none (by simpa using h) (by simp)
  simpa using this
theorem asl_sh {id len : Nat} {cap : Option Nat} {h : Nat} (hh : h ≤ len) : aslice Tryz.prog 66 (.sl id 0 len 2 true cap) none (some (int h)) none = some (.sl id 0 h 2 true (cap.map (· - 0))) := by
  have := aslice_sl (P := Tryz.prog) (T := 66) (c := 0) (id := id) (off := 0) (len := len) (k := 2) (ag := true) (cap := cap) (lo := none) (hi := some (int h)) (l := none) (h := some h) Tryz.underlying66 tsize51 obnd_none (obnd_nat (n := h)) (by simp) (by simpa using hh)
  simpa using this
theorem acopy_vals {m : Mem} {id k n w : Nat} {cap : Option Nat} {x : AV} {s a d : List Val} (hx : srcOf m x = some (vals s)) (hg : m.get id = some (.cells (flat (vals (a ++ d))) false w)) (hk : a.length = k) (hn : d.length = n) :
    acopy Tryz.prog 66 (.sl id (k * 2) n 2 true cap) x m = some (int (min s.length n : Nat), m.set id (flat (vals (a ++ s.take n ++ d.drop (min s.length n))))) := by
  have ht : (vals s).take (min s.length n) = vals (s.take n) := by
    rw [vals, ← List.map_take, vals]
    congr 1
    rw [List.take_eq_take_iff]
    omega
  have hl : (s.take n).length = min s.length n := by rw [List.length_take]; omega
  have hs := splice_app a (s.take n) d (by rw [hl]; omega)
  rw [hk, hl] at hs
  unfold acopy
  simp only [telem, Tryz.underlying66, tsize51, hx, vals_length, ht, vals_fzvs, hg, hs]
  rw [if_pos]
  · rfl
  · refine ⟨by omega, trivial, ?_, ?_⟩
    · rw [flat_vals_length, List.length_append]; omega
    · rw [List.all_eq_true]
      intro y hy
      obtain ⟨p, _, rfl⟩ := List.mem_map.1 hy
      simp
theorem chunk_vals : ∀ (l : List Val) (r : List AV), chunk 2 true l.length (flat (vals l) ++ r) = vals l
  | [], r => rfl
  | v :: l, r => by
    have := chunk_vals l r
    rw [vals_cons, flat_cons, List.length_cons, chunk]
    simp [valA, this]
theorem make66 {n : Nat} {m : Mem} (hn : n ≤ 4096) : amakeSlice Tryz.prog 66 (int n) (int n) m = some (.sl m.next 0 n 2 true (some n), m.new (flat (vals (List.replicate n (0, 0)))) false) := by
  unfold amakeSlice
  simp only [telem, Tryz.underlying66, tsize51, tzero51, tagg51, tbytes51, Int.toNat_natCast]
  rw [if_pos]
  · rw [← zeros_vals]; rfl
  · refine ⟨by omega, rfl, rfl, by omega, by omega, by omega, by omega⟩
set_option maxHeartbeats 8000000 in
/-- A value again and again. -/
theorem q136 (v : Val) (n : Nat) (hn : n ≤ 4096) : Gives Tryz.prog ca 136 [.lst [valA v], int n] (.lst (vals (List.replicate n v))) := by
  refine gives_run Tryz.func136 rfl rfl rfl rfl (by simp [AV.bel]) (by simp [Tryz.f136]) (by simp [Tryz.f136]) fun m => ?_
  simp only [Tryz.f136, show ca.keepRes 136 = false from rfl]
  have ln1 : ∀ (R : TypeId) (m : Mem), abuiltin Tryz.prog .len #[66] R [.lst [valA v]] m = some (int 1, m) := fun R m => by rw [alen_lst Tryz.underlying66]; rfl
  have w1 : IntKind.u64.wrap 1 = 1 := IntWalk.u64_in _ (by omega)
  have w2 : IntKind.u64.wrap (n : Int) = n := IntWalk.u64_in _ (by omega)
  have w3 : IntKind.i64.wrap (n : Int) = n := IntWalk.i64_in _ (by omega)
  have q := q173 1 n (by omega) (by omega)
  rw [Nat.one_mul, Nat.div_eq_of_lt (by omega), Nat.mod_eq_of_lt (by omega)] at q
  have q' : Gives Tryz.prog ca 173 [.sc (.int .u64 1), .sc (.int .u64 n)] (.tup [.sc (.int .u64 0), .sc (.int .u64 n)]) := q
  have h1 : ¬ (n : Int) < 0 := by omega
  have h2 : ¬ (9223372036854775807 : Int) < n := by omega
  have cp := fun {m : Mem} {w : Nat} (hg : m.get m.next = some (.cells (flat (vals ([] ++ List.replicate n ((0, 0) : Val)))) false w)) => 0
  clear cp
  simp [h1, ln1, w1, w2, q'.go, h2, w3, make66 hn, undefV, undef]
  have c0 := acopy_vals (m := m.new (flat (vals (List.replicate n (0, 0)))) false) (id := m.next) (k := 0) (n := n) (w := m.clock + 1) (cap := some n) (x := .lst [valA v]) (s := [v]) (a := []) (d := List.replicate n (0, 0)) rfl (by simp) rfl (by simp)
  simp only [Nat.zero_mul, List.nil_append, List.length_singleton] at c0
  rw [bcopy, c0]
  simp
  refine go_loopF (fun d s' m' => ∃ k : Nat, d = n - k ∧ (n = 0 ∨ 1 ≤ k) ∧ k ≤ n ∧ s'.at 8 = int k ∧ Kp m m' ∧ m.next < m'.next ∧ ∃ w, m'.get m.next = some (.cells (flat (vals (List.replicate k v ++ List.replicate (n - k) (0, 0)))) false w)) (n - min 1 n) ⟨min 1 n, rfl, by omega, by omega, by simp, by simp, by simp, m.clock + 2, ?_⟩ ?_
  · cases n with
    | zero => simp
    | succ n => simp [Nat.min_eq_left (show 1 ≤ n + 1 by omega)]
  rintro d s' m' ⟨k, rfl, hk0, hk, e8, hkp, hlt, w, hg⟩ hsame Q' hn' he
  have e7 : s'.at 7 = .sl m.next 0 n 2 true (some n) := (hsame 7 (by kernel_rfl)).trans (by simp)
  clear hsame
  have ln : ∀ (R : TypeId) (m' : Mem), abuiltin Tryz.prog .len #[66] R [.sl m.next 0 n 2 true (some n)] m' = some (int n, m') := fun R m' => by rw [alen_sl Tryz.underlying66]
  simp [e7, e8, ln]
  refine goB_split (fun h => ?_) fun h => ?_
  · have hlt2 : k < n := by have := of_decide_eq_true h; omega
    have s1 := asl_sl (id := m.next) (off := 0) (len := n) (cap := some n) (l := k) hk
    have s2 := asl_sh (id := m.next) (len := n) (cap := some n) (h := k) hk
    have el : srcOf m' (.sl m.next 0 k 2 true ((some n).map (· - 0))) = some (vals (List.replicate k v)) := by
      simp only [srcOf, elemsOf, hg]
      rw [if_pos ⟨by rw [flat_vals_length]; simp; omega, rfl⟩, List.drop_zero, flat_vals_append]
      have hc := chunk_vals (List.replicate k v) (flat (vals (List.replicate (n - k) (0, 0))))
      rw [List.length_replicate] at hc
      rw [hc]
    have c1 := acopy_vals (k := k) (n := n - k) (cap := (some n).map (· - k)) el hg (by simp) (by simp)
    simp only [List.length_replicate] at c1
    have wk : IntKind.i64.wrap ((k : Int) + ((min k (n - k) : Nat) : Int)) = ((k + min k (n - k) : Nat) : Int) := by rw [IntWalk.i64_in _ (by omega)]; omega
    rw [Nat.zero_add] at s1
    simp
    refine go_draw0 (by kernel_rfl) (by kernel_rfl) ?_
    simp only [Option.map_some, Nat.sub_zero] at s1 s2 c1
    simp [e7, e8, s1, s2, bcopy, c1, wk]
    have hr : List.replicate k v ++ List.take (n - k) (List.replicate k v) ++ List.drop (min k (n - k)) (List.replicate (n - k) ((0, 0) : Val)) = List.replicate (k + min k (n - k)) v ++ List.replicate (n - (k + min k (n - k))) (0, 0) := by
      rw [List.take_replicate, List.drop_replicate, List.replicate_append_replicate, Nat.min_comm (n - k) k]
      congr 2
      omega
    refine hn' (n - (k + min k (n - k))) _ _ (by omega) ⟨k + min k (n - k), rfl, by omega, by omega, by simp, hkp.set (Nat.le_refl _) _, by simpa using hlt, m'.clock + 1, ?_⟩
    rw [← hr]
    simp
  · have hge : k = n := by have := of_decide_eq_false h; omega
    subst hge
    simp
    refine he _ _ _ (by simp) ?_
    have fz := fz1_row (m := m') (id := m.next) (k := 2) (ag := true) (cap := some k) (ys := vals (List.replicate k v)) (v := w) (f := false) rfl (by simpa using hg) (vals_row _) (vals_ok _)
    simp [e7]
    rw [vals_length, List.length_replicate] at fz
    rw [fz]
    exact ⟨rfl, hkp.mark (Nat.le_refl _) _ _⟩
def within (n k : Int) : Bool := decide (0 ≤ n) && decide (n ≤ k)
theorem q135 (n k : Int) : Gives Tryz.prog ca 135 [int n, int k] (.sc (.bool (within n k))) := by
  refine gives_run Tryz.func135 rfl rfl rfl rfl (by simp) (by simp [Tryz.f135]) (by simp [Tryz.f135]) fun m => ?_
  simp [Tryz.f135, show ca.keepRes 135 = false from rfl]
  by_cases h : 0 ≤ n
  · simp [h, within]
  · simp [h, within, undefV, undef]
theorem alloc_emp {X : Nat → Prop} {A C : Nat} {n k kd : Int} {l la : List Val} {a : ArM} {m : Mem} (hA : Ar X A a m) (hX : ∀ j, X j → j < m.next) (hXC : ¬ X C) (hC : has m C (clC A n l k)) (h1 : la.length < 2 ^ 21) : wph Tryz.prog ca (.func 127) [.ptr C 0, .agg [int kd, int 0, .lst (vals la), .emp 0]] m fun v m' => v = valA (allocC a k ⟨kd, 0, la, []⟩).1 ∧ Cs X A C n l (allocC a k ⟨kd, 0, la, []⟩).2.1 (allocC a k ⟨kd, 0, la, []⟩).2.2 m m' :=
  wph_fz Tryz.func127 rfl rfl rfl (args := [.ptr C 0, ceA ⟨kd, 0, la, []⟩]) (by simp [fzvs, fzv, fzs, fz1, ceA]) (by simp [fzvs]) (q127 hA hX hXC hC ⟨kd, 0, la, []⟩ h1 (by simp))
theorem alloc_txt {X : Nat → Prop} {A C : Nat} {n k kd : Int} {l : List Val} {s : List UInt8} {a : ArM} {m : Mem} (hA : Ar X A a m) (hX : ∀ j, X j → j < m.next) (hXC : ¬ X C) (hC : has m C (clC A n l k)) (h1 : s.length < 2 ^ 21) : wph Tryz.prog ca (.func 127) [.ptr C 0, .agg [int kd, int 0, .emp 0, .lst (byts s)]] m fun v m' => v = valA (allocC a k ⟨kd, 0, [], s⟩).1 ∧ Cs X A C n l (allocC a k ⟨kd, 0, [], s⟩).2.1 (allocC a k ⟨kd, 0, [], s⟩).2.2 m m' :=
  wph_fz Tryz.func127 rfl rfl rfl (args := [.ptr C 0, ceA ⟨kd, 0, [], s⟩]) (by simp [fzvs, fzv, fzs, fz1, ceA]) (by simp [fzvs]) (q127 hA hX hXC hC ⟨kd, 0, [], s⟩ (by simp) h1)
theorem field78a (c : CeM) : afield Tryz.prog 78 (ceA c) 2 = some (.lst (vals c.a)) := by
  have h1 : (tfield Tryz.prog 78 2).map (fun fd => (fd.type, fd.offset)) = some (66, 2) := by kernel_rfl
  obtain ⟨fd, h1, h2⟩ := Option.map_eq_some_iff.1 h1
  have h3 := congrArg Prod.fst h2
  have h4 := congrArg Prod.snd h2
  dsimp only at h3 h4
  simp only [afield, h1, ceA, h3, h4]
  rw [partOf_sc tagg66]
  rfl
theorem field78s (c : CeM) : afield Tryz.prog 78 (ceA c) 3 = some (.lst (byts c.s)) := by
  have h1 : (tfield Tryz.prog 78 3).map (fun fd => (fd.type, fd.offset)) = some (76, 3) := by kernel_rfl
  obtain ⟨fd, h1, h2⟩ := Option.map_eq_some_iff.1 h1
  have h3 := congrArg Prod.fst h2
  have h4 := congrArg Prod.snd h2
  dsimp only at h3 h4
  simp only [afield, h1, ceA, h3, h4]
  rw [partOf_sc tagg76]
  rfl
theorem small_get {a : ArM} (h : Small a) (v : Val) : (getM a v).1.a.length ≤ 4096 := by
  unfold getM
  cases hi : ixM a v with
  | none => simp [zeroC]
  | some i =>
    obtain ⟨_, c, hc⟩ := ixM_some hi
    simp only [List.getD_eq_getElem?_getD, hc, Option.getD_some]
    exact (h c (List.mem_of_getElem? hc)).1
theorem kp1' {m : Mem} (cs cs' : List AV) (w : Nat) : Kp m ((m.new cs false).mark m.next cs' w) := (Kp.new _ _ _).mark (Nat.le_refl _) _ _
/-- What a procedure of vectors makes. -/
def argV (l : List Val) (i : Nat) : Val := match l[i]? with | some v => v | none => (0, 0)
theorem argV_at {l : List Val} {i : Nat} {x : Val} (h : l[i]? = some x) : argV l i = x := by simp [argV, h]
def fillV (l : List Val) : Val := match l[1]? with | some v => v | none => (2, 0)
def vecsM (a : ArM) (n : Int) (l : List Val) : Val × ArM × Int :=
  if n = 27 then (if 4096 < l.length then ((0, 0), a, 6) else allocC a 0 ⟨2, 0, l, []⟩)
  else if n = 28 then (if within (argV l 0).2 4096 then allocC a 0 ⟨2, 0, List.replicate (argV l 0).2.toNat (fillV l), []⟩ else ((0, 0), a, 6))
  else if n = 31 then ((1, ((getM a (argV l 0)).1.a.length : Int)), a, 0)
  else if within (argV l 1).2 ((getM a (argV l 0)).1.a.length - 1) then
    (if n = 29 then (argV (getM a (argV l 0)).1.a (argV l 1).2.toNat, a, 0)
    else ((2, 0), putA a (argV l 0).2.toNat (getM a (argV l 0)).1 (argV l 1).2.toNat (argV l 2), 0))
  else ((0, 0), a, 6)
set_option maxHeartbeats 16000000 in
theorem q71 {X : Nat → Prop} {A C : Nat} {n : Int} {l : List Val} {a : ArM} {m : Mem} (hA : Ar X A a m) (hX : ∀ j, X j → j < m.next) (hsm : Small a) (hXC : ¬ X C) (hC : has m C (clC A n l 0)) (hll : l.length ≤ 4096)
    (hv0 : n ≠ 27 → l[0]? = some (argV l 0)) (hv1 : n = 29 ∨ n = 30 → l[1]? = some (argV l 1)) (hn : n = 27 ∨ n = 28 ∨ n = 29 ∨ n = 30 ∨ n = 31)
    (hv2 : n = 30 → l[2]? = some (argV l 2) ∧ goodM a (argV l 2) = true ∧ ∃ p : Nat, argV l 0 = (7, (p : Int)) ∧ ∃ c, a.cells[p]? = some c ∧ c.k = 2) : wph Tryz.prog ca (.func 71) [.ptr C 0] m fun v m' => v = valA (vecsM a n l).1 ∧ Cs X A C n l (vecsM a n l).2.1 (vecsM a n l).2.2 m m' := by
  have hCl := hC.1
  refine wph_go Tryz.func71 rfl rfl (by simp [Tryz.f71]) (by simp [Tryz.f71]) fun Q hQ => ?_
  simp only [Tryz.f71, show ca.keepRes 71 = false from rfl, show ca.keepArgs 71 = false from rfl] at hQ ⊢
  have ln : ∀ (R : TypeId) (m : Mem), abuiltin Tryz.prog .len #[66] R [.lst (vals l)] m = some (int l.length, m) := fun R m => by rw [alen_lst Tryz.underlying66]; simp
  obtain ⟨M1, hM1⟩ : ∃ M1, M1 = m.new [int 0, int 0] false := ⟨_, rfl⟩
  have k1 : Kp m M1 := by rw [hM1]; simp
  have n1 : M1.next = m.next + 1 := by rw [hM1]; simp
  have b0 : M1.get m.next = some (.cells [int 0, int 0] false (m.clock + 1)) := by rw [hM1]; simp
  have hA1 := hA.kp k1
  have hX1 : ∀ j, X j → j < M1.next := fun j h => by have := hX j h; omega
  have hC1 := hC.kp k1
  obtain ⟨_, w, gC⟩ := id hC1
  obtain ⟨_, w', gC0⟩ := id hC
  have c0 : C ≠ m.next := by omega
  obtain ⟨res, hres⟩ : ∃ res, res = vecsM a n l := ⟨_, rfl⟩
  rw [← hres] at hQ
  have fin : ∀ (s' : Sl) (m5 : Mem) (v : Val), s'.at 2 = .ptr m.next 0 → (∃ w, (m5.set m.next [int v.1, int v.2]).get m.next = some (.cells [int v.1, int v.2] false w)) → res.1 = v → Cs X A C n l res.2.1 res.2.2 M1 m5 → Q .ret s' (m5.set m.next [int v.1, int v.2]) := by
    intro s' m5 v h6 ⟨w, hg⟩ hv hcs
    refine hQ _ _ _ ?_
    rw [leave_ret]
    refine ⟨[valA v], by simp [aresult, h6, hg, aload, partOf, valA_agg], ?_⟩
    simp only [Bool.false_eq_true, if_false, oneOf, fzr_valA, hv]
    exact ⟨trivial, Cs.box k1 hX hCl hcs (by omega) (by omega) _⟩
  have got : ∀ {m5 : Mem} {a' : ArM} {k' : Int}, Cs X A C n l a' k' M1 m5 → m5.get m.next = some (.cells [int 0, int 0] false (m.clock + 1)) := fun {m5 a' k'} hcs => by
    obtain ⟨X', _, _, kc5, _⟩ := id hcs
    exact (kc5.get m.next (by omega) (fun h => by rcases h with h | h; have := hX _ h; omega; omega)).trans b0
  have bad : ∀ {m5 : Mem}, KpC (fun j => j = C) M1 m5 ∧ has m5 C (clC A n l (failK 0 6)) → Cs X A C n l a 6 M1 m5 := fun {m5} h => Cs.of_c hA1 hX1 hXC h.1 h.2
  simp [gC0, c0]
  rw [← hM1]
  clear hM1
  by_cases q27 : n = 27
  · rw [vecsM, if_pos q27] at hres
    simp [q27, gC, ln]
    by_cases hz : 4096 < l.length
    · rw [if_pos hz] at hres
      have hz' : (4096 : Int) < l.length := by omega
      simp [hz']
      refine goH_of (q134 hC1 6) ?_
      rintro _ m5 ⟨rfl, hcs⟩
      have hcs := bad hcs
      simp [got hcs, valA_agg]
      exact fin _ _ (0, 0) (by simp) ⟨_, by simp; rfl⟩ (by rw [hres]) (by rw [hres]; exact hcs)
    · rw [if_neg hz] at hres
      have hz' : ¬ (4096 : Int) < l.length := by omega
      simp [hz', gC, abuild, placesOf, fillAt]
      refine goH_of (alloc_emp hA1 hX1 hXC hC1 (kd := 2) (la := l) (by omega)) ?_
      rintro _ m5 ⟨rfl, hcs⟩
      simp [got hcs, valA_agg]
      exact fin _ _ _ (by simp) ⟨_, by simp; rfl⟩ (by rw [hres]) (by rw [hres]; exact hcs)
  have v0 := hv0 q27
  have ix0 : aindexAddr Tryz.prog 66 (.lst (vals l)) (int 0) = some ((valA (argV l 0)).cptr 0) := vals_at (i := 0) v0
  by_cases q28 : n = 28
  · rw [vecsM, if_neg q27, if_pos q28] at hres
    simp [q27, q28, gC, ix0, (q135 _ _).go]
    cases hw : within (argV l 0).2 4096 with
    | false =>
      rw [hw, if_neg (by decide)] at hres
      simp
      refine goH_of (q134 hC1 6) ?_
      rintro _ m5 ⟨rfl, hcs⟩
      have hcs := bad hcs
      simp [got hcs, valA_agg]
      exact fin _ _ (0, 0) (by simp) ⟨_, by simp; rfl⟩ (by rw [hres]) (by rw [hres]; exact hcs)
    | true =>
      rw [hw, if_pos rfl] at hres
      obtain ⟨cnt, hcnt, hcl⟩ : ∃ cnt : Nat, (argV l 0).2 = cnt ∧ cnt ≤ 4096 := by
        simp [within] at hw
        exact ⟨(argV l 0).2.toNat, by omega, by omega⟩
      rw [hcnt, Int.toNat_natCast] at hres
      obtain ⟨M3, hM3⟩ : ∃ M3, M3 = (M1.new [int 0, int 0] false).set M1.next [int 2, int 0] := ⟨_, rfl⟩
      have k3 : Kp M1 M3 := by rw [hM3]; simp
      have n3 : M3.next = M1.next + 1 := by rw [hM3]; simp
      have b3 : M3.get M1.next = some (.cells [int 2, int 0] false (M1.clock + 2)) := by rw [hM3]; simp
      have gC3 := (k3.get C (by omega)).trans gC
      have cM : C ≠ M1.next := by omega
      simp [(q67 false).go, truV, valA, gC, cM, ln]
      rw [← hM3]
      clear hM3
      refine goB_cut (fun s' m' => s'.at 0 = .ptr C 0 ∧ s'.at 2 = .ptr m.next 0 ∧ s'.at 3 = .ptr M1.next 0 ∧ Kp M1 m' ∧ M1.next < m'.next ∧ ∃ w, m'.get M1.next = some (.cells [int (fillV l).1, int (fillV l).2] false w)) (fun h k' hk' => ?_) (fun h k' hk' => ?_) ?_
      · have hlt : 1 < l.length := by have := of_decide_eq_true h; omega
        obtain ⟨v, hv⟩ : ∃ v, l[1]? = some v := ⟨_, List.getElem?_eq_getElem hlt⟩
        have ix1 : aindexAddr Tryz.prog 66 (.lst (vals l)) (int 1) = some ((valA v).cptr 0) := vals_at (i := 1) hv
        simp [gC3, ix1, b3]
        exact hk' _ _ ⟨by simp, by simp, by simp, k3.set (Nat.le_refl _) _, by simp; omega, _, by simp [fillV, hv]; rfl⟩
      · have hz : l[1]? = none := List.getElem?_eq_none (by have := of_decide_eq_false h; omega)
        simp
        exact hk' _ _ ⟨by simp, by simp, by simp, k3, by omega, _, by simp [fillV, hz]; exact b3⟩
      rintro s' m4 ⟨e0, e2, e3, k4, lt4, w4, b4⟩
      have gC4 := (k4.get C (by omega)).trans gC
      have cn4 : C ≠ m4.next := by omega
      have mn4 : M1.next ≠ m4.next := by omega
      have hfz := fz1_row (m := m4.new [int (fillV l).1, int (fillV l).2] false) (id := m4.next) (k := 2) (ag := true) (cap := some 1) (ys := vals [fillV l]) (v := m4.clock + 1) (f := false) rfl (by simp [vals, flat_cons, flat_nil]) (vals_row _) (vals_ok _)
      rw [vals_length] at hfz
      simp at hfz
      simp
      refine go_drawD (by kernel_rfl) ?_
      simp [e0, e3, b4, gC4, cn4, mn4, ix0, hcnt, abuildSlice, zeros, fillAt, placesOf]
      have hzs : fzvs (m4.new [int (fillV l).1, int (fillV l).2] false) [.sl m4.next 0 1 2 true (some 1), int cnt] = ([.lst [valA (fillV l)], int cnt], (m4.new [int (fillV l).1, int (fillV l).2] false).mark m4.next (flat (vals [fillV l])) (m4.clock + 1)) := by
        simp [fzvs, fzv, hfz]
        rfl
      rw [(q136 (fillV l) cnt hcl).goF hzs]
      obtain ⟨M6, hM6⟩ : ∃ M6, M6 = (m4.new [int (fillV l).1, int (fillV l).2] false).mark m4.next (flat (vals [fillV l])) (m4.clock + 1) := ⟨_, rfl⟩
      have k6 : Kp m4 M6 := by rw [hM6]; exact kp1' _ _ _
      have k16 := k4.trans k6
      have n6 : M6.next = m4.next + 1 := by rw [hM6]; simp
      rw [← hM6]
      clear hM6 hzs hfz
      have gC6 := (k6.get C (by omega)).trans gC4
      simp [abuild, placesOf, fillAt]
      refine goH_of (alloc_emp (hA1.kp k16) (fun j h => by have := hX1 j h; have := k16.next; omega) hXC (hC1.kp k16) (kd := 2) (la := List.replicate cnt (fillV l)) (by simp; omega)) ?_
      rintro _ m7 ⟨rfl, hcs⟩
      have hcs1 := hcs.after (.of (.of k16))
      have n7 : M6.next ≤ m7.next := by
        obtain ⟨X', _, _, kc5, _⟩ := id hcs
        exact kc5.next
      simp [got hcs1, valA_agg, e2]
      refine goM_of (l := [(2, 6), (2, 9)]) (by kernel_rfl) (?_ : List.all _ _ = true) ?_
      · simp [metAtD, metOkD, rank, verKeptD, Region.wanted, Mem.ver, gC4, cn4, mn4, b4, e0, e3, objV]
      simp
      exact fin _ _ _ (by simp [e2]) ⟨_, by simp; rfl⟩ (by rw [hres]) (by rw [hres]; exact hcs1)
  have v0c := q112 hA1 hsm hC1 (argV l 0)
  have lnc : ∀ (R : TypeId) (m : Mem), abuiltin Tryz.prog .len #[66] R [.lst (vals (getM a (argV l 0)).1.a)] m = some (int (getM a (argV l 0)).1.a.length, m) := fun R m => by rw [alen_lst Tryz.underlying66]; simp
  simp [q27, q28, gC, ix0, valA_agg, v0c.go, field78a]
  by_cases q31 : n = 31
  · rw [vecsM, if_neg q27, if_neg q28, if_pos q31] at hres
    simp [q31, gC, lnc, (q126 _).go, b0, valA_agg]
    exact fin _ _ (1, ((getM a (argV l 0)).1.a.length : Int)) (by simp) ⟨_, by simp; rfl⟩ (by rw [hres]) (by rw [hres]; exact Cs.refl hA1 hX1 hC1)
  have h2930 : n = 29 ∨ n = 30 := by
    rcases hn with h | h | h | h | h
    · exact absurd h q27
    · exact absurd h q28
    · exact .inl h
    · exact .inr h
    · exact absurd h q31
  have v1 := hv1 h2930
  have ix1 : aindexAddr Tryz.prog 66 (.lst (vals l)) (int 1) = some ((valA (argV l 1)).cptr 0) := vals_at (i := 1) v1
  rw [vecsM, if_neg q27, if_neg q28, if_neg q31] at hres
  have hln := small_get hsm (argV l 0)
  have wl : IntKind.i64.wrap (((getM a (argV l 0)).1.a.length : Int) - 1) = ((getM a (argV l 0)).1.a.length : Int) - 1 := IntWalk.i64_in _ (by omega)
  simp [q31, gC, ix1, lnc, wl, (q135 _ _).go]
  cases hw : within (argV l 1).2 (((getM a (argV l 0)).1.a.length : Int) - 1) with
  | false =>
    rw [hw, if_neg (by decide)] at hres
    simp
    refine goH_of (q134 hC1 6) ?_
    rintro _ m5 ⟨rfl, hcs⟩
    have hcs := bad hcs
    simp [got hcs, valA_agg]
    exact fin _ _ (0, 0) (by simp) ⟨_, by simp; rfl⟩ (by rw [hres]) (by rw [hres]; exact hcs)
  | true =>
  rw [hw, if_pos rfl] at hres
  obtain ⟨i, hi, hil⟩ : ∃ i : Nat, (argV l 1).2 = i ∧ i < (getM a (argV l 0)).1.a.length := by
    simp [within] at hw
    exact ⟨(argV l 1).2.toNat, by omega, by omega⟩
  rw [hi, Int.toNat_natCast] at hres
  simp [gC]
  by_cases q29 : n = 29
  · rw [if_pos q29] at hres
    obtain ⟨x, hx⟩ : ∃ x, (getM a (argV l 0)).1.a[i]? = some x := ⟨_, List.getElem?_eq_getElem hil⟩
    have ixi : aindexAddr Tryz.prog 66 (.lst (vals (getM a (argV l 0)).1.a)) (int i) = some ((valA x).cptr 0) := vals_at hx
    simp [q29, hi, ixi, b0]
    exact fin _ _ x (by simp) ⟨_, by simp; rfl⟩ (by rw [hres]; exact argV_at hx) (by rw [hres]; exact Cs.refl hA1 hX1 hC1)
  rw [if_neg q29] at hres
  obtain ⟨v2, hg2, p, hp, c, hc, hck⟩ := hv2 (h2930.resolve_left q29)
  have ix2 : aindexAddr Tryz.prog 66 (.lst (vals l)) (int 2) = some ((valA (argV l 2)).cptr 0) := vals_at (i := 2) v2
  have hgc : (getM a (argV l 0)).1 = c := by rw [hp, getM, ixM_at hc]; simp [List.getD_eq_getElem?_getD, hc]
  rw [hgc] at hil
  rw [hgc, hp] at hres
  simp only [Int.toNat_natCast] at hres
  have hag : AV.agg [int 7, int p] = valA (7, (p : Int)) := rfl
  simp [q29, hi]
  refine go_draw0 (by kernel_rfl) (by kernel_rfl) ?_
  simp [gC, ix0, ix2, hp, hag, valA_agg]
  refine goH_of (q128 hA1 hc (.inr hck) hil hg2) ?_
  rintro _ m5 ⟨rfl, hup⟩
  obtain ⟨X', hA5, kc5, hX5⟩ := hup.out
  have hcs : Cs X A C n l (putA a p c i (argV l 2)) 0 M1 m5 := ⟨X', hA5, hX5, kc5.mono fun j h => .inl h, hC1.kc kc5 hXC⟩
  simp [(q67 false).go, got hcs, valA_agg, truV]
  exact fin _ _ (2, 0) (by simp) ⟨_, by simp; rfl⟩ (by rw [hres]) (by rw [hres]; exact hcs)
end Go.Proofs.YtnhcmcfgemoehaaGreat

/- What the other procedures of lists do. -/
set_option linter.unusedSimpArgs false
set_option linter.unusedVariables false
set_option linter.unusedSectionVars false
namespace Go.Proofs.YtnhcmcfgemoehaaGreat
set_option maxRecDepth 4000
open Go.V
attribute [local simp] Nat.add_assoc
set_option maxHeartbeats 8000000 in
theorem q70_15 {X : Nat → Prop} {A C : Nat} {l : List Val} {a : ArM} {m : Mem} (hA : Ar X A a m) (hX : ∀ j, X j → j < m.next) (hsm : Small a) (hp : Pairs a) (hXC : ¬ X C) (hC : has m C (clC A 15 l 0)) (hl : l.length ≤ 4096) {res : Val × ArM × Int} (hres : res = allocC a 0 ⟨1, 0, l, []⟩) : wph Tryz.prog ca (.func 70) [.ptr C 0] m fun r m' => r = valA res.1 ∧ Cs X A C 15 l res.2.1 res.2.2 m m' := by
  have hC0 := hC
  obtain ⟨hCl, w, hg⟩ := hC
  refine wph_go Tryz.func70 rfl rfl (by simp [Tryz.f70]) (by simp [Tryz.f70]) fun Q hQ => ?_
  simp only [Tryz.f70, show ca.keepRes 70 = false from rfl, show ca.keepArgs 70 = false from rfl] at hQ ⊢
  obtain ⟨M1, hM1⟩ : ∃ M1, M1 = (((m.new [.ptr C 0] false).new [int 0, int 0] false).new [int 0, int 0] false).set (m.next + 2) [int 4, int 0] := ⟨_, rfl⟩
  have k1 : Kp m M1 := by rw [hM1]; simp
  have n1 : M1.next = m.next + 3 := by rw [hM1]; simp
  have b0 : M1.get m.next = some (.cells [.ptr C 0] false (m.clock + 1)) := by rw [hM1]; simp
  have b1 : M1.get (m.next + 1) = some (.cells [int 0, int 0] false (m.clock + 2)) := by rw [hM1]; simp
  have b2 : M1.get (m.next + 2) = some (.cells [int 4, int 0] false (m.clock + 4)) := by rw [hM1]; simp
  have bC := (k1.get C hCl).trans hg
  have c0 : C ≠ m.next := by omega
  have c1 : C ≠ m.next + 1 := by omega
  have c2 : C ≠ m.next + 2 := by omega
  have hC1 := hC0.kp k1
  have hA1 := hA.kp k1
  simp [abuild, placesOf, fillAt, hg, c0, c1, c2]
  rw [← hM1]
  clear hM1
  have fin : ∀ (s' : Sl) (m7 : Mem), s'.at 2 = .ptr (m.next + 1) 0 → (∃ w, m7.get (m.next + 1) = some (.cells [int res.1.1, int res.1.2] false w)) → Cs X A C 15 l res.2.1 res.2.2 m m7 → Q .ret s' m7 := by
    intro s' m7 h2 ⟨w, hg⟩ hcs
    refine hQ _ _ _ ?_
    rw [leave_ret]
    refine ⟨[valA res.1], by simp [aresult, h2, hg, aload, partOf, valA_agg], ?_⟩
    simp only [Bool.false_eq_true, if_false, oneOf, fzr_valA]
    exact ⟨trivial, hcs⟩
  refine go_draw0 (by kernel_rfl) (by kernel_rfl) ?_
  simp [b0, bC, abuild, placesOf, fillAt]
  refine goH_of (alloc_emp hA1 (fun j h => by have := hX j h; omega) hXC hC1 (kd := 1) (la := l) (by omega)) ?_
  rintro _ m5 ⟨rfl, hcs⟩
  obtain ⟨X', _, _, kc5, _⟩ := id hcs
  have e1 := (kc5.get (m.next + 1) (by omega) (fun h => by rcases h with h | h; have := hX _ h; omega; omega)).trans b1
  simp [e1, valA_agg]
  subst hres
  exact fin _ _ (by simp) ⟨_, by simp; rfl⟩ (Cs.box k1 hX hCl hcs (by omega) (by omega) _)
set_option maxHeartbeats 8000000 in
theorem q70_22 {X : Nat → Prop} {A C : Nat} {l : List Val} {a : ArM} {m : Mem} (hA : Ar X A a m) (hX : ∀ j, X j → j < m.next) (hsm : Small a) (hp : Pairs a) (hXC : ¬ X C) (hC : has m C (clC A 22 l 0)) (hl : l.length ≤ 4096) {res : Val × ArM × Int} (hres : res = (aheadM a 0 (4, 0) l)) : wph Tryz.prog ca (.func 70) [.ptr C 0] m fun r m' => r = valA res.1 ∧ Cs X A C 22 l res.2.1 res.2.2 m m' := by
  have hC0 := hC
  obtain ⟨hCl, w, hg⟩ := hC
  refine wph_go Tryz.func70 rfl rfl (by simp [Tryz.f70]) (by simp [Tryz.f70]) fun Q hQ => ?_
  simp only [Tryz.f70, show ca.keepRes 70 = false from rfl, show ca.keepArgs 70 = false from rfl] at hQ ⊢
  obtain ⟨M1, hM1⟩ : ∃ M1, M1 = (((m.new [.ptr C 0] false).new [int 0, int 0] false).new [int 0, int 0] false).set (m.next + 2) [int 4, int 0] := ⟨_, rfl⟩
  have k1 : Kp m M1 := by rw [hM1]; simp
  have n1 : M1.next = m.next + 3 := by rw [hM1]; simp
  have b0 : M1.get m.next = some (.cells [.ptr C 0] false (m.clock + 1)) := by rw [hM1]; simp
  have b1 : M1.get (m.next + 1) = some (.cells [int 0, int 0] false (m.clock + 2)) := by rw [hM1]; simp
  have b2 : M1.get (m.next + 2) = some (.cells [int 4, int 0] false (m.clock + 4)) := by rw [hM1]; simp
  have bC := (k1.get C hCl).trans hg
  have c0 : C ≠ m.next := by omega
  have c1 : C ≠ m.next + 1 := by omega
  have c2 : C ≠ m.next + 2 := by omega
  have hC1 := hC0.kp k1
  have hA1 := hA.kp k1
  simp [abuild, placesOf, fillAt, hg, c0, c1, c2]
  rw [← hM1]
  clear hM1
  have fin : ∀ (s' : Sl) (m7 : Mem), s'.at 2 = .ptr (m.next + 1) 0 → (∃ w, m7.get (m.next + 1) = some (.cells [int res.1.1, int res.1.2] false w)) → Cs X A C 22 l res.2.1 res.2.2 m m7 → Q .ret s' m7 := by
    intro s' m7 h2 ⟨w, hg⟩ hcs
    refine hQ _ _ _ ?_
    rw [leave_ret]
    refine ⟨[valA res.1], by simp [aresult, h2, hg, aload, partOf, valA_agg], ?_⟩
    simp only [Bool.false_eq_true, if_false, oneOf, fzr_valA]
    exact ⟨trivial, hcs⟩
  refine go_draw0 (by kernel_rfl) (by kernel_rfl) ?_
  simp [b0, b2, bC]
  have hag : AV.agg [int 4, int 0] = valA (4, 0) := rfl
  rw [hag]
  refine goH_of (q129 hA1 (fun j h => by have := hX j h; omega) hXC hC1 l (by omega) (4, 0)) ?_
  rintro _ m5 ⟨rfl, hcs⟩
  obtain ⟨X', _, _, kc5, _⟩ := id hcs
  have e1 := (kc5.get (m.next + 1) (by omega) (fun h => by rcases h with h | h; have := hX _ h; omega; omega)).trans b1
  simp [e1, valA_agg]
  subst hres
  exact fin _ _ (by simp) ⟨_, by simp; rfl⟩ (Cs.box k1 hX hCl hcs (by omega) (by omega) _)
set_option maxHeartbeats 8000000 in
theorem q70_16 {X : Nat → Prop} {A C : Nat} {l : List Val} {a : ArM} {m : Mem} (hA : Ar X A a m) (hX : ∀ j, X j → j < m.next) (hsm : Small a) (hp : Pairs a) (hXC : ¬ X C) (hC : has m C (clC A 16 l 0)) {v x y : Val} (hv : l[0]? = some v) (hp : (getM a v).1.a = [x, y]) {res : Val × ArM × Int} (hres : res = (x, a, 0)) : wph Tryz.prog ca (.func 70) [.ptr C 0] m fun r m' => r = valA res.1 ∧ Cs X A C 16 l res.2.1 res.2.2 m m' := by
  have hC0 := hC
  obtain ⟨hCl, w, hg⟩ := hC
  refine wph_go Tryz.func70 rfl rfl (by simp [Tryz.f70]) (by simp [Tryz.f70]) fun Q hQ => ?_
  simp only [Tryz.f70, show ca.keepRes 70 = false from rfl, show ca.keepArgs 70 = false from rfl] at hQ ⊢
  obtain ⟨M1, hM1⟩ : ∃ M1, M1 = (((m.new [.ptr C 0] false).new [int 0, int 0] false).new [int 0, int 0] false).set (m.next + 2) [int 4, int 0] := ⟨_, rfl⟩
  have k1 : Kp m M1 := by rw [hM1]; simp
  have n1 : M1.next = m.next + 3 := by rw [hM1]; simp
  have b0 : M1.get m.next = some (.cells [.ptr C 0] false (m.clock + 1)) := by rw [hM1]; simp
  have b1 : M1.get (m.next + 1) = some (.cells [int 0, int 0] false (m.clock + 2)) := by rw [hM1]; simp
  have b2 : M1.get (m.next + 2) = some (.cells [int 4, int 0] false (m.clock + 4)) := by rw [hM1]; simp
  have bC := (k1.get C hCl).trans hg
  have c0 : C ≠ m.next := by omega
  have c1 : C ≠ m.next + 1 := by omega
  have c2 : C ≠ m.next + 2 := by omega
  have hC1 := hC0.kp k1
  have hA1 := hA.kp k1
  simp [abuild, placesOf, fillAt, hg, c0, c1, c2]
  rw [← hM1]
  clear hM1
  have fin : ∀ (s' : Sl) (m7 : Mem), s'.at 2 = .ptr (m.next + 1) 0 → (∃ w, m7.get (m.next + 1) = some (.cells [int res.1.1, int res.1.2] false w)) → Cs X A C 16 l res.2.1 res.2.2 m m7 → Q .ret s' m7 := by
    intro s' m7 h2 ⟨w, hg⟩ hcs
    refine hQ _ _ _ ?_
    rw [leave_ret]
    refine ⟨[valA res.1], by simp [aresult, h2, hg, aload, partOf, valA_agg], ?_⟩
    simp only [Bool.false_eq_true, if_false, oneOf, fzr_valA]
    exact ⟨trivial, hcs⟩
  have hix : aindexAddr Tryz.prog 66 (.lst (vals l)) (int 0) = some ((valA v).cptr 0) := vals_at (i := 0) hv
  have vc := q112 hA1 hsm hC1 v
  have hix2 : aindexAddr Tryz.prog 66 (.lst (vals [x, y])) (int 0) = some ((valA x).cptr 0) := vals_at (i := 0) rfl
  have w0 : IntKind.i64.wrap 0 = 0 := IntWalk.i64_in 0 (by omega)
  have w1 : IntKind.i64.wrap 1 = 1 := IntWalk.i64_in 1 (by omega)
  refine go_drawD (by kernel_rfl) ?_
  simp [b0, bC, hix, valA_agg, vc.go, field78a, hp, hix2, b1, w0, w1]
  refine goM_of (l := [(7, 9), (7, 12)]) (by kernel_rfl) (?_ : List.all _ _ = true) ?_
  · simp [metAtD, metOkD, rank, verKeptD, Region.wanted, Mem.ver, b0, bC, b1]
  simp
  subst hres
  exact fin _ _ (by simp) ⟨_, by simp; rfl⟩ (Cs.box k1 hX hCl (Cs.refl hA1 (fun j h => by have := hX j h; omega) hC1) (by omega) (by omega) _)
set_option maxHeartbeats 8000000 in
theorem q70_17 {X : Nat → Prop} {A C : Nat} {l : List Val} {a : ArM} {m : Mem} (hA : Ar X A a m) (hX : ∀ j, X j → j < m.next) (hsm : Small a) (hp : Pairs a) (hXC : ¬ X C) (hC : has m C (clC A 17 l 0)) {v x y : Val} (hv : l[0]? = some v) (hp : (getM a v).1.a = [x, y]) {res : Val × ArM × Int} (hres : res = (y, a, 0)) : wph Tryz.prog ca (.func 70) [.ptr C 0] m fun r m' => r = valA res.1 ∧ Cs X A C 17 l res.2.1 res.2.2 m m' := by
  have hC0 := hC
  obtain ⟨hCl, w, hg⟩ := hC
  refine wph_go Tryz.func70 rfl rfl (by simp [Tryz.f70]) (by simp [Tryz.f70]) fun Q hQ => ?_
  simp only [Tryz.f70, show ca.keepRes 70 = false from rfl, show ca.keepArgs 70 = false from rfl] at hQ ⊢
  obtain ⟨M1, hM1⟩ : ∃ M1, M1 = (((m.new [.ptr C 0] false).new [int 0, int 0] false).new [int 0, int 0] false).set (m.next + 2) [int 4, int 0] := ⟨_, rfl⟩
  have k1 : Kp m M1 := by rw [hM1]; simp
  have n1 : M1.next = m.next + 3 := by rw [hM1]; simp
  have b0 : M1.get m.next = some (.cells [.ptr C 0] false (m.clock + 1)) := by rw [hM1]; simp
  have b1 : M1.get (m.next + 1) = some (.cells [int 0, int 0] false (m.clock + 2)) := by rw [hM1]; simp
  have b2 : M1.get (m.next + 2) = some (.cells [int 4, int 0] false (m.clock + 4)) := by rw [hM1]; simp
  have bC := (k1.get C hCl).trans hg
  have c0 : C ≠ m.next := by omega
  have c1 : C ≠ m.next + 1 := by omega
  have c2 : C ≠ m.next + 2 := by omega
  have hC1 := hC0.kp k1
  have hA1 := hA.kp k1
  simp [abuild, placesOf, fillAt, hg, c0, c1, c2]
  rw [← hM1]
  clear hM1
  have fin : ∀ (s' : Sl) (m7 : Mem), s'.at 2 = .ptr (m.next + 1) 0 → (∃ w, m7.get (m.next + 1) = some (.cells [int res.1.1, int res.1.2] false w)) → Cs X A C 17 l res.2.1 res.2.2 m m7 → Q .ret s' m7 := by
    intro s' m7 h2 ⟨w, hg⟩ hcs
    refine hQ _ _ _ ?_
    rw [leave_ret]
    refine ⟨[valA res.1], by simp [aresult, h2, hg, aload, partOf, valA_agg], ?_⟩
    simp only [Bool.false_eq_true, if_false, oneOf, fzr_valA]
    exact ⟨trivial, hcs⟩
  have hix : aindexAddr Tryz.prog 66 (.lst (vals l)) (int 0) = some ((valA v).cptr 0) := vals_at (i := 0) hv
  have vc := q112 hA1 hsm hC1 v
  have hix2 : aindexAddr Tryz.prog 66 (.lst (vals [x, y])) (int 1) = some ((valA y).cptr 0) := vals_at (i := 1) rfl
  have w0 : IntKind.i64.wrap 0 = 0 := IntWalk.i64_in 0 (by omega)
  have w1 : IntKind.i64.wrap 1 = 1 := IntWalk.i64_in 1 (by omega)
  refine go_drawD (by kernel_rfl) ?_
  simp [b0, bC, hix, valA_agg, vc.go, field78a, hp, hix2, b1, w0, w1]
  refine goM_of (l := [(7, 9), (7, 12)]) (by kernel_rfl) (?_ : List.all _ _ = true) ?_
  · simp [metAtD, metOkD, rank, verKeptD, Region.wanted, Mem.ver, b0, bC, b1]
  simp
  subst hres
  exact fin _ _ (by simp) ⟨_, by simp; rfl⟩ (Cs.box k1 hX hCl (Cs.refl hA1 (fun j h => by have := hX j h; omega) hC1) (by omega) (by omega) _)
set_option maxHeartbeats 8000000 in
theorem q70_18 {X : Nat → Prop} {A C : Nat} {l : List Val} {a : ArM} {m : Mem} (hA : Ar X A a m) (hX : ∀ j, X j → j < m.next) (hsm : Small a) (hp : Pairs a) (hXC : ¬ X C) (hC : has m C (clC A 18 l 0)) {x : Val} {p : Nat} {c : CeM} (hv : l[0]? = some (7, (p : Int))) (hx : l[1]? = some x) (hc : a.cells[p]? = some c) (hk : c.k = 1) (hl : c.a.length = 2) (hgx : goodM a x = true) {res : Val × ArM × Int} (hres : res = ((2, 0), putA a p c 0 x, 0)) : wph Tryz.prog ca (.func 70) [.ptr C 0] m fun r m' => r = valA res.1 ∧ Cs X A C 18 l res.2.1 res.2.2 m m' := by
  have hC0 := hC
  obtain ⟨hCl, w, hg⟩ := hC
  refine wph_go Tryz.func70 rfl rfl (by simp [Tryz.f70]) (by simp [Tryz.f70]) fun Q hQ => ?_
  simp only [Tryz.f70, show ca.keepRes 70 = false from rfl, show ca.keepArgs 70 = false from rfl] at hQ ⊢
  obtain ⟨M1, hM1⟩ : ∃ M1, M1 = (((m.new [.ptr C 0] false).new [int 0, int 0] false).new [int 0, int 0] false).set (m.next + 2) [int 4, int 0] := ⟨_, rfl⟩
  have k1 : Kp m M1 := by rw [hM1]; simp
  have n1 : M1.next = m.next + 3 := by rw [hM1]; simp
  have b0 : M1.get m.next = some (.cells [.ptr C 0] false (m.clock + 1)) := by rw [hM1]; simp
  have b1 : M1.get (m.next + 1) = some (.cells [int 0, int 0] false (m.clock + 2)) := by rw [hM1]; simp
  have b2 : M1.get (m.next + 2) = some (.cells [int 4, int 0] false (m.clock + 4)) := by rw [hM1]; simp
  have bC := (k1.get C hCl).trans hg
  have c0 : C ≠ m.next := by omega
  have c1 : C ≠ m.next + 1 := by omega
  have c2 : C ≠ m.next + 2 := by omega
  have hC1 := hC0.kp k1
  have hA1 := hA.kp k1
  simp [abuild, placesOf, fillAt, hg, c0, c1, c2]
  rw [← hM1]
  clear hM1
  have fin : ∀ (s' : Sl) (m7 : Mem), s'.at 2 = .ptr (m.next + 1) 0 → (∃ w, m7.get (m.next + 1) = some (.cells [int res.1.1, int res.1.2] false w)) → Cs X A C 18 l res.2.1 res.2.2 m m7 → Q .ret s' m7 := by
    intro s' m7 h2 ⟨w, hg⟩ hcs
    refine hQ _ _ _ ?_
    rw [leave_ret]
    refine ⟨[valA res.1], by simp [aresult, h2, hg, aload, partOf, valA_agg], ?_⟩
    simp only [Bool.false_eq_true, if_false, oneOf, fzr_valA]
    exact ⟨trivial, hcs⟩
  have hix : aindexAddr Tryz.prog 66 (.lst (vals l)) (int 0) = some ((valA (7, (p : Int))).cptr 0) := vals_at (i := 0) hv
  have hix1 : aindexAddr Tryz.prog 66 (.lst (vals l)) (int 1) = some ((valA x).cptr 0) := vals_at (i := 1) hx
  refine go_draw0 (by kernel_rfl) (by kernel_rfl) ?_
  simp [b0, bC, hix, hix1, valA_agg]
  have hag : AV.agg [int 7, int p] = valA (7, (p : Int)) := rfl
  try rw [hag]
  refine goH_of (q128 hA1 hc (.inl hk) (i := 0) (by omega) hgx) ?_
  rintro _ m5 ⟨rfl, hup⟩
  obtain ⟨X', hA5, kc5, hX5⟩ := hup.out
  have hcs : Cs X A C 18 l (putA a p c 0 x) 0 M1 m5 := ⟨X', hA5, hX5, kc5.mono fun j h => .inl h, hC1.kc kc5 hXC⟩
  have e1 := (kc5.get (m.next + 1) (by omega) (fun h => by have := hX _ h; omega)).trans b1
  simp [(q67 false).go, e1, valA_agg, truV]
  subst hres
  exact fin _ _ (by simp) ⟨_, by simp; rfl⟩ (Cs.box k1 hX hCl hcs (by omega) (by omega) _)
set_option maxHeartbeats 8000000 in
theorem q70_19 {X : Nat → Prop} {A C : Nat} {l : List Val} {a : ArM} {m : Mem} (hA : Ar X A a m) (hX : ∀ j, X j → j < m.next) (hsm : Small a) (hp : Pairs a) (hXC : ¬ X C) (hC : has m C (clC A 19 l 0)) {x : Val} {p : Nat} {c : CeM} (hv : l[0]? = some (7, (p : Int))) (hx : l[1]? = some x) (hc : a.cells[p]? = some c) (hk : c.k = 1) (hl : c.a.length = 2) (hgx : goodM a x = true) {res : Val × ArM × Int} (hres : res = ((2, 0), putA a p c 1 x, 0)) : wph Tryz.prog ca (.func 70) [.ptr C 0] m fun r m' => r = valA res.1 ∧ Cs X A C 19 l res.2.1 res.2.2 m m' := by
  have hC0 := hC
  obtain ⟨hCl, w, hg⟩ := hC
  refine wph_go Tryz.func70 rfl rfl (by simp [Tryz.f70]) (by simp [Tryz.f70]) fun Q hQ => ?_
  simp only [Tryz.f70, show ca.keepRes 70 = false from rfl, show ca.keepArgs 70 = false from rfl] at hQ ⊢
  obtain ⟨M1, hM1⟩ : ∃ M1, M1 = (((m.new [.ptr C 0] false).new [int 0, int 0] false).new [int 0, int 0] false).set (m.next + 2) [int 4, int 0] := ⟨_, rfl⟩
  have k1 : Kp m M1 := by rw [hM1]; simp
  have n1 : M1.next = m.next + 3 := by rw [hM1]; simp
  have b0 : M1.get m.next = some (.cells [.ptr C 0] false (m.clock + 1)) := by rw [hM1]; simp
  have b1 : M1.get (m.next + 1) = some (.cells [int 0, int 0] false (m.clock + 2)) := by rw [hM1]; simp
  have b2 : M1.get (m.next + 2) = some (.cells [int 4, int 0] false (m.clock + 4)) := by rw [hM1]; simp
  have bC := (k1.get C hCl).trans hg
  have c0 : C ≠ m.next := by omega
  have c1 : C ≠ m.next + 1 := by omega
  have c2 : C ≠ m.next + 2 := by omega
  have hC1 := hC0.kp k1
  have hA1 := hA.kp k1
  simp [abuild, placesOf, fillAt, hg, c0, c1, c2]
  rw [← hM1]
  clear hM1
  have fin : ∀ (s' : Sl) (m7 : Mem), s'.at 2 = .ptr (m.next + 1) 0 → (∃ w, m7.get (m.next + 1) = some (.cells [int res.1.1, int res.1.2] false w)) → Cs X A C 19 l res.2.1 res.2.2 m m7 → Q .ret s' m7 := by
    intro s' m7 h2 ⟨w, hg⟩ hcs
    refine hQ _ _ _ ?_
    rw [leave_ret]
    refine ⟨[valA res.1], by simp [aresult, h2, hg, aload, partOf, valA_agg], ?_⟩
    simp only [Bool.false_eq_true, if_false, oneOf, fzr_valA]
    exact ⟨trivial, hcs⟩
  have hix : aindexAddr Tryz.prog 66 (.lst (vals l)) (int 0) = some ((valA (7, (p : Int))).cptr 0) := vals_at (i := 0) hv
  have hix1 : aindexAddr Tryz.prog 66 (.lst (vals l)) (int 1) = some ((valA x).cptr 0) := vals_at (i := 1) hx
  refine go_draw0 (by kernel_rfl) (by kernel_rfl) ?_
  simp [b0, bC, hix, hix1, valA_agg]
  have hag : AV.agg [int 7, int p] = valA (7, (p : Int)) := rfl
  try rw [hag]
  refine goH_of (q128 hA1 hc (.inl hk) (i := 1) (by omega) hgx) ?_
  rintro _ m5 ⟨rfl, hup⟩
  obtain ⟨X', hA5, kc5, hX5⟩ := hup.out
  have hcs : Cs X A C 19 l (putA a p c 1 x) 0 M1 m5 := ⟨X', hA5, hX5, kc5.mono fun j h => .inl h, hC1.kc kc5 hXC⟩
  have e1 := (kc5.get (m.next + 1) (by omega) (fun h => by have := hX _ h; omega)).trans b1
  simp [(q67 false).go, e1, valA_agg, truV]
  subst hres
  exact fin _ _ (by simp) ⟨_, by simp; rfl⟩ (Cs.box k1 hX hCl hcs (by omega) (by omega) _)
end Go.Proofs.YtnhcmcfgemoehaaGreat

/- A number's text; a text's number. -/
set_option linter.unusedSimpArgs false
set_option linter.unusedVariables false
set_option linter.unusedSectionVars false
namespace Go.V
variable {P : Program}
theorem bytes_ext {a b : ByteArray} (h : a.data.toList = b.data.toList) : a = b := by
  obtain ⟨⟨a⟩⟩ := a
  obtain ⟨⟨b⟩⟩ := b
  simp at h
  rw [h]
theorem abin_cat {t : TypeId} {x y : Operand} {a b : List UInt8} (h : a.length + b.length < 2 ^ 62) : abin P .add t x y (.sc (.string ⟨⟨a⟩⟩)) (.sc (.string ⟨⟨b⟩⟩)) = some (.sc (.string ⟨⟨a ++ b⟩⟩)) := by
  have e : abin P .add t x y (.sc (.string ⟨⟨a⟩⟩)) (.sc (.string ⟨⟨b⟩⟩)) = some (.sc (.string ((⟨⟨a⟩⟩ : ByteArray) ++ ⟨⟨b⟩⟩))) := by
    simp only [abin, plain, eqGuard, binOp]
    simp
    unfold Op.stringOp
    have hs : ((⟨⟨a⟩⟩ : ByteArray).size + (⟨⟨b⟩⟩ : ByteArray).size) = a.length + b.length := rfl
    have hm : IntKind.i64.max = 9223372036854775807 := rfl
    dsimp only
    rw [hs, hm, if_neg (by omega)]
    rfl
  rw [e]
  congr 3
theorem pure_bound {i n : Nat} {code : BoundsCode} (h : i ≤ n) : pureRun P (Instr.sliceBound (.int .i64 i) n code) = some i := by
  unfold Instr.sliceBound
  rw [pureRun_bind]
  have : pureRun P (asIntOf (.int .i64 (i : Int))) = some (.i64, (i : Int)) := rfl
  rw [this]
  simp only [Option.bind_some]
  have h1 : (0 : Int) ≤ i ∧ (i : Int) ≤ n := ⟨by omega, by omega⟩
  simp [h1, pureRun_pure]
theorem aslice_str {T : TypeId} (hT : P.underlying T = some .string) {l : List UInt8} {i j : Nat} (h1 : i ≤ j) (h2 : j ≤ l.length) : aslice P T (.sc (.string ⟨⟨l⟩⟩)) (some (.sc (.int .i64 i))) (some (.sc (.int .i64 j))) none = some (.sc (.string ⟨⟨(l.take j).drop i⟩⟩)) := by
  have hs : (⟨⟨l⟩⟩ : ByteArray).size = l.length := rfl
  have e : pureRun P (Instr.sliceAt T (.string ⟨⟨l⟩⟩) (some (.int .i64 i)) (some (.int .i64 j)) none) = some (.string ((⟨⟨l⟩⟩ : ByteArray).extract i j)) := by
    unfold Instr.sliceAt
    rw [pureRun_bind, pureRun_underlying hT]
    simp only [Option.bind_some]
    unfold Instr.slice
    rw [pureRun_bind, pureRun_underlying hT]
    simp only [Option.bind_some, Option.isSome_none, Bool.false_eq_true, if_false]
    simp only [Instr.sliceBounds, pureRun_bind, pureRun_pure, Option.bind_some, hs, pure_bound h2, pure_bound h1]
  show Option.map AV.sc (pureRun P (Instr.sliceAt T (.string ⟨⟨l⟩⟩) (some (.int .i64 i)) (some (.int .i64 j)) none)) = _
  rw [e]
  simp only [Option.map_some]
  congr 3
  apply bytes_ext
  simp
  rw [List.drop_take]
theorem aslice_str1 {T : TypeId} (hT : P.underlying T = some .string) {l : List UInt8} {i : Nat} (h1 : i ≤ l.length) : aslice P T (.sc (.string ⟨⟨l⟩⟩)) (some (.sc (.int .i64 i))) none none = some (.sc (.string ⟨⟨l.drop i⟩⟩)) := by
  have hs : (⟨⟨l⟩⟩ : ByteArray).size = l.length := rfl
  have e : pureRun P (Instr.sliceAt T (.string ⟨⟨l⟩⟩) (some (.int .i64 i)) none none) = some (.string ((⟨⟨l⟩⟩ : ByteArray).extract i l.length)) := by
    unfold Instr.sliceAt
    rw [pureRun_bind, pureRun_underlying hT]
    simp only [Option.bind_some]
    unfold Instr.slice
    rw [pureRun_bind, pureRun_underlying hT]
    simp only [Option.bind_some, Option.isSome_none, Bool.false_eq_true, if_false]
    simp only [Instr.sliceBounds, pureRun_bind, pureRun_pure, Option.bind_some, hs, pure_bound h1]
  show Option.map AV.sc (pureRun P (Instr.sliceAt T (.string ⟨⟨l⟩⟩) (some (.int .i64 i)) none none)) = _
  rw [e]
  simp only [Option.map_some]
  congr 3
  apply bytes_ext
  simp
  exact List.take_of_length_le (by simp)
end Go.V
namespace Go.Proofs.YtnhcmcfgemoehaaGreat
set_option maxRecDepth 4000
open Go.V
attribute [local simp] Nat.add_assoc
def digit (d : Nat) : UInt8 := UInt8.ofNat (48 + d)
/-- A number's digits, ahead of others. -/
def textL : Nat → Nat → List UInt8 → List UInt8
  | 0, _, suf => suf
  | f + 1, n, suf => if n / 10 = 0 then digit (n % 10) :: suf else textL f (n / 10) (digit (n % 10) :: suf)
def txtR (a : Int) : List UInt8 × Int := if isIn a then (if a < 0 then 45 :: textL 20 a.natAbs [] else textL 20 a.natAbs [], 0) else ([], 1)
theorem digit_nat {d : Nat} (h : d < 10) : (digit d).toNat = 48 + d := by
  unfold digit
  rw [UInt8.toNat_ofNat']
  omega
theorem byts_cons (c : UInt8) (l : List UInt8) : byts (c :: l) = .sc (.int .u8 c.toNat) :: byts l := rfl
theorem byts_append (a b : List UInt8) : byts (a ++ b) = byts a ++ byts b := by simp [byts]
theorem splice_byte (k : Nat) (c d : UInt8) (a l : List UInt8) (h : a.length = k) : splice (byts (a ++ d :: l)) k [.sc (.int .u8 c.toNat)] = byts (a ++ c :: l) := by
  rw [splice, byts_append, byts_append, byts_cons, byts_cons]
  have hl : (byts a).length = k := by simpa using h
  rw [List.take_left' hl, List.drop_append, List.drop_eq_nil_of_le (by simp; omega)]
  simp [hl]
theorem chunk_byts : ∀ l : List UInt8, chunk 1 false l.length (byts l) = byts l
  | [] => rfl
  | c :: l => by
    rw [byts_cons, List.length_cons, chunk]
    simp [chunk_byts l]
theorem zero207 : tzero Tryz.prog 207 = some (.agg (byts (List.replicate 20 0))) := by kernel_rfl
theorem arr207 : tarr Tryz.prog 207 = some (20, 5) := by kernel_rfl
theorem ixa207 {id i : Nat} {q : IntKind} (h : i < 20) : aindexAddr Tryz.prog 207 (.ptr id 0) (.sc (.int q i)) = some (.ptr id i) := by
  unfold aindexAddr
  simp [arr207, telem, h]
theorem asl207 {id off : Nat} {lo hi mx : Option AV} : aslice Tryz.prog 207 (.ptr id off) lo hi mx = none := by
  unfold aslice aslice1
  simp [telem, Tryz.underlying207]
theorem cv207 {id off len : Nat} {c : Option Nat} : aconvert Tryz.prog 76 9 (.sl id off len 1 false c) = none := by
  unfold aconvert aconvB
  rfl
theorem text_end {id k : Nat} {m : Mem} {w : Nat} {a l : List UInt8} (h : m.get id = some (.cells (byts (a ++ l)) false w)) (ha : a.length = k) (hl : k + l.length = 20) : aarr Tryz.prog 207 (.ptr id 0) (some (int k)) none none m = some (.sl id k l.length 1 false (some l.length), m) := by
  unfold aarr
  simp only [arr207, tsize5, tagg5, obnd_nat, obnd_none, h, Option.getD_some, Option.getD_none]
  rw [if_pos]
  · have e : 20 - k = l.length := by omega
    simp [e]
  · refine ⟨by omega, by omega, ?_⟩
    simp
    omega
theorem text_conv {id k : Nat} {m : Mem} {w : Nat} {a l : List UInt8} {c : Option Nat} (h : m.get id = some (.cells (byts (a ++ l)) false w)) (ha : a.length = k) : aconvM Tryz.prog 76 9 (.sl id k l.length 1 false c) m = some (strA l, m.mark id (byts (a ++ l)) w) := by
  have hd : (byts (a ++ l)).drop k = byts l := by rw [byts_append]; exact List.drop_left' (by simpa using ha)
  have hf : fz1 m (.sl id k l.length 1 false c) = (.lst (byts l), m.mark id (byts (a ++ l)) w) := by
    simp only [fz1, h]
    rw [if_pos ⟨by simp; omega, rfl⟩, hd, chunk_byts]
  unfold aconvM
  rw [hf]
  dsimp only
  rw [aconvert_bs Tryz.underlying76 Tryz.underlying9 Tryz.underlying5 (byts_back l)]
  rfl
theorem text_put {id k : Nat} {m : Mem} {w : Nat} {a l : List UInt8} {c d : UInt8} (h : m.get id = some (.cells (byts (a ++ d :: l)) false w)) (ha : a.length = k) : astore Tryz.prog 5 (.ptr id k) (.sc (.int .u8 c.toNat)) m = some (m.set id (byts (a ++ c :: l))) := by
  rw [astore_ptr]
  simp only [h]
  rw [if_pos ⟨rfl, by rw [tsize5]; rfl, by simp; omega⟩]
  have := splice_byte k c d a l ha
  rw [show (AV.sc (.int .u8 c.toNat)).cells = [.sc (.int .u8 c.toNat)] from rfl, this]
theorem rem10 {t : TypeId} {x y : Operand} {n r : Nat} (h : n % 10 = r) : abin Tryz.prog .rem t x y (.sc (.int .u64 n)) (.sc (.int .u64 10)) = some (.sc (.int .u64 (r : Int))) := by
  have := abin_remN (P := Tryz.prog) (t := t) (xo := x) (yo := y) (x := n) (y := 10) (by omega)
  rw [h] at this
  exact this
theorem quo10 {t : TypeId} {x y : Operand} {n q : Nat} (h : n / 10 = q) (hn : n < 18446744073709551616) : abin Tryz.prog .quo t x y (.sc (.int .u64 n)) (.sc (.int .u64 10)) = some (.sc (.int .u64 (q : Int))) := by
  rw [abin_quo (by decide)]
  have : (n : Int).tdiv 10 = (q : Int) := by rw [Int.tdiv_eq_ediv_of_nonneg (by omega)]; omega
  rw [this, IntWalk.u64_in _ (by omega)]
theorem textL_len : ∀ (f n : Nat) (suf : List UInt8), (textL f n suf).length ≤ f + suf.length
  | 0, n, suf => by simp [textL]
  | f + 1, n, suf => by
    rw [textL]
    split
    · simp; omega
    · have := textL_len f (n / 10) (digit (n % 10) :: suf)
      simp at this
      omega
theorem txtR_len (a : Int) : (txtR a).1.length < 2 ^ 21 := by
  have := textL_len 20 a.natAbs []
  simp at this
  unfold txtR
  split
  · split
    · simp; omega
    · simp; omega
  · simp
set_option maxHeartbeats 4000000 in
theorem q142 (a : Int) : Gives Tryz.prog ca 142 [int a] (.tup [.sc (.string ⟨⟨(txtR a).1⟩⟩), int (txtR a).2]) := by
  refine gives_run Tryz.func142 rfl rfl rfl rfl (by simp [AV.bel, AV.bels]) (by simp [Tryz.f142]) (by simp [Tryz.f142]) fun m => ?_
  simp [Tryz.f142, show ca.keepRes 142 = false from rfl, (q74 a).go]
  unfold txtR
  cases hin : isIn a with
  | false => simp
  | true =>
  have hia := isIn_iff.1 hin
  have ok207 : (AV.agg (byts (List.replicate 20 0))).okc = true := by kernel_rfl
  simp only [Bool.not_true, goB_false]
  simp [zero207, (q168 hin).go, ok207]
  obtain ⟨T, hT0⟩ : ∃ T, T = textL 20 a.natAbs [] := ⟨_, rfl⟩
  rw [← hT0]
  refine go_count 13 20 (fun i s' m' => Kp m m' ∧ m.next < m'.next ∧ ∃ (p left : Nat) (suf : List UInt8), suf.length = i ∧ i + p = 19 ∧ left < 10 ^ p ∧ T = (if 0 < i ∧ left = 0 then suf else textL (p + 1) left suf) ∧ s'.at 5 = int ((p : Int) + 1) ∧ s'.at 6 = .sc (.int .u64 left) ∧ ∃ w, m'.get m.next = some (.cells (byts (List.replicate (p + 1) 0 ++ suf)) false w)) (by simp) (by omega) ⟨by simp, by simp, 19, a.natAbs, [], rfl, rfl, by omega, by rw [if_neg (by omega)]; exact hT0, by simp, by simp, m.clock + 1, by simp; rfl⟩ ?_
  rintro i s' m' hi e13 ⟨hkp, hlt, p, left, suf, hsl, hip, hleft, hT, e5, e6, w, hg⟩ hsame hw Q' hn he
  have e0 : s'.at 0 = int a := (hsame 0 (by kernel_rfl)).trans (by simp)
  have e4 : s'.at 4 = .ptr m.next 0 := (hsame 4 (by kernel_rfl)).trans (by simp)
  clear hsame
  have hi20 : (i : Int) < 20 := by omega
  have wp : IntKind.i64.wrap (p : Int) = p := IntWalk.i64_in _ (by omega)
  simp [e13, hi20]
  have hrep : List.replicate (p + 1) (0 : UInt8) ++ suf = List.replicate p 0 ++ 0 :: suf := by rw [List.replicate_succ']; simp
  by_cases hx : 0 < i ∧ left = 0
  · rw [if_pos hx] at hT
    have hx1 : (0 : Int) < i := by omega
    have hx2 : (left : Int) = 0 := by omega
    simp [hx.1, e6, hx.2]
    refine he _ _ _ (by simp) ?_
    simp [e0]
    by_cases hneg : a < 0
    · have hp := text_put (c := 45) (by rw [← hrep]; exact hg) (List.length_replicate (n := p) (a := (0 : UInt8)))
      have hg2 : (m'.set m.next (byts (List.replicate p 0 ++ 45 :: suf))).get m.next = some (.cells (byts (List.replicate p 0 ++ 45 :: suf)) false (m'.clock + 1)) := by simp
      have ha := text_end hg2 (List.length_replicate (n := p) (a := (0 : UInt8))) (by simp; omega)
      have hc := text_conv (c := some (45 :: suf).length) hg2 (List.length_replicate (n := p) (a := (0 : UInt8)))
      have hix := ixa207 (id := m.next) (i := p) (q := .i64) (by omega)
      have h45 : ((45 : UInt8).toNat : Int) = 45 := rfl
      rw [h45] at hp
      simp only [List.length_cons] at hc ha
      simp [-astore_ptr, hneg, e5, e4, wp, hix, hp, asl207, ha, cv207, hc]
      exact ⟨hT.symm, hkp⟩
    · have ha := text_end hg (List.length_replicate (n := p + 1) (a := (0 : UInt8))) (by simp; omega)
      have hc := text_conv (c := some suf.length) hg (List.length_replicate (n := p + 1) (a := (0 : UInt8)))
      rw [Int.natCast_add, Int.natCast_one] at ha
      simp [hneg, e5, e4, asl207, ha, cv207, hc]
      exact ⟨hT.symm, hkp⟩
  · rw [if_neg hx] at hT
    have hp0 : p ≠ 0 := by
      rintro rfl
      exact hx ⟨by omega, by simpa using hleft⟩
    obtain ⟨p', rfl⟩ : ∃ p', p = p' + 1 := ⟨p - 1, by omega⟩
    obtain ⟨r, hr⟩ : ∃ r, left % 10 = r := ⟨_, rfl⟩
    obtain ⟨q, hq⟩ : ∃ q, left / 10 = q := ⟨_, rfl⟩
    have hr10 : r < 10 := by omega
    have hlb : left < 18446744073709551616 := by
      have : 10 ^ (p' + 1) ≤ 10 ^ 19 := Nat.pow_le_pow_right (by decide) (by omega)
      have : (10 : Nat) ^ 19 < 18446744073709551616 := by decide
      omega
    have w48 : IntKind.u64.wrap (48 + (r : Int)) = 48 + (r : Int) := IntWalk.u64_in _ (by omega)
    have w8 : IntKind.u8.wrap (48 + (r : Int)) = ((digit r).toNat : Int) := by rw [IntWalk.u8_in _ (by omega), digit_nat hr10]; omega
    have hp := text_put (c := digit r) (by rw [← hrep]; exact hg) (List.length_replicate (n := p' + 1) (a := (0 : UInt8)))
    have hix := ixa207 (id := m.next) (i := p' + 1) (q := .i64) (by omega)
    rw [Int.natCast_add, Int.natCast_one] at hix wp
    have step : Kp m (m'.set m.next (byts (List.replicate (p' + 1) 0 ++ digit r :: suf))) ∧ m.next < (m'.set m.next (byts (List.replicate (p' + 1) 0 ++ digit r :: suf))).next := ⟨hkp.set (Nat.le_refl _) _, by simpa using hlt⟩
    have hT' : T = (if 0 < i + 1 ∧ q = 0 then digit r :: suf else textL (p' + 1) q (digit r :: suf)) := by
      rw [hT, textL, hr, hq]
      by_cases h0 : q = 0
      · simp [h0]
      · simp [h0]
    have hq' : q < 10 ^ p' := by rw [Nat.pow_succ] at hleft; omega
    rcases (show ¬ 0 < i ∨ (0 < i ∧ left ≠ 0) by omega) with hi0 | ⟨hi0, hl0⟩
    · have hx1 : ¬ (0 : Int) < i := by omega
      simp [-astore_ptr, hi0, undefV, undef, e5, e6, wp, e4, hix, rem10 hr, w48, w8, hp, quo10 hq hlb, hw, e13]
      refine hn _ _ (by omega) (by simp) ⟨step.1, step.2, p', q, digit r :: suf, by simp; omega, by omega, hq', hT', by simp, by simp, m'.clock + 1, by simp⟩
    · have hx1 : (0 : Int) < i := by omega
      have hx2 : ¬ (left : Int) = 0 := by omega
      simp [-astore_ptr, hi0, hl0, e5, e6, wp, e4, hix, rem10 hr, w48, w8, hp, quo10 hq hlb, hw, e13]
      refine hn _ _ (by omega) (by simp) ⟨step.1, step.2, p', q, digit r :: suf, by simp; omega, by omega, hq', hT', by simp, by simp, m'.clock + 1, by simp⟩
def isDig (c : UInt8) : Bool := decide (48 ≤ c.toNat) && decide (c.toNat ≤ 57)
def numS (n : Nat) (c : UInt8) : Nat := 10 * n + (c.toNat - 48)
def numL (n : Nat) (l : List UInt8) : Nat := l.foldl numS n
def parseD (minus : Bool) (all : Nat) (d : List UInt8) : Int × Int := if d = [] then (0, 5) else if d.head? = some 48 ∧ 1 < all then (0, 5) else if d.all isDig = false then (0, 5) else if 19 < d.length then (0, 10) else sgnR 0 (numL 0 d) minus
/-- A text's number. -/
def parseR (s : List UInt8) : Int × Int := if s.head? = some 45 then parseD true s.length s.tail else parseD false s.length s
theorem numL_nil (n : Nat) : numL n [] = n := by unfold numL; rw [List.foldl_nil]
theorem numL_cons (n : Nat) (c : UInt8) (l : List UInt8) : numL n (c :: l) = numL (10 * n + (c.toNat - 48)) l := by unfold numL; rw [List.foldl_cons, numS]
theorem u8_of {c : UInt8} {k : Nat} (h : (c.toNat : Int) = (k : Int)) (hk : k < 256) : c = UInt8.ofNat k := by
  apply UInt8.toNat_inj.1
  rw [UInt8.toNat_ofNat']
  omega
set_option maxHeartbeats 4000000 in
theorem q140 (s : List UInt8) (hs : s.length < 2 ^ 60) : Gives Tryz.prog ca 140 [strA s] (.tup [int (parseR s).1, int (parseR s).2]) := by
  refine gives_run Tryz.func140 rfl rfl rfl rfl (by simp [AV.bel, AV.bels]) (by simp [Tryz.f140]) (by simp [Tryz.f140]) fun m => ?_
  simp only [Tryz.f140, show ca.keepRes 140 = false from rfl]
  cases s with
  | nil => simp [alen_str Tryz.underlying9, parseR, parseD, undefV, undef]
  | cons c l =>
  have ix0 := aindex_str0 (P := Tryz.prog) (q := .i64) Tryz.underlying9 (b := c) (l := l)
  have hlen : (0 : Int) < ((c :: l).length : Int) := by simp only [List.length_cons]; omega
  have sl1 := aslice_str1 (P := Tryz.prog) Tryz.underlying9 (l := c :: l) (i := 1) (by simp)
  simp only [List.drop_succ_cons, List.drop_zero] at sl1
  have sl1' : aslice Tryz.prog 9 (strA (c :: l)) (some (int 1)) none none = some (strA l) := sl1
  obtain ⟨minus, d, hmd⟩ : ∃ (minus : Bool) (d : List UInt8), minus = decide (c = 45) ∧ d = (if c = 45 then l else c :: l) := ⟨_, _, rfl, rfl⟩
  obtain ⟨hmin, hd⟩ := hmd
  have hres : parseR (c :: l) = parseD minus (c :: l).length d := by
    unfold parseR
    rw [hmin, hd]
    by_cases h : c = 45
    · subst h; simp
    · simp [h]
  rw [hres]
  have hc45 : decide ((c.toNat : Int) = 45) = minus := by
    rw [hmin]
    by_cases h : c = 45
    · subst h; rfl
    · have : ¬ (c.toNat : Int) = 45 := fun e => h (by have := u8_of (k := 45) e (by omega); exact this)
      simp [h, this]
  have hdl : d.length ≤ (c :: l).length := by rw [hd]; split <;> simp
  simp [alen_str Tryz.underlying9, hlen, ix0]
  refine goB_cut (fun s' m' => m' = m ∧ s'.at 0 = strA (c :: l) ∧ s'.at 4 = .sc (.bool minus) ∧ s'.at 5 = strA d) (fun h k' hk' => ?_) (fun h k' hk' => ?_) ?_
  · have hm : minus = true := by rw [← hc45]; exact h
    have hc : c = 45 := by rw [hmin] at hm; exact of_decide_eq_true hm
    simp [sl1']
    refine hk' _ _ ⟨rfl, by simp, by rw [← hc45]; simp, by rw [hd, if_pos hc]; simp⟩
  · have hm : minus = false := by rw [← hc45]; exact h
    have hc : ¬ c = 45 := by rw [hmin] at hm; exact of_decide_eq_false hm
    simp
    refine hk' _ _ ⟨rfl, by simp, by rw [← hc45]; simp, by rw [hd, if_neg hc]; simp⟩
  rintro s' m' ⟨hm, e0, e4, e5⟩
  rw [hm]
  clear hm m'
  clear hc45 hres hmin ix0 sl1 sl1'
  have ln5 : ∀ (R : TypeId) (m : Mem), abuiltin Tryz.prog .len #[9] R [strA d] m = some (int d.length, m) := fun R m => alen_str Tryz.underlying9
  have ln0 : ∀ (R : TypeId) (m : Mem), abuiltin Tryz.prog .len #[9] R [strA (c :: l)] m = some (int (l.length + 1), m) := fun R m => by rw [alen_str Tryz.underlying9]; rfl
  simp only [List.length_cons] at hs hdl
  clear hlen hd
  cases hd0 : d[0]? with
  | none =>
    have hz : d = [] := by cases d with | nil => rfl | cons x y => simp at hd0
    have hP : parseD minus (l.length + 1) d = (0, 5) := by rw [parseD, if_pos hz]
    rw [hP]
    have hz' : d.length = 0 := by rw [hz]; rfl
    simp [e5, ln5, hz', undefV, undef]
  | some c' =>
  have hne : d ≠ [] := by rintro rfl; simp at hd0
  have hhead : d.head? = some c' := by rw [← hd0]; cases d <;> rfl
  have hlp : ¬ d.length = 0 := fun e => hne (List.eq_nil_of_length_eq_zero e)
  have ix5 : aindex Tryz.prog 9 (strA d) (int 0) = some (.sc (.int .u8 c'.toNat)) := aindex_str Tryz.underlying9 hd0
  by_cases h48 : c' = 48
  · have h48' : (c'.toNat : Int) = 48 := by rw [h48]; rfl
    by_cases hall1 : 1 < l.length + 1
    · have hP : parseD minus (l.length + 1) d = (0, 5) := by rw [parseD, if_neg hne, if_pos ⟨by rw [hhead, h48], hall1⟩]
      rw [hP]
      have hl1 : (1 : Int) < (l.length : Int) + 1 := by omega
      simp [e5, ln5, hlp, ix5, h48', e0, ln0, hl1]
    have hl1 : ¬ (1 : Int) < (l.length : Int) + 1 := by omega
    have hP : parseD minus (l.length + 1) d = if d.all isDig = false then (0, 5) else if 19 < d.length then (0, 10) else sgnR 0 (numL 0 d) minus := by rw [parseD, if_neg hne, if_neg (fun q => hall1 q.2)]
    simp [e5, ln5, hlp, ix5, h48', e0, ln0, hl1]
    refine go_count 40 d.length (fun i s' m' => Kp m m' ∧ (d.take i).all isDig = true ∧ ∃ nn : Nat, s'.at 6 = .sc (.int .u64 nn) ∧ (¬ 19 < d.length → numL 0 d = numL nn (d.drop i) ∧ nn < 10 ^ i)) (by simp) (by omega) ⟨.refl _, by simp, 0, by simp, fun _ => ⟨by simp, by simp⟩⟩ ?_
    rintro i s2 m2 hi e40 ⟨hkp, hall, nn, e6, hnn⟩ hsame hw Q' hn he
    have f4 : s2.at 4 = .sc (.bool minus) := (hsame 4 (by kernel_rfl)).trans (by simp [e4])
    have f5 : s2.at 5 = strA d := (hsame 5 (by kernel_rfl)).trans (by simp [e5])
    have f7 : s2.at 7 = .sc (.bool (decide (19 < d.length))) := (hsame 7 (by kernel_rfl)).trans (by simp; omega)
    have f39 : s2.at 39 = int d.length := (hsame 39 (by kernel_rfl)).trans (by simp)
    clear hsame
    simp [e40, f39]
    refine goB_split (fun h => ?_) fun h => ?_
    · have hlt : i < d.length := by simpa using h
      obtain ⟨b, hb⟩ : ∃ b, d[i]? = some b := ⟨_, List.getElem?_eq_getElem hlt⟩
      have ixb : aindex Tryz.prog 9 (strA d) (int i) = some (.sc (.int .u8 b.toNat)) := aindex_str Tryz.underlying9 hb
      have hbl := b.toNat_lt
      have bad : isDig b = false → parseD minus (l.length + 1) d = (0, 5) := fun hb5 => by
        rw [hP]
        have : d.all isDig = false := List.all_eq_false.2 ⟨b, List.mem_of_getElem? hb, by simp [hb5]⟩
        simp [this]
      have htake : (d.take (i + 1)).all isDig = ((d.take i).all isDig && isDig b) := by
        rw [List.take_add_one, hb]
        simp
      simp [e40, f5, ixb]
      by_cases g1 : b.toNat < 48
      · have g1' : (b.toNat : Int) < 48 := by omega
        simp [g1', undefV, undef]
        refine he _ _ _ (by simp) ?_
        rw [bad (by simp [isDig]; omega)]
        simp
        exact hkp
      have g1' : ¬ (b.toNat : Int) < 48 := by omega
      by_cases g2 : 57 < b.toNat
      · have g2' : (57 : Int) < b.toNat := by omega
        simp [g1', g2']
        refine he _ _ _ (by simp) ?_
        rw [bad (by simp [isDig]; omega)]
        simp
        exact hkp
      have g2' : ¬ (57 : Int) < b.toNat := by omega
      have hdb : isDig b = true := by simp [isDig]; omega
      by_cases hov : 19 < d.length
      · simp [g1', g2', f7, hov, e40, hw]
        exact hn _ _ hlt (by simp) ⟨hkp, by rw [htake, hall, hdb]; rfl, nn, by simp [e6], fun h => absurd hov h⟩
      · obtain ⟨h1, h2⟩ := hnn hov
        have p18 : 10 ^ i ≤ 10 ^ 18 := Nat.pow_le_pow_right (by decide) (by omega)
        have n18 : (10 : Nat) ^ 18 = 1000000000000000000 := by decide
        have pw : 10 ^ (i + 1) = 10 ^ i * 10 := Nat.pow_succ ..
        have w1 : IntKind.u64.wrap (10 * (nn : Int)) = 10 * (nn : Int) := IntWalk.u64_in _ (by omega)
        have w2 : IntKind.u8.wrap ((b.toNat : Int) - 48) = (b.toNat : Int) - 48 := IntWalk.u8_in _ (by omega)
        have w3 : IntKind.u64.wrap ((b.toNat : Int) - 48) = (b.toNat : Int) - 48 := IntWalk.u64_in _ (by omega)
        have w4 : IntKind.u64.wrap (10 * (nn : Int) + ((b.toNat : Int) - 48)) = ((10 * nn + (b.toNat - 48) : Nat) : Int) := by rw [IntWalk.u64_in _ (by omega)]; omega
        have hdr : d.drop i = b :: d.drop (i + 1) := by
          obtain ⟨q1, q2⟩ := List.getElem?_eq_some_iff.1 hb
          rw [List.drop_eq_getElem_cons q1, q2]
        rw [hdr, numL_cons] at h1
        simp [g1', g2', f7, hov, e6, abin_mul, w1, w2, w3, w4, e40, hw]
        refine hn _ _ hlt (by simp) ⟨hkp, by rw [htake, hall, hdb]; rfl, 10 * nn + (b.toNat - 48), by simp, fun _ => ⟨h1, by omega⟩⟩
    · have hge : i = d.length := by have := of_decide_eq_false h; omega
      subst hge
      rw [List.take_length] at hall
      simp
      refine he _ _ _ (by simp) ?_
      by_cases hov : 19 < d.length
      · rw [hP]
        simp [f7, hov, hall]
        exact hkp
      · obtain ⟨h1, _⟩ := hnn hov
        rw [List.drop_length, numL_nil] at h1
        rw [hP]
        have q9 : Gives Tryz.prog ca 169 [.sc (.int .u64 0), .sc (.int .u64 nn), .sc (.bool minus)] _ := q169 0 nn minus
        simp [f7, hov, hall, e6, f4, q9.go, h1]
        exact hkp
  · have h48' : ¬ (c'.toNat : Int) = 48 := fun e => h48 (u8_of (k := 48) e (by omega))
    have hP : parseD minus (l.length + 1) d = if d.all isDig = false then (0, 5) else if 19 < d.length then (0, 10) else sgnR 0 (numL 0 d) minus := by rw [parseD, if_neg hne, if_neg (fun q => h48 (by rw [hhead] at q; exact Option.some.inj q.1))]
    simp [e5, ln5, hlp, ix5, h48', undefV, undef]
    refine go_count 40 d.length (fun i s' m' => Kp m m' ∧ (d.take i).all isDig = true ∧ ∃ nn : Nat, s'.at 6 = .sc (.int .u64 nn) ∧ (¬ 19 < d.length → numL 0 d = numL nn (d.drop i) ∧ nn < 10 ^ i)) (by simp) (by omega) ⟨.refl _, by simp, 0, by simp, fun _ => ⟨by simp, by simp⟩⟩ ?_
    rintro i s2 m2 hi e40 ⟨hkp, hall, nn, e6, hnn⟩ hsame hw Q' hn he
    have f4 : s2.at 4 = .sc (.bool minus) := (hsame 4 (by kernel_rfl)).trans (by simp [e4])
    have f5 : s2.at 5 = strA d := (hsame 5 (by kernel_rfl)).trans (by simp [e5])
    have f7 : s2.at 7 = .sc (.bool (decide (19 < d.length))) := (hsame 7 (by kernel_rfl)).trans (by simp; omega)
    have f39 : s2.at 39 = int d.length := (hsame 39 (by kernel_rfl)).trans (by simp)
    clear hsame
    simp [e40, f39]
    refine goB_split (fun h => ?_) fun h => ?_
    · have hlt : i < d.length := by simpa using h
      obtain ⟨b, hb⟩ : ∃ b, d[i]? = some b := ⟨_, List.getElem?_eq_getElem hlt⟩
      have ixb : aindex Tryz.prog 9 (strA d) (int i) = some (.sc (.int .u8 b.toNat)) := aindex_str Tryz.underlying9 hb
      have hbl := b.toNat_lt
      have bad : isDig b = false → parseD minus (l.length + 1) d = (0, 5) := fun hb5 => by
        rw [hP]
        have : d.all isDig = false := List.all_eq_false.2 ⟨b, List.mem_of_getElem? hb, by simp [hb5]⟩
        simp [this]
      have htake : (d.take (i + 1)).all isDig = ((d.take i).all isDig && isDig b) := by
        rw [List.take_add_one, hb]
        simp
      simp [e40, f5, ixb]
      by_cases g1 : b.toNat < 48
      · have g1' : (b.toNat : Int) < 48 := by omega
        simp [g1', undefV, undef]
        refine he _ _ _ (by simp) ?_
        rw [bad (by simp [isDig]; omega)]
        simp
        exact hkp
      have g1' : ¬ (b.toNat : Int) < 48 := by omega
      by_cases g2 : 57 < b.toNat
      · have g2' : (57 : Int) < b.toNat := by omega
        simp [g1', g2']
        refine he _ _ _ (by simp) ?_
        rw [bad (by simp [isDig]; omega)]
        simp
        exact hkp
      have g2' : ¬ (57 : Int) < b.toNat := by omega
      have hdb : isDig b = true := by simp [isDig]; omega
      by_cases hov : 19 < d.length
      · simp [g1', g2', f7, hov, e40, hw]
        exact hn _ _ hlt (by simp) ⟨hkp, by rw [htake, hall, hdb]; rfl, nn, by simp [e6], fun h => absurd hov h⟩
      · obtain ⟨h1, h2⟩ := hnn hov
        have p18 : 10 ^ i ≤ 10 ^ 18 := Nat.pow_le_pow_right (by decide) (by omega)
        have n18 : (10 : Nat) ^ 18 = 1000000000000000000 := by decide
        have pw : 10 ^ (i + 1) = 10 ^ i * 10 := Nat.pow_succ ..
        have w1 : IntKind.u64.wrap (10 * (nn : Int)) = 10 * (nn : Int) := IntWalk.u64_in _ (by omega)
        have w2 : IntKind.u8.wrap ((b.toNat : Int) - 48) = (b.toNat : Int) - 48 := IntWalk.u8_in _ (by omega)
        have w3 : IntKind.u64.wrap ((b.toNat : Int) - 48) = (b.toNat : Int) - 48 := IntWalk.u64_in _ (by omega)
        have w4 : IntKind.u64.wrap (10 * (nn : Int) + ((b.toNat : Int) - 48)) = ((10 * nn + (b.toNat - 48) : Nat) : Int) := by rw [IntWalk.u64_in _ (by omega)]; omega
        have hdr : d.drop i = b :: d.drop (i + 1) := by
          obtain ⟨q1, q2⟩ := List.getElem?_eq_some_iff.1 hb
          rw [List.drop_eq_getElem_cons q1, q2]
        rw [hdr, numL_cons] at h1
        simp [g1', g2', f7, hov, e6, abin_mul, w1, w2, w3, w4, e40, hw]
        refine hn _ _ hlt (by simp) ⟨hkp, by rw [htake, hall, hdb]; rfl, 10 * nn + (b.toNat - 48), by simp, fun _ => ⟨h1, by omega⟩⟩
    · have hge : i = d.length := by have := of_decide_eq_false h; omega
      subst hge
      rw [List.take_length] at hall
      simp
      refine he _ _ _ (by simp) ?_
      by_cases hov : 19 < d.length
      · rw [hP]
        simp [f7, hov, hall]
        exact hkp
      · obtain ⟨h1, _⟩ := hnn hov
        rw [List.drop_length, numL_nil] at h1
        rw [hP]
        have q9 : Gives Tryz.prog ca 169 [.sc (.int .u64 0), .sc (.int .u64 nn), .sc (.bool minus)] _ := q169 0 nn minus
        simp [f7, hov, hall, e6, f4, q9.go, h1]
        exact hkp
end Go.Proofs.YtnhcmcfgemoehaaGreat

/- Texts. -/
set_option linter.unusedSimpArgs false
set_option linter.unusedVariables false
set_option linter.unusedSectionVars false
namespace Go.Proofs.YtnhcmcfgemoehaaGreat
set_option maxRecDepth 4000
open Go.V
attribute [local simp] Nat.add_assoc
theorem small_gets {a : ArM} (h : Small a) (v : Val) : (getM a v).1.s.length ≤ 4096 := by
  unfold getM
  cases hi : ixM a v with
  | none => simp [zeroC]
  | some i =>
    obtain ⟨_, c, hc⟩ := ixM_some hi
    simp only [List.getD_eq_getElem?_getD, hc, Option.getD_some]
    exact (h c (List.mem_of_getElem? hc)).2
theorem cby (s : List UInt8) : aconvert Tryz.prog 76 9 (.lst (byts s)) = some (strA s) := aconvert_bs Tryz.underlying76 Tryz.underlying9 Tryz.underlying5 (byts_back s)
theorem csb (s : List UInt8) : aconvert Tryz.prog 9 76 (strA s) = some (.lst (byts s)) := aconvert_sb Tryz.underlying9 Tryz.underlying76 Tryz.underlying5
section
variable {X : Nat → Prop} {A C : Nat} {a : ArM} {n : Int} {l : List Val} {m : Mem}
/-- A symbol's text. -/
theorem q141 (hA : Ar X A a m) {i : Nat} {s : List UInt8} (hs : a.names[i]? = some s) : EH Tryz.prog ca (.func 141) [.ptr A 0, valA (5, (i : Int))] m (.tup [strA s, int 0]) m := by
  have hlt := (List.getElem?_eq_some_iff.1 hs).1
  have k1 : Kp m (m.new [int 5, int i] false) := by simp
  have q1 := q34 (hA.kp k1)
  have q2 := q41 (hA.kp k1) (5, (i : Int))
  have hg : goodM a (5, (i : Int)) = true := by simp [goodM, below]; omega
  rw [hg] at q2
  have q2' : EH Tryz.prog ca (.func 41) [.ptr A 0, .agg [int 5, int i]] (m.new [int 5, int i] false) (.sc (.bool true)) (m.new [int 5, int i] false) := q2
  have hAl := hA.lt
  obtain ⟨t, M, cs, ns, xs, h, hx⟩ := hA
  obtain ⟨w, hv⟩ := h.get
  refine eh_run Tryz.func141 rfl rfl rfl rfl (args1 := [.ptr A 0, valA (5, (i : Int))]) (m1 := m) (by simp [fzvs]) (by simp [AV.bel, AV.bels]) (by simp [Tryz.f141]) (by simp [Tryz.f141]) ?_
  simp only [Tryz.f141, show ca.keepRes 141 = false from rfl]
  have nA : A ≠ m.next := by omega
  obtain ⟨e, _⟩ | ⟨_, id, u, rfl, hid, htid, hgid⟩ := h.names
  · have := congrArg List.length e
    simp at this
    rw [this] at hlt
    simp at hlt
  have hix := aindexAddr_sl (P := Tryz.prog) (q := .i64) (ag := false) (c := none) (id := id) (off := 0) (len := (a.names.map strA).length) (i := i) Tryz.underlying85 tsize9 (by simpa using hlt)
  have ok : okAll 1 (a.names.map strA) = true := by
    generalize a.names = l
    induction l with
    | nil => rfl
    | cons x l ih => rw [List.map_cons, okAll_cons, ih]; simp
  obtain ⟨f1, f2⟩ := flat_at (k := 1) (ys := a.names.map strA) (j := i) (y := strA s) ok (by simp [hs])
  have hat : (flat (a.names.map strA))[i]? = some (strA s) := by
    have := congrArg (fun l => l[0]?) f2
    simp only [Nat.mul_one, List.getElem?_take_of_lt (show 0 < 1 by omega), List.getElem?_drop] at this
    simpa using this
  have nid : id ≠ m.next := by omega
  simp only [List.length_map] at hix
  simp [q1.go, q2'.go]
  refine go_draw0 (by kernel_rfl) (by kernel_rfl) ?_
  simp [hv, nA, hix, nid, hgid, hat]
def textC (a : ArM) (s : List UInt8) : Val × ArM × Int := allocC a 0 ⟨3, 0, [], s⟩
theorem q138 (hA : Ar X A a m) (hX : ∀ j, X j → j < m.next) (hXC : ¬ X C) (hC : has m C (clC A n l 0)) (s : List UInt8) (hs : s.length < 2 ^ 21) : wph Tryz.prog ca (.func 138) [.ptr C 0, strA s] m fun v m' => v = valA (textC a s).1 ∧ Cs X A C n l (textC a s).2.1 (textC a s).2.2 m m' := by
  have hCl := hC.1
  refine wph_go Tryz.func138 rfl rfl (by simp [Tryz.f138]) (by simp [Tryz.f138]) fun Q hQ => ?_
  simp only [Tryz.f138, show ca.keepRes 138 = false from rfl, show ca.keepArgs 138 = false from rfl] at hQ ⊢
  obtain ⟨M1, hM1⟩ : ∃ M1, M1 = m.new [int 0, int 0] false := ⟨_, rfl⟩
  have k1 : Kp m M1 := by rw [hM1]; simp
  have n1 : M1.next = m.next + 1 := by rw [hM1]; simp
  have b0 : M1.get m.next = some (.cells [int 0, int 0] false (m.clock + 1)) := by rw [hM1]; simp
  have cs := csb s
  simp only [strA] at cs
  simp [cs, abuild, placesOf, fillAt]
  rw [← hM1]
  clear hM1
  refine goH_of (alloc_txt (hA.kp k1) (fun j h => by have := hX j h; omega) hXC (hC.kp k1) (kd := 3) (s := s) hs) ?_
  rintro _ m5 ⟨rfl, hcs⟩
  obtain ⟨X', _, _, kc5, _⟩ := id hcs
  have g5 := (kc5.get m.next (by omega) (fun h => by rcases h with h | h; have := hX _ h; omega; omega)).trans b0
  simp [g5, valA_agg]
  refine hQ _ _ _ ?_
  rw [leave_ret]
  refine ⟨[valA (textC a s).1], by simp [aresult, aload, partOf, valA_agg, textC], ?_⟩
  simp only [Bool.false_eq_true, if_false, oneOf, fzr_valA]
  exact ⟨trivial, Cs.box k1 hX hCl hcs (by omega) (by omega) _⟩
/-- A text's symbol. -/
def symC (a : ArM) (s : List UInt8) : Val × ArM × Int := if Sym s = true then (if (symM a s).2.2 ≠ 0 then ((0, 0), (symM a s).1, 8) else ((symM a s).2.1, (symM a s).1, 0)) else ((0, 0), a, 6)
theorem q139 (hA : Ar X A a m) (hX : ∀ j, X j → j < m.next) (hXC : ¬ X C) (hC : has m C (clC A n l 0)) (s : List UInt8) (hs : s.length < 2 ^ 21) : wph Tryz.prog ca (.func 139) [.ptr C 0, strA s] m fun v m' => v = valA (symC a s).1 ∧ Cs X A C n l (symC a s).2.1 (symC a s).2.2 m m' := by
  have hCl := hC.1
  refine wph_go Tryz.func139 rfl rfl (by simp [Tryz.f139]) (by simp [Tryz.f139]) fun Q hQ => ?_
  simp only [Tryz.f139, show ca.keepRes 139 = false from rfl, show ca.keepArgs 139 = false from rfl] at hQ ⊢
  obtain ⟨M1, hM1⟩ : ∃ M1, M1 = m.new [int 0, int 0] false := ⟨_, rfl⟩
  have k1 : Kp m M1 := by rw [hM1]; simp
  have n1 : M1.next = m.next + 1 := by rw [hM1]; simp
  have b0 : M1.get m.next = some (.cells [int 0, int 0] false (m.clock + 1)) := by rw [hM1]; simp
  have hA1 := hA.kp k1
  have hX1 : ∀ j, X j → j < M1.next := fun j h => by have := hX j h; omega
  have hC1 := hC.kp k1
  obtain ⟨_, w, gC⟩ := id hC1
  obtain ⟨res, hres⟩ : ∃ res, res = symC a s := ⟨_, rfl⟩
  rw [← hres] at hQ
  have fin : ∀ (s' : Sl) (m5 : Mem) (v : Val), s'.at 4 = .ptr m.next 0 → (∃ w, (m5.set m.next [int v.1, int v.2]).get m.next = some (.cells [int v.1, int v.2] false w)) → res.1 = v → Cs X A C n l res.2.1 res.2.2 M1 m5 → Q .ret s' (m5.set m.next [int v.1, int v.2]) := by
    intro s' m5 v h6 ⟨w, hg⟩ hv hcs
    refine hQ _ _ _ ?_
    rw [leave_ret]
    refine ⟨[valA v], by simp [aresult, h6, hg, aload, partOf, valA_agg], ?_⟩
    simp only [Bool.false_eq_true, if_false, oneOf, fzr_valA, hv]
    exact ⟨trivial, Cs.box k1 hX hCl hcs (by omega) (by omega) _⟩
  simp [(ca_gives (g12 s (by omega))).go]
  rw [← hM1]
  clear hM1
  cases hsy : Sym s with
  | false =>
    rw [symC, hsy, if_neg (by decide)] at hres
    simp
    refine goH_of (q134 hC1 6) ?_
    rintro _ m5 ⟨rfl, kc, hc⟩
    have g5 := (kc.get m.next (by omega) (by omega)).trans b0
    simp [g5, valA_agg]
    exact fin _ _ (0, 0) (by simp) ⟨_, by simp; rfl⟩ (by rw [hres]) (by rw [hres]; exact Cs.of_c hA1 hX1 hXC kc hc)
  | true =>
  rw [symC, hsy, if_pos rfl] at hres
  simp [gC]
  refine goH_of (q59 hA1 s (by omega)) ?_
  rintro _ m5 ⟨rfl, hup⟩
  obtain ⟨X', hA5, kc5, hX5⟩ := hup.out
  have n5 := kc5.next
  have b5 := (kc5.get m.next (by omega) (fun h => by have := hX _ h; omega)).trans b0
  have k6 : Kp m5 ((m5.new [int 0, int 0] false).set m5.next [int (symM a s).2.1.1, int (symM a s).2.1.2]) := by simp
  have z0 : m.next ≠ m5.next := by omega
  have hcs : Cs X A C n l (symM a s).1 0 M1 ((m5.new [int 0, int 0] false).set m5.next [int (symM a s).2.1.1, int (symM a s).2.1.2]) := ⟨X', hA5.kp k6, fun j h => ⟨(hX5 j h).1, Nat.lt_of_lt_of_le (hX5 j h).2 k6.next⟩, (kc5.mono fun j h => .inl h).trans (.of (.of k6)), (hC1.kc kc5 hXC).kp k6⟩
  simp
  by_cases hz : (symM a s).2.2 = 0
  · rw [if_neg (by simp [hz])] at hres
    simp [hz, b5, z0]
    exact fin _ _ _ (by simp) ⟨_, by simp; rfl⟩ (by rw [hres]) (by rw [hres]; exact hcs)
  · rw [if_pos hz] at hres
    simp [hz]
    obtain ⟨X6, hA6, hX6, kc6, hC6⟩ := hcs
    refine goH_of (q134 hC6 8) ?_
    rintro _ m7 ⟨rfl, kc7, hc7⟩
    have b6 := (kc6.get m.next (by omega) (fun h => by rcases h with h | h; have := hX _ h; omega; omega)).trans b0
    have n6 := kc6.next
    have b7 := (kc7.get m.next (by omega) (by omega)).trans b6
    have hc8 : has m7 C (clC A n l 8) := hc7
    simp [b7, valA_agg]
    refine fin _ _ (0, 0) (by simp) ⟨_, by simp; rfl⟩ (by rw [hres]) ?_
    rw [hres]
    exact ⟨X6, hA6.kc kc7 fun j h e => by
        have e : j = C := e
        subst e
        rcases (hX6 j h).1 with h | h
        · exact absurd h hXC
        · omega, fun j h => ⟨(hX6 j h).1, Nat.lt_of_lt_of_le (hX6 j h).2 kc7.next⟩, kc6.trans (kc7.mono fun j h => .inr h), hc8⟩
/-- Strings as one, as long as they may be. -/
def joinL (a : ArM) : List UInt8 → List Val → Option (List UInt8)
  | acc, [] => some acc
  | acc, v :: l => if 256 < (acc ++ (getM a v).1.s).length then none else joinL a (acc ++ (getM a v).1.s) l
def joinC (a : ArM) (l : List Val) : Val × ArM × Int := match joinL a [] l with | some s => textC a s | none => ((0, 0), a, 6)
end
end Go.Proofs.YtnhcmcfgemoehaaGreat

/- What the procedures of texts do. -/
set_option linter.unusedSimpArgs false
set_option linter.unusedVariables false
set_option linter.unusedSectionVars false
namespace Go.Proofs.YtnhcmcfgemoehaaGreat
set_option maxRecDepth 4000
open Go.V
attribute [local simp] Nat.add_assoc
section
variable {X : Nat → Prop} {A C : Nat} {a : ArM} {n : Int} {l : List Val} {m : Mem}
set_option maxHeartbeats 4000000 in
theorem q137 (hA : Ar X A a m) (hX : ∀ j, X j → j < m.next) (hsm : Small a) (hXC : ¬ X C) (hC : has m C (clC A n l 0)) (hll : l.length ≤ 4096) : wph Tryz.prog ca (.func 137) [.ptr C 0] m fun v m' => v = valA (joinC a l).1 ∧ Cs X A C n l (joinC a l).2.1 (joinC a l).2.2 m m' := by
  have hCl := hC.1
  refine wph_go Tryz.func137 rfl rfl (by simp [Tryz.f137]) (by simp [Tryz.f137]) fun Q hQ => ?_
  simp only [Tryz.f137, show ca.keepRes 137 = false from rfl, show ca.keepArgs 137 = false from rfl] at hQ ⊢
  have ln : ∀ (R : TypeId) (m : Mem), abuiltin Tryz.prog .len #[66] R [.lst (vals l)] m = some (int l.length, m) := fun R m => by rw [alen_lst Tryz.underlying66]; simp
  obtain ⟨M1, hM1⟩ : ∃ M1, M1 = m.new [int 0, int 0] false := ⟨_, rfl⟩
  have k1 : Kp m M1 := by rw [hM1]; simp
  have n1 : M1.next = m.next + 1 := by rw [hM1]; simp
  have b0 : M1.get m.next = some (.cells [int 0, int 0] false (m.clock + 1)) := by rw [hM1]; simp
  have hA1 := hA.kp k1
  have hX1 : ∀ j, X j → j < M1.next := fun j h => by have := hX j h; omega
  have hC1 := hC.kp k1
  obtain ⟨_, w, gC⟩ := id hC1
  obtain ⟨_, w', gC0⟩ := id hC
  have c0 : C ≠ m.next := by omega
  obtain ⟨res, hres⟩ : ∃ res, res = joinC a l := ⟨_, rfl⟩
  rw [← hres] at hQ
  have fin : ∀ (s' : Sl) (m5 : Mem) (v : Val), s'.at 2 = .ptr m.next 0 → (∃ w, (m5.set m.next [int v.1, int v.2]).get m.next = some (.cells [int v.1, int v.2] false w)) → res.1 = v → Cs X A C n l res.2.1 res.2.2 M1 m5 → Q .ret s' (m5.set m.next [int v.1, int v.2]) := by
    intro s' m5 v h6 ⟨w, hg⟩ hv hcs
    refine hQ _ _ _ ?_
    rw [leave_ret]
    refine ⟨[valA v], by simp [aresult, h6, hg, aload, partOf, valA_agg], ?_⟩
    simp only [Bool.false_eq_true, if_false, oneOf, fzr_valA, hv]
    exact ⟨trivial, Cs.box k1 hX hCl hcs (by omega) (by omega) _⟩
  have got : ∀ {m5 : Mem} {a' : ArM} {k' : Int}, Cs X A C n l a' k' M1 m5 → m5.get m.next = some (.cells [int 0, int 0] false (m.clock + 1)) := fun {m5 a' k'} hcs => by
    obtain ⟨X', _, _, kc5, _⟩ := id hcs
    exact (kc5.get m.next (by omega) (fun h => by rcases h with h | h; have := hX _ h; omega; omega)).trans b0
  have bad : ∀ {m5 : Mem}, KpC (fun j => j = C) M1 m5 ∧ has m5 C (clC A n l (failK 0 6)) → Cs X A C n l a 6 M1 m5 := fun {m5} h => Cs.of_c hA1 hX1 hXC h.1 h.2
  simp [gC0, c0, ln]
  rw [← hM1]
  clear hM1
  refine go_count 11 l.length (fun i s' m' => Kp M1 m' ∧ ∃ acc, s'.at 3 = strA acc ∧ acc.length ≤ 256 ∧ joinL a [] l = joinL a acc (l.drop i)) (by simp) (by omega) ⟨.refl _, [], by simp, by simp, by simp⟩ ?_
  rintro i s' m' hi e11 ⟨hkp, acc, e3, hacc, hj⟩ hsame hw Q' hn he
  have e0 : s'.at 0 = .ptr C 0 := (hsame 0 (by kernel_rfl)).trans (by simp)
  have e2 : s'.at 2 = .ptr m.next 0 := (hsame 2 (by kernel_rfl)).trans (by simp)
  have e9 : s'.at 9 = .lst (vals l) := (hsame 9 (by kernel_rfl)).trans (by simp)
  have e10 : s'.at 10 = int l.length := (hsame 10 (by kernel_rfl)).trans (by simp)
  clear hsame
  have n' := hkp.next
  have g' := (hkp.get m.next (by omega)).trans b0
  simp [e10, e11]
  refine goB_split (fun h => ?_) fun h => ?_
  · have hlt : i < l.length := by simpa using h
    obtain ⟨v, hv⟩ : ∃ v, l[i]? = some v := ⟨_, List.getElem?_eq_getElem hlt⟩
    have hix := vals_at hv
    rw [drop_at hv, joinL] at hj
    have k4 : Kp m' ((m'.new [int 0, int 0] false).set m'.next [int v.1, int v.2]) := by simp
    have q := q112 (hA1.kp (hkp.trans k4)) hsm (hC1.kp (hkp.trans k4)) v
    have gs := small_gets hsm v
    have cat := fun {t : TypeId} {x y : Operand} => abin_cat (P := Tryz.prog) (t := t) (x := x) (y := y) (a := acc) (b := (getM a v).1.s) (by omega)
    have z0 : m.next ≠ m'.next := by omega
    simp [e11, e9, hix, valA_agg, e0, q.go, field78s, cby, e3, cat, alen_str Tryz.underlying9]
    simp only [List.length_append] at hj
    by_cases hz : 256 < acc.length + (getM a v).1.s.length
    · rw [if_pos hz] at hj
      have hz' : (256 : Int) < (acc.length : Int) + ((getM a v).1.s.length : Int) := by omega
      simp [hz', e0]
      refine goH_of (q134 (hC1.kp (hkp.trans k4)) 6) ?_
      rintro _ m5 ⟨rfl, kc, hc⟩
      have g5 : m5.get m.next = some (.cells [int 0, int 0] false (m.clock + 1)) := (kc.get m.next (by have := (hkp.trans k4).next; omega) (by omega)).trans (((hkp.trans k4).get m.next (by omega)).trans b0)
      simp [e2, g5, valA_agg]
      refine he _ _ _ (by simp) ?_
      simp
      exact fin _ _ (0, 0) (by simp [e2]) ⟨_, by simp; rfl⟩ (by rw [hres, joinC, hj]) (by rw [hres, joinC, hj]; exact bad ⟨KpC.trans (.of (.of (hkp.trans k4))) kc, hc⟩)
    · rw [if_neg hz] at hj
      have hz' : ¬ (256 : Int) < (acc.length : Int) + ((getM a v).1.s.length : Int) := by omega
      simp [hz', e11, hw]
      exact hn _ _ hlt (by simp) ⟨hkp.trans k4, acc ++ (getM a v).1.s, by simp, by simp; omega, hj⟩
  · have hge : i = l.length := by have := of_decide_eq_false h; omega
    subst hge
    rw [List.drop_length, joinL] at hj
    simp
    refine he _ _ _ (by simp) ?_
    simp [e0, e3]
    refine goH_of (q138 (hA1.kp hkp) (fun j h => by have := hX j h; omega) hXC (hC1.kp hkp) acc (by omega)) ?_
    rintro _ m5 ⟨rfl, hcs⟩
    have hcs := hcs.after (.of (.of hkp))
    simp [got hcs, e2, valA_agg]
    exact fin _ _ _ (by simp [e2]) ⟨_, by simp; rfl⟩ (by rw [hres, joinC, hj]) (by rw [hres, joinC, hj]; exact hcs)
/-- What a procedure of texts makes. -/
def textsM (a : ArM) (n : Int) (l : List Val) : Val × ArM × Int :=
  if n = 32 then ((1, ((getM a (argV l 0)).1.s.length : Int)), a, 0)
  else if n = 33 then (if within (argV l 1).2 (((getM a (argV l 0)).1.s.length : Int) - 1) then ((3, (((getM a (argV l 0)).1.s.getD (argV l 1).2.toNat 0).toNat : Int)), a, 0) else ((0, 0), a, 6))
  else if n = 34 then joinC a l
  else if n = 35 then (if within (argV l 1).2 (argV l 2).2 && within (argV l 2).2 ((getM a (argV l 0)).1.s.length : Int) then textC a (((getM a (argV l 0)).1.s.take (argV l 2).2.toNat).drop (argV l 1).2.toNat) else ((0, 0), a, 6))
  else if n = 36 then (truV (decide ((getM a (argV l 0)).1.s = (getM a (argV l 1)).1.s)), a, 0)
  else if n = 38 then symC a (getM a (argV l 0)).1.s
  else if n = 40 then (if (parseR (getM a (argV l 0)).1.s).2 ≠ 0 then ((2, 0), a, 0) else ((1, (parseR (getM a (argV l 0)).1.s).1), a, 0))
  else if n = 37 then textC a (a.names.getD (argV l 0).2.toNat [])
  else if n = 39 then textC a (txtR (argV l 0).2).1
  else if n = 42 then (if within (argV l 0).2 127 then ((3, (argV l 0).2), a, 0) else ((0, 0), a, 6))
  else ((1, (argV l 0).2), a, 0)
set_option maxRecDepth 20000 in
set_option maxHeartbeats 16000000 in
theorem q72 (hA : Ar X A a m) (hX : ∀ j, X j → j < m.next) (hsm : Small a) (hXC : ¬ X C) (hC : has m C (clC A n l 0)) (hll : l.length ≤ 4096)
    (hv0 : n ≠ 34 → l[0]? = some (argV l 0)) (hv1 : n = 33 ∨ n = 35 ∨ n = 36 → l[1]? = some (argV l 1)) (hv2 : n = 35 → l[2]? = some (argV l 2))
    (hsy : n = 37 → ∃ (i : Nat) (s : List UInt8), argV l 0 = (5, (i : Int)) ∧ a.names[i]? = some s ∧ s.length < 2 ^ 21) : wph Tryz.prog ca (.func 72) [.ptr C 0] m fun v m' => v = valA (textsM a n l).1 ∧ Cs X A C n l (textsM a n l).2.1 (textsM a n l).2.2 m m' := by
  have hCl := hC.1
  refine wph_go Tryz.func72 rfl rfl (by simp [Tryz.f72]) (by simp [Tryz.f72]) fun Q hQ => ?_
  simp only [Tryz.f72, show ca.keepRes 72 = false from rfl, show ca.keepArgs 72 = false from rfl] at hQ ⊢
  have ln : ∀ (R : TypeId) (m : Mem), abuiltin Tryz.prog .len #[66] R [.lst (vals l)] m = some (int l.length, m) := fun R m => by rw [alen_lst Tryz.underlying66]; simp
  obtain ⟨M1, hM1⟩ : ∃ M1, M1 = m.new [int 0, int 0] false := ⟨_, rfl⟩
  have k1 : Kp m M1 := by rw [hM1]; simp
  have n1 : M1.next = m.next + 1 := by rw [hM1]; simp
  have b0 : M1.get m.next = some (.cells [int 0, int 0] false (m.clock + 1)) := by rw [hM1]; simp
  have hA1 := hA.kp k1
  have hX1 : ∀ j, X j → j < M1.next := fun j h => by have := hX j h; omega
  have hC1 := hC.kp k1
  obtain ⟨_, w, gC⟩ := id hC1
  obtain ⟨_, w', gC0⟩ := id hC
  have c0 : C ≠ m.next := by omega
  obtain ⟨res, hres⟩ : ∃ res, res = textsM a n l := ⟨_, rfl⟩
  rw [← hres] at hQ
  have fin : ∀ (s' : Sl) (m5 : Mem) (v : Val), s'.at 2 = .ptr m.next 0 → (∃ w, (m5.set m.next [int v.1, int v.2]).get m.next = some (.cells [int v.1, int v.2] false w)) → res.1 = v → Cs X A C n l res.2.1 res.2.2 M1 m5 → Q .ret s' (m5.set m.next [int v.1, int v.2]) := by
    intro s' m5 v h6 ⟨w, hg⟩ hv hcs
    refine hQ _ _ _ ?_
    rw [leave_ret]
    refine ⟨[valA v], by simp [aresult, h6, hg, aload, partOf, valA_agg], ?_⟩
    simp only [Bool.false_eq_true, if_false, oneOf, fzr_valA, hv]
    exact ⟨trivial, Cs.box k1 hX hCl hcs (by omega) (by omega) _⟩
  have got : ∀ {m5 : Mem} {a' : ArM} {k' : Int}, Cs X A C n l a' k' M1 m5 → m5.get m.next = some (.cells [int 0, int 0] false (m.clock + 1)) := fun {m5 a' k'} hcs => by
    obtain ⟨X', _, _, kc5, _⟩ := id hcs
    exact (kc5.get m.next (by omega) (fun h => by rcases h with h | h; have := hX _ h; omega; omega)).trans b0
  have bad : ∀ {m5 : Mem}, KpC (fun j => j = C) M1 m5 ∧ has m5 C (clC A n l (failK 0 6)) → Cs X A C n l a 6 M1 m5 := fun {m5} h => Cs.of_c hA1 hX1 hXC h.1 h.2
  simp [gC0, c0, ln]
  rw [← hM1]
  clear hM1
  have gs := small_gets hsm (argV l 0)
  have v0c := q112 hA1 hsm hC1 (argV l 0)
  refine goB_cut (fun s' m' => m' = M1 ∧ s'.at 0 = .ptr C 0 ∧ s'.at 2 = .ptr m.next 0 ∧ s'.at 3 = strA (getM a (argV l 0)).1.s) (fun h k' hk' => ?_) (fun h k' hk' => ?_) ?_
  · have hlt : 0 < l.length := by have := of_decide_eq_true h; omega
    have hv : l[0]? = some (argV l 0) := by rw [argV, List.getElem?_eq_getElem hlt]
    have hix : aindexAddr Tryz.prog 66 (.lst (vals l)) (int 0) = some ((valA (argV l 0)).cptr 0) := vals_at (i := 0) hv
    simp [gC, hix, valA_agg, v0c.go, field78s, cby]
    exact hk' _ _ ⟨rfl, by simp, by simp, by simp⟩
  · have hz : l[0]? = none := List.getElem?_eq_none (by have := of_decide_eq_false h; omega)
    have he : (getM a (argV l 0)).1.s = [] := by simp [argV, hz, getM, ixM, goodM, zeroC]
    simp
    exact hk' _ _ ⟨rfl, by simp, by simp, by simp [he]⟩
  rintro s' m' ⟨hm, e0, e2, e3⟩
  rw [hm]
  clear hm m'
  simp [e0, gC]
  obtain ⟨s0, hs0⟩ : ∃ s0, s0 = (getM a (argV l 0)).1.s := ⟨_, rfl⟩
  rw [← hs0] at e3 gs
  by_cases d32 : n = 32
  · rw [textsM, if_pos d32] at hres
    rw [← hs0] at hres
    simp [d32, e3, alen_str Tryz.underlying9, (q126 _).go, e2, b0, valA_agg]
    exact fin _ _ (1, (s0.length : Int)) (by simp [e2]) ⟨_, by simp; rfl⟩ (by rw [hres]) (by rw [hres]; exact Cs.refl hA1 hX1 hC1)
  by_cases d33 : n = 33
  · rw [textsM, if_neg d32, if_pos d33] at hres
    rw [← hs0] at hres
    have v1 := hv1 (by simp [d33])
    have ix1 : aindexAddr Tryz.prog 66 (.lst (vals l)) (int 1) = some ((valA (argV l 1)).cptr 0) := vals_at (i := 1) v1
    have wl : IntKind.i64.wrap ((s0.length : Int) - 1) = (s0.length : Int) - 1 := IntWalk.i64_in _ (by omega)
    simp [d32, d33, e0, gC, ix1, e3, alen_str Tryz.underlying9, wl, (q135 _ _).go]
    cases hw : within (argV l 1).2 ((s0.length : Int) - 1) with
    | false =>
      rw [hw, if_neg (by decide)] at hres
      simp [e0]
      refine goH_of (q134 hC1 6) ?_
      rintro _ m5 ⟨rfl, hcs⟩
      have hcs := bad hcs
      simp [got hcs, e2, valA_agg]
      exact fin _ _ (0, 0) (by simp [e2]) ⟨_, by simp; rfl⟩ (by rw [hres]) (by rw [hres]; exact hcs)
    | true =>
      rw [hw, if_pos rfl] at hres
      obtain ⟨i, hi, hil⟩ : ∃ i : Nat, (argV l 1).2 = i ∧ i < s0.length := by
        simp [within] at hw
        exact ⟨(argV l 1).2.toNat, by omega, by omega⟩
      rw [hi, Int.toNat_natCast] at hres
      obtain ⟨b, hb⟩ : ∃ b, s0[i]? = some b := ⟨_, List.getElem?_eq_getElem hil⟩
      have hbx := aindex_str (P := Tryz.prog) (q := .i64) Tryz.underlying9 hb
      have hwb : IntKind.i64.wrap (b.toNat : Int) = b.toNat := IntWalk.i64_in _ (by have := b.toNat_lt; omega)
      simp only [List.getD_eq_getElem?_getD, hb, Option.getD_some] at hres
      simp [e0, e3, gC, ix1, hi, hbx, hwb, abuild, placesOf, fillAt, e2, b0]
      exact fin _ _ (3, (b.toNat : Int)) (by simp [e2]) ⟨_, by simp; rfl⟩ (by rw [hres]) (by rw [hres]; exact Cs.refl hA1 hX1 hC1)
  by_cases d34 : n = 34
  · rw [textsM, if_neg d32, if_neg d33, if_pos d34] at hres
    simp [d32, d33, d34, e0]
    refine goH_of (q137 hA1 hX1 hsm hXC hC1 hll) ?_
    rintro _ m5 ⟨rfl, hcs⟩
    simp [got hcs, e2, valA_agg]
    exact fin _ _ _ (by simp [e2]) ⟨_, by simp; rfl⟩ (by rw [hres]) (by rw [hres]; exact hcs)
  by_cases d35 : n = 35
  · rw [textsM, if_neg d32, if_neg d33, if_neg d34, if_pos d35] at hres
    rw [← hs0] at hres
    have v1 := hv1 (by simp [d35])
    have ix1 : aindexAddr Tryz.prog 66 (.lst (vals l)) (int 1) = some ((valA (argV l 1)).cptr 0) := vals_at (i := 1) v1
    have v2 := hv2 d35
    have ix2 : aindexAddr Tryz.prog 66 (.lst (vals l)) (int 2) = some ((valA (argV l 2)).cptr 0) := vals_at (i := 2) v2
    simp [d32, d33, d34, d35]
    refine go_draw0 (by kernel_rfl) (by kernel_rfl) ?_
    simp [e0, gC, ix1, ix2, e3, alen_str Tryz.underlying9, (q135 _ _).go]
    cases hw : within (argV l 1).2 (argV l 2).2 with
    | false =>
      rw [hw, Bool.false_and, if_neg (by decide)] at hres
      simp [e0, undefV, undef]
      refine goH_of (q134 hC1 6) ?_
      rintro _ m5 ⟨rfl, hcs⟩
      have hcs := bad hcs
      simp [got hcs, e2, valA_agg]
      exact fin _ _ (0, 0) (by simp [e2]) ⟨_, by simp; rfl⟩ (by rw [hres]) (by rw [hres]; exact hcs)
    | true =>
    rw [hw, Bool.true_and] at hres
    simp [e0, e3, alen_str Tryz.underlying9, (q135 _ _).go]
    cases hw2 : within (argV l 2).2 (s0.length : Int) with
    | false =>
      rw [hw2, if_neg (by decide)] at hres
      simp [e0]
      refine goH_of (q134 hC1 6) ?_
      rintro _ m5 ⟨rfl, hcs⟩
      have hcs := bad hcs
      simp [got hcs, e2, valA_agg]
      exact fin _ _ (0, 0) (by simp [e2]) ⟨_, by simp; rfl⟩ (by rw [hres]) (by rw [hres]; exact hcs)
    | true =>
    rw [hw2, if_pos rfl] at hres
    obtain ⟨i, j, hi, hj, hij, hjl⟩ : ∃ i j : Nat, (argV l 1).2 = i ∧ (argV l 2).2 = j ∧ i ≤ j ∧ j ≤ s0.length := by
      simp [within] at hw hw2
      exact ⟨(argV l 1).2.toNat, (argV l 2).2.toNat, by omega, by omega, by omega, by omega⟩
    rw [hi, hj, Int.toNat_natCast, Int.toNat_natCast] at hres
    have hsl := aslice_str (P := Tryz.prog) Tryz.underlying9 hij hjl
    simp [e0, e3, hi, hj, hsl]
    refine goH_of (q138 hA1 hX1 hXC hC1 ((s0.take j).drop i) (by simp; omega)) ?_
    rintro _ m5 ⟨rfl, hcs⟩
    simp [got hcs, e2, valA_agg]
    exact fin _ _ _ (by simp [e2]) ⟨_, by simp; rfl⟩ (by rw [hres]) (by rw [hres]; exact hcs)
  by_cases d36 : n = 36
  · rw [textsM, if_neg d32, if_neg d33, if_neg d34, if_neg d35, if_pos d36] at hres
    rw [← hs0] at hres
    have v1 := hv1 (by simp [d36])
    have ix1 : aindexAddr Tryz.prog 66 (.lst (vals l)) (int 1) = some ((valA (argV l 1)).cptr 0) := vals_at (i := 1) v1
    have v1c := q112 hA1 hsm hC1 (argV l 1)
    simp [d32, d33, d34, d35, d36, e0, gC, ix1, e3, valA_agg, v1c.go, field78s, cby, (q67 _).go, e2, b0]
    exact fin _ _ (truV (decide (s0 = (getM a (argV l 1)).1.s))) (by simp [e2]) ⟨_, by simp; rfl⟩ (by rw [hres]) (by rw [hres]; exact Cs.refl hA1 hX1 hC1)
  by_cases d38 : n = 38
  · rw [textsM, if_neg d32, if_neg d33, if_neg d34, if_neg d35, if_neg d36, if_pos d38] at hres
    rw [← hs0] at hres
    simp [d32, d33, d34, d35, d36, d38, e0, e3]
    refine goH_of (q139 hA1 hX1 hXC hC1 s0 (by omega)) ?_
    rintro _ m5 ⟨rfl, hcs⟩
    simp [got hcs, e2, valA_agg]
    exact fin _ _ _ (by simp [e2]) ⟨_, by simp; rfl⟩ (by rw [hres]) (by rw [hres]; exact hcs)
  by_cases d40 : n = 40
  · rw [textsM, if_neg d32, if_neg d33, if_neg d34, if_neg d35, if_neg d36, if_neg d38, if_pos d40] at hres
    rw [← hs0] at hres
    simp [d32, d33, d34, d35, d36, d38, d40, e3, (q140 s0 (by omega)).go]
    by_cases hz : (parseR s0).2 = 0
    · rw [if_neg (by simp [hz])] at hres
      simp [hz, (q126 _).go, e2, b0, valA_agg]
      exact fin _ _ (1, (parseR s0).1) (by simp [e2]) ⟨_, by simp; rfl⟩ (by rw [hres]) (by rw [hres]; exact Cs.refl hA1 hX1 hC1)
    · rw [if_pos hz] at hres
      simp [hz, (q67 false).go, e2, b0, valA_agg, truV]
      exact fin _ _ (2, 0) (by simp [e2]) ⟨_, by simp; rfl⟩ (by rw [hres]) (by rw [hres]; exact Cs.refl hA1 hX1 hC1)
  have v0 := hv0 d34
  have ix0 : aindexAddr Tryz.prog 66 (.lst (vals l)) (int 0) = some ((valA (argV l 0)).cptr 0) := vals_at (i := 0) v0
  simp [d32, d33, d34, d35, d36, d38, d40, e0, gC, ix0]
  by_cases d37 : n = 37
  · rw [textsM, if_neg d32, if_neg d33, if_neg d34, if_neg d35, if_neg d36, if_neg d38, if_neg d40, if_pos d37] at hres
    obtain ⟨i, s, hi, hs, hsl⟩ := hsy d37
    have qn := q141 hA1 hs
    rw [hi] at hres
    simp only [Int.toNat_natCast, List.getD_eq_getElem?_getD, hs, Option.getD_some] at hres
    have hag : AV.agg [int 5, int i] = valA (5, (i : Int)) := rfl
    simp [d37]
    refine go_draw0 (by kernel_rfl) (by kernel_rfl) ?_
    simp [e0, gC, ix0, hi, hag, qn.go]
    refine goH_of (q138 hA1 hX1 hXC hC1 s hsl) ?_
    rintro _ m5 ⟨rfl, hcs⟩
    simp [got hcs, e2, valA_agg]
    exact fin _ _ _ (by simp [e2]) ⟨_, by simp; rfl⟩ (by rw [hres]) (by rw [hres]; exact hcs)
  by_cases d39 : n = 39
  · rw [textsM, if_neg d32, if_neg d33, if_neg d34, if_neg d35, if_neg d36, if_neg d38, if_neg d40, if_neg d37, if_pos d39] at hres
    simp [d37, d39, (q142 _).go, e0]
    refine goH_of (q138 hA1 hX1 hXC hC1 (txtR (argV l 0).2).1 (txtR_len _)) ?_
    rintro _ m5 ⟨rfl, hcs⟩
    simp [got hcs, e2, valA_agg]
    exact fin _ _ _ (by simp [e2]) ⟨_, by simp; rfl⟩ (by rw [hres]) (by rw [hres]; exact hcs)
  by_cases d42 : n = 42
  · rw [textsM, if_neg d32, if_neg d33, if_neg d34, if_neg d35, if_neg d36, if_neg d38, if_neg d40, if_neg d37, if_neg d39, if_pos d42] at hres
    simp [d37, d39, d42, (q135 _ _).go]
    cases hw : within (argV l 0).2 127 with
    | false =>
      rw [hw, if_neg (by decide)] at hres
      simp [e0]
      refine goH_of (q134 hC1 6) ?_
      rintro _ m5 ⟨rfl, hcs⟩
      have hcs := bad hcs
      simp [got hcs, e2, valA_agg]
      exact fin _ _ (0, 0) (by simp [e2]) ⟨_, by simp; rfl⟩ (by rw [hres]) (by rw [hres]; exact hcs)
    | true =>
      rw [hw, if_pos rfl] at hres
      simp [abuild, placesOf, fillAt, e2, b0]
      exact fin _ _ (3, (argV l 0).2) (by simp [e2]) ⟨_, by simp; rfl⟩ (by rw [hres]) (by rw [hres]; exact Cs.refl hA1 hX1 hC1)
  rw [textsM, if_neg d32, if_neg d33, if_neg d34, if_neg d35, if_neg d36, if_neg d38, if_neg d40, if_neg d37, if_neg d39, if_neg d42] at hres
  simp [d37, d39, d42, (q126 _).go, e2, b0, valA_agg]
  exact fin _ _ (1, (argV l 0).2) (by simp [e2]) ⟨_, by simp; rfl⟩ (by rw [hres]) (by rw [hres]; exact Cs.refl hA1 hX1 hC1)
end
end Go.Proofs.YtnhcmcfgemoehaaGreat

/- What any pure procedure does. -/
set_option linter.unusedSimpArgs false
set_option linter.unusedVariables false
set_option linter.unusedSectionVars false
namespace Go.Proofs.YtnhcmcfgemoehaaGreat
set_option maxRecDepth 4000
open Go.V
attribute [local simp] Nat.add_assoc
/-- Symbols' texts are no longer than may be. -/
def Named (a : ArM) : Prop := ∀ s ∈ a.names, s.length < 2 ^ 21
/-- A call that may be made. -/
structure Called (a : ArM) (n : Int) (l : List Val) : Prop where
  lo : 0 ≤ n
  hi : n ≤ 54
  cnt : countP n l.length
  eq : ∀ v ∈ l, equalM a v v = true
  gd : ∀ (i : Nat) v, l[i]? = some v → goodP a n v i = true
  ll : l.length ≤ 4096
theorem argV_some {l : List Val} {i : Nat} (h : i < l.length) : l[i]? = some (argV l i) := by
  rw [argV, List.getElem?_eq_getElem h]
theorem Called.good {a : ArM} {n : Int} {l : List Val} (h : Called a n l) {i : Nat} {v : Val} (hv : l[i]? = some v) : goodM a v = true := by
  have := h.eq v (List.mem_of_getElem? hv)
  unfold equalM at this
  rw [Bool.and_eq_true] at this
  exact this.1
theorem get_cell {a : ArM} {v : Val} (h : (getM a v).1.k ≠ 0) : ∃ (p : Nat) (c : CeM), v = (7, (p : Int)) ∧ a.cells[p]? = some c ∧ (getM a v).1 = c := by
  unfold getM at h ⊢
  cases hi : ixM a v with
  | none => rw [hi] at h; exact absurd rfl h
  | some i =>
    obtain ⟨hv, c, hc⟩ := ixM_some hi
    exact ⟨i, c, hv, hc, by simp [List.getD_eq_getElem?_getD, hc]⟩
theorem rw1 : (rowOf 1).2.1 = 1 ∧ (rowOf 1).2.2 = -1 := by unfold rowOf rws; simp
theorem rw3 : (rowOf 3).2.1 = 2 ∧ (rowOf 3).2.2 = 2 := by unfold rowOf rws; simp
theorem rw4 : (rowOf 4).2.1 = 2 ∧ (rowOf 4).2.2 = 2 := by unfold rowOf rws; simp
theorem rw5 : (rowOf 5).2.1 = 2 ∧ (rowOf 5).2.2 = 2 := by unfold rowOf rws; simp
theorem rw6 : (rowOf 6).2.1 = 1 ∧ (rowOf 6).2.2 = -1 := by unfold rowOf rws; simp
theorem rw7 : (rowOf 7).2.1 = 1 ∧ (rowOf 7).2.2 = -1 := by unfold rowOf rws; simp
theorem rw8 : (rowOf 8).2.1 = 1 ∧ (rowOf 8).2.2 = -1 := by unfold rowOf rws; simp
theorem rw9 : (rowOf 9).2.1 = 1 ∧ (rowOf 9).2.2 = -1 := by unfold rowOf rws; simp
theorem rw11 : (rowOf 11).2.1 = 1 ∧ (rowOf 11).2.2 = 1 := by unfold rowOf rws; simp
theorem rw12 : (rowOf 12).2.1 = 1 ∧ (rowOf 12).2.2 = 1 := by unfold rowOf rws; simp
theorem rw13 : (rowOf 13).2.1 = 2 ∧ (rowOf 13).2.2 = 2 := by unfold rowOf rws; simp
theorem rw14 : (rowOf 14).2.1 = 2 ∧ (rowOf 14).2.2 = 2 := by unfold rowOf rws; simp
theorem rw16 : (rowOf 16).2.1 = 1 ∧ (rowOf 16).2.2 = 1 := by unfold rowOf rws; simp
theorem rw17 : (rowOf 17).2.1 = 1 ∧ (rowOf 17).2.2 = 1 := by unfold rowOf rws; simp
theorem rw18 : (rowOf 18).2.1 = 2 ∧ (rowOf 18).2.2 = 2 := by unfold rowOf rws; simp
theorem rw19 : (rowOf 19).2.1 = 2 ∧ (rowOf 19).2.2 = 2 := by unfold rowOf rws; simp
theorem rw20 : (rowOf 20).2.1 = 1 ∧ (rowOf 20).2.2 = 1 := by unfold rowOf rws; simp
theorem rw21 : (rowOf 21).2.1 = 1 ∧ (rowOf 21).2.2 = 1 := by unfold rowOf rws; simp
theorem rw23 : (rowOf 23).2.1 = 1 ∧ (rowOf 23).2.2 = 1 := by unfold rowOf rws; simp
theorem rw25 : (rowOf 25).2.1 = 1 ∧ (rowOf 25).2.2 = 1 := by unfold rowOf rws; simp
theorem rw26 : (rowOf 26).2.1 = 2 ∧ (rowOf 26).2.2 = 2 := by unfold rowOf rws; simp
theorem rw28 : (rowOf 28).2.1 = 1 ∧ (rowOf 28).2.2 = 2 := by unfold rowOf rws; simp
theorem rw29 : (rowOf 29).2.1 = 2 ∧ (rowOf 29).2.2 = 2 := by unfold rowOf rws; simp
theorem rw30 : (rowOf 30).2.1 = 3 ∧ (rowOf 30).2.2 = 3 := by unfold rowOf rws; simp
theorem rw31 : (rowOf 31).2.1 = 1 ∧ (rowOf 31).2.2 = 1 := by unfold rowOf rws; simp
theorem rw32 : (rowOf 32).2.1 = 1 ∧ (rowOf 32).2.2 = 1 := by unfold rowOf rws; simp
theorem rw33 : (rowOf 33).2.1 = 2 ∧ (rowOf 33).2.2 = 2 := by unfold rowOf rws; simp
theorem rw35 : (rowOf 35).2.1 = 3 ∧ (rowOf 35).2.2 = 3 := by unfold rowOf rws; simp
theorem rw36 : (rowOf 36).2.1 = 2 ∧ (rowOf 36).2.2 = 2 := by unfold rowOf rws; simp
theorem rw37 : (rowOf 37).2.1 = 1 ∧ (rowOf 37).2.2 = 1 := by unfold rowOf rws; simp
theorem rw38 : (rowOf 38).2.1 = 1 ∧ (rowOf 38).2.2 = 1 := by unfold rowOf rws; simp
theorem rw39 : (rowOf 39).2.1 = 1 ∧ (rowOf 39).2.2 = 1 := by unfold rowOf rws; simp
theorem rw40 : (rowOf 40).2.1 = 1 ∧ (rowOf 40).2.2 = 1 := by unfold rowOf rws; simp
theorem rw41 : (rowOf 41).2.1 = 1 ∧ (rowOf 41).2.2 = 1 := by unfold rowOf rws; simp
theorem rw42 : (rowOf 42).2.1 = 1 ∧ (rowOf 42).2.2 = 1 := by unfold rowOf rws; simp
theorem rw43 : (rowOf 43).2.1 = 1 ∧ (rowOf 43).2.2 = 1 := by unfold rowOf rws; simp
theorem rw44 : (rowOf 44).2.1 = 1 ∧ (rowOf 44).2.2 = 1 := by unfold rowOf rws; simp
theorem rw45 : (rowOf 45).2.1 = 1 ∧ (rowOf 45).2.2 = 1 := by unfold rowOf rws; simp
theorem rw46 : (rowOf 46).2.1 = 1 ∧ (rowOf 46).2.2 = 1 := by unfold rowOf rws; simp
theorem rw47 : (rowOf 47).2.1 = 1 ∧ (rowOf 47).2.2 = 1 := by unfold rowOf rws; simp
theorem rw48 : (rowOf 48).2.1 = 1 ∧ (rowOf 48).2.2 = 1 := by unfold rowOf rws; simp
theorem rw49 : (rowOf 49).2.1 = 1 ∧ (rowOf 49).2.2 = 1 := by unfold rowOf rws; simp
theorem rw51 : (rowOf 51).2.1 = 1 ∧ (rowOf 51).2.2 = -1 := by unfold rowOf rws; simp
theorem rw52 : (rowOf 52).2.1 = 1 ∧ (rowOf 52).2.2 = -1 := by unfold rowOf rws; simp
theorem Called.c1 {a : ArM} {l : List Val} (h : Called a 1 l) : 1 ≤ l.length := by have := h.cnt.1; rw [rw1.1] at this; omega
theorem Called.c3 {a : ArM} {l : List Val} (h : Called a 3 l) : l.length = 2 := by have h1 := h.cnt.1; have h2 := h.cnt.2; rw [rw3.1] at h1; rw [rw3.2] at h2; omega
theorem Called.c4 {a : ArM} {l : List Val} (h : Called a 4 l) : l.length = 2 := by have h1 := h.cnt.1; have h2 := h.cnt.2; rw [rw4.1] at h1; rw [rw4.2] at h2; omega
theorem Called.c5 {a : ArM} {l : List Val} (h : Called a 5 l) : l.length = 2 := by have h1 := h.cnt.1; have h2 := h.cnt.2; rw [rw5.1] at h1; rw [rw5.2] at h2; omega
theorem Called.c6 {a : ArM} {l : List Val} (h : Called a 6 l) : 1 ≤ l.length := by have := h.cnt.1; rw [rw6.1] at this; omega
theorem Called.c7 {a : ArM} {l : List Val} (h : Called a 7 l) : 1 ≤ l.length := by have := h.cnt.1; rw [rw7.1] at this; omega
theorem Called.c8 {a : ArM} {l : List Val} (h : Called a 8 l) : 1 ≤ l.length := by have := h.cnt.1; rw [rw8.1] at this; omega
theorem Called.c9 {a : ArM} {l : List Val} (h : Called a 9 l) : 1 ≤ l.length := by have := h.cnt.1; rw [rw9.1] at this; omega
theorem Called.c11 {a : ArM} {l : List Val} (h : Called a 11 l) : l.length = 1 := by have h1 := h.cnt.1; have h2 := h.cnt.2; rw [rw11.1] at h1; rw [rw11.2] at h2; omega
theorem Called.c12 {a : ArM} {l : List Val} (h : Called a 12 l) : l.length = 1 := by have h1 := h.cnt.1; have h2 := h.cnt.2; rw [rw12.1] at h1; rw [rw12.2] at h2; omega
theorem Called.c13 {a : ArM} {l : List Val} (h : Called a 13 l) : l.length = 2 := by have h1 := h.cnt.1; have h2 := h.cnt.2; rw [rw13.1] at h1; rw [rw13.2] at h2; omega
theorem Called.c14 {a : ArM} {l : List Val} (h : Called a 14 l) : l.length = 2 := by have h1 := h.cnt.1; have h2 := h.cnt.2; rw [rw14.1] at h1; rw [rw14.2] at h2; omega
theorem Called.c16 {a : ArM} {l : List Val} (h : Called a 16 l) : l.length = 1 := by have h1 := h.cnt.1; have h2 := h.cnt.2; rw [rw16.1] at h1; rw [rw16.2] at h2; omega
theorem Called.c17 {a : ArM} {l : List Val} (h : Called a 17 l) : l.length = 1 := by have h1 := h.cnt.1; have h2 := h.cnt.2; rw [rw17.1] at h1; rw [rw17.2] at h2; omega
theorem Called.c18 {a : ArM} {l : List Val} (h : Called a 18 l) : l.length = 2 := by have h1 := h.cnt.1; have h2 := h.cnt.2; rw [rw18.1] at h1; rw [rw18.2] at h2; omega
theorem Called.c19 {a : ArM} {l : List Val} (h : Called a 19 l) : l.length = 2 := by have h1 := h.cnt.1; have h2 := h.cnt.2; rw [rw19.1] at h1; rw [rw19.2] at h2; omega
theorem Called.c20 {a : ArM} {l : List Val} (h : Called a 20 l) : l.length = 1 := by have h1 := h.cnt.1; have h2 := h.cnt.2; rw [rw20.1] at h1; rw [rw20.2] at h2; omega
theorem Called.c21 {a : ArM} {l : List Val} (h : Called a 21 l) : l.length = 1 := by have h1 := h.cnt.1; have h2 := h.cnt.2; rw [rw21.1] at h1; rw [rw21.2] at h2; omega
theorem Called.c23 {a : ArM} {l : List Val} (h : Called a 23 l) : l.length = 1 := by have h1 := h.cnt.1; have h2 := h.cnt.2; rw [rw23.1] at h1; rw [rw23.2] at h2; omega
theorem Called.c25 {a : ArM} {l : List Val} (h : Called a 25 l) : l.length = 1 := by have h1 := h.cnt.1; have h2 := h.cnt.2; rw [rw25.1] at h1; rw [rw25.2] at h2; omega
theorem Called.c26 {a : ArM} {l : List Val} (h : Called a 26 l) : l.length = 2 := by have h1 := h.cnt.1; have h2 := h.cnt.2; rw [rw26.1] at h1; rw [rw26.2] at h2; omega
theorem Called.c28 {a : ArM} {l : List Val} (h : Called a 28 l) : 1 ≤ l.length := by have := h.cnt.1; rw [rw28.1] at this; omega
theorem Called.c29 {a : ArM} {l : List Val} (h : Called a 29 l) : l.length = 2 := by have h1 := h.cnt.1; have h2 := h.cnt.2; rw [rw29.1] at h1; rw [rw29.2] at h2; omega
theorem Called.c30 {a : ArM} {l : List Val} (h : Called a 30 l) : l.length = 3 := by have h1 := h.cnt.1; have h2 := h.cnt.2; rw [rw30.1] at h1; rw [rw30.2] at h2; omega
theorem Called.c31 {a : ArM} {l : List Val} (h : Called a 31 l) : l.length = 1 := by have h1 := h.cnt.1; have h2 := h.cnt.2; rw [rw31.1] at h1; rw [rw31.2] at h2; omega
theorem Called.c32 {a : ArM} {l : List Val} (h : Called a 32 l) : l.length = 1 := by have h1 := h.cnt.1; have h2 := h.cnt.2; rw [rw32.1] at h1; rw [rw32.2] at h2; omega
theorem Called.c33 {a : ArM} {l : List Val} (h : Called a 33 l) : l.length = 2 := by have h1 := h.cnt.1; have h2 := h.cnt.2; rw [rw33.1] at h1; rw [rw33.2] at h2; omega
theorem Called.c35 {a : ArM} {l : List Val} (h : Called a 35 l) : l.length = 3 := by have h1 := h.cnt.1; have h2 := h.cnt.2; rw [rw35.1] at h1; rw [rw35.2] at h2; omega
theorem Called.c36 {a : ArM} {l : List Val} (h : Called a 36 l) : l.length = 2 := by have h1 := h.cnt.1; have h2 := h.cnt.2; rw [rw36.1] at h1; rw [rw36.2] at h2; omega
theorem Called.c37 {a : ArM} {l : List Val} (h : Called a 37 l) : l.length = 1 := by have h1 := h.cnt.1; have h2 := h.cnt.2; rw [rw37.1] at h1; rw [rw37.2] at h2; omega
theorem Called.c38 {a : ArM} {l : List Val} (h : Called a 38 l) : l.length = 1 := by have h1 := h.cnt.1; have h2 := h.cnt.2; rw [rw38.1] at h1; rw [rw38.2] at h2; omega
theorem Called.c39 {a : ArM} {l : List Val} (h : Called a 39 l) : l.length = 1 := by have h1 := h.cnt.1; have h2 := h.cnt.2; rw [rw39.1] at h1; rw [rw39.2] at h2; omega
theorem Called.c40 {a : ArM} {l : List Val} (h : Called a 40 l) : l.length = 1 := by have h1 := h.cnt.1; have h2 := h.cnt.2; rw [rw40.1] at h1; rw [rw40.2] at h2; omega
theorem Called.c41 {a : ArM} {l : List Val} (h : Called a 41 l) : l.length = 1 := by have h1 := h.cnt.1; have h2 := h.cnt.2; rw [rw41.1] at h1; rw [rw41.2] at h2; omega
theorem Called.c42 {a : ArM} {l : List Val} (h : Called a 42 l) : l.length = 1 := by have h1 := h.cnt.1; have h2 := h.cnt.2; rw [rw42.1] at h1; rw [rw42.2] at h2; omega
theorem Called.c43 {a : ArM} {l : List Val} (h : Called a 43 l) : l.length = 1 := by have h1 := h.cnt.1; have h2 := h.cnt.2; rw [rw43.1] at h1; rw [rw43.2] at h2; omega
theorem Called.c44 {a : ArM} {l : List Val} (h : Called a 44 l) : l.length = 1 := by have h1 := h.cnt.1; have h2 := h.cnt.2; rw [rw44.1] at h1; rw [rw44.2] at h2; omega
theorem Called.c45 {a : ArM} {l : List Val} (h : Called a 45 l) : l.length = 1 := by have h1 := h.cnt.1; have h2 := h.cnt.2; rw [rw45.1] at h1; rw [rw45.2] at h2; omega
theorem Called.c46 {a : ArM} {l : List Val} (h : Called a 46 l) : l.length = 1 := by have h1 := h.cnt.1; have h2 := h.cnt.2; rw [rw46.1] at h1; rw [rw46.2] at h2; omega
theorem Called.c47 {a : ArM} {l : List Val} (h : Called a 47 l) : l.length = 1 := by have h1 := h.cnt.1; have h2 := h.cnt.2; rw [rw47.1] at h1; rw [rw47.2] at h2; omega
theorem Called.c48 {a : ArM} {l : List Val} (h : Called a 48 l) : l.length = 1 := by have h1 := h.cnt.1; have h2 := h.cnt.2; rw [rw48.1] at h1; rw [rw48.2] at h2; omega
theorem Called.c49 {a : ArM} {l : List Val} (h : Called a 49 l) : l.length = 1 := by have h1 := h.cnt.1; have h2 := h.cnt.2; rw [rw49.1] at h1; rw [rw49.2] at h2; omega
theorem Called.c51 {a : ArM} {l : List Val} (h : Called a 51 l) : 1 ≤ l.length := by have := h.cnt.1; rw [rw51.1] at this; omega
theorem Called.c52 {a : ArM} {l : List Val} (h : Called a 52 l) : 1 ≤ l.length := by have := h.cnt.1; rw [rw52.1] at this; omega
/-- What a procedure of pairs and lists makes. -/
def listsR (a : ArM) (n : Int) (l : List Val) : Val × ArM × Int :=
  if n = 15 then allocC a 0 ⟨1, 0, l, []⟩ else if n = 16 then (carM a (argV l 0), a, 0) else if n = 17 then (cdrM a (argV l 0), a, 0)
  else if n = 18 then ((2, 0), putA a (argV l 0).2.toNat (getM a (argV l 0)).1 0 (argV l 1), 0)
  else if n = 19 then ((2, 0), putA a (argV l 0).2.toNat (getM a (argV l 0)).1 1 (argV l 1), 0)
  else if n = 22 then aheadM a 0 (4, 0) l
  else if n = 23 then ((1, ((listM a 1024 (argV l 0)).1.length : Int)), a, (listM a 1024 (argV l 0)).2)
  else if n = 25 then aheadM a (listM a 1024 (argV l 0)).2 (4, 0) (listM a 1024 (argV l 0)).1.reverse
  else if n = 26 then ((listRefM a 0 (argV l 0) (argV l 1).2).1, a, (listRefM a 0 (argV l 0) (argV l 1).2).2)
  else appendM a l
section
variable {X : Nat → Prop} {A C : Nat} {a : ArM} {n : Int} {l : List Val} {m : Mem}
theorem pair_here (hp : Pairs a) (hc : Called a n l) (h1 : 1 ≤ l.length) (hn : 16 ≤ n ∧ n ≤ 19) : ∃ (p : Nat) (c : CeM), argV l 0 = (7, (p : Int)) ∧ a.cells[p]? = some c ∧ (getM a (argV l 0)).1 = c ∧ c.k = 1 ∧ c.a = [carM a (argV l 0), cdrM a (argV l 0)] := by
  have hg := hc.gd 0 _ (argV_some (l := l) (i := 0) (by omega))
  have hk : (getM a (argV l 0)).1.k = 1 := by
    unfold goodP at hg
    rw [if_neg (by omega), if_neg (by omega), if_neg (by omega), if_neg (by omega), if_pos hn] at hg
    simpa using hg
  obtain ⟨p, c, h1, h2, h3⟩ := get_cell (a := a) (v := argV l 0) (by omega)
  have := hp.get hk
  rw [h3] at hk this
  exact ⟨p, c, h1, h2, h3, hk, this⟩
theorem q70 (hA : Ar X A a m) (hX : ∀ j, X j → j < m.next) (hsm : Small a) (hp : Pairs a) (hXC : ¬ X C) (hC : has m C (clC A n l 0)) (hc : Called a n l) (hn : n = 15 ∨ n = 16 ∨ n = 17 ∨ n = 18 ∨ n = 19 ∨ n = 22 ∨ n = 23 ∨ n = 24 ∨ n = 25 ∨ n = 26) : wph Tryz.prog ca (.func 70) [.ptr C 0] m fun r m' => r = valA (listsR a n l).1 ∧ Cs X A C n l (listsR a n l).2.1 (listsR a n l).2.2 m m' := by
  have s0 : 0 < l.length → l[0]? = some (argV l 0) := fun h => argV_some h
  have s1 : 1 < l.length → l[1]? = some (argV l 1) := fun h => argV_some h
  rcases hn with rfl | rfl | rfl | rfl | rfl | rfl | rfl | rfl | rfl | rfl
  · exact q70_15 hA hX hsm hp hXC hC hc.ll rfl
  · have k := hc.c16
    obtain ⟨p, c, h1, h2, h3, h4, h5⟩ := pair_here hp hc (by omega) ⟨by omega, by omega⟩
    exact q70_16 hA hX hsm hp hXC hC (s0 (by omega)) (by rw [h3]; exact h5) rfl
  · have k := hc.c17
    obtain ⟨p, c, h1, h2, h3, h4, h5⟩ := pair_here hp hc (by omega) ⟨by omega, by omega⟩
    exact q70_17 hA hX hsm hp hXC hC (s0 (by omega)) (by rw [h3]; exact h5) rfl
  · have k := hc.c18
    obtain ⟨p, c, h1, h2, h3, h4, h5⟩ := pair_here hp hc (by omega) ⟨by omega, by omega⟩
    refine q70_18 hA hX hsm hp hXC hC (by rw [← h1]; exact s0 (by omega)) (s1 (by omega)) h2 h4 (by rw [h5]; rfl) (hc.good (s1 (by omega))) ?_
    have h3' : (getM a (7, (p : Int))).1 = c := by rw [← h1]; exact h3
    simp [listsR, h1, h3']
  · have k := hc.c19
    obtain ⟨p, c, h1, h2, h3, h4, h5⟩ := pair_here hp hc (by omega) ⟨by omega, by omega⟩
    refine q70_19 hA hX hsm hp hXC hC (by rw [← h1]; exact s0 (by omega)) (s1 (by omega)) h2 h4 (by rw [h5]; rfl) (hc.good (s1 (by omega))) ?_
    have h3' : (getM a (7, (p : Int))).1 = c := by rw [← h1]; exact h3
    simp [listsR, h1, h3']
  · exact q70_22 hA hX hsm hp hXC hC hc.ll rfl
  · have k := hc.c23
    exact q70_23 hA hX hsm hp hXC hC (s0 (by omega)) rfl
  · exact q70_24 hA hX hsm hp hXC hC hc.ll rfl
  · have k := hc.c25
    exact q70_25 hA hX hsm hp hXC hC (s0 (by omega)) rfl
  · have k := hc.c26
    exact q70_26 hA hX hsm hp hXC hC (s0 (by omega)) (s1 (by omega)) rfl
theorem q71' (hA : Ar X A a m) (hX : ∀ j, X j → j < m.next) (hsm : Small a) (hXC : ¬ X C) (hC : has m C (clC A n l 0)) (hc : Called a n l) (hn : n = 27 ∨ n = 28 ∨ n = 29 ∨ n = 30 ∨ n = 31) : wph Tryz.prog ca (.func 71) [.ptr C 0] m fun v m' => v = valA (vecsM a n l).1 ∧ Cs X A C n l (vecsM a n l).2.1 (vecsM a n l).2.2 m m' := by
  refine q71 hA hX hsm hXC hC hc.ll (fun h => ?_) (fun h => ?_) hn (fun h => ?_)
  · refine argV_some ?_
    rcases hn with rfl | rfl | rfl | rfl | rfl
    · exact absurd rfl h
    · have := hc.c28; omega
    · have := hc.c29; omega
    · have := hc.c30; omega
    · have := hc.c31; omega
  · refine argV_some ?_
    rcases h with rfl | rfl
    · have := hc.c29; omega
    · have := hc.c30; omega
  · subst h
    have k := hc.c30
    have h2 := argV_some (l := l) (i := 2) (by omega)
    refine ⟨h2, hc.good h2, ?_⟩
    have hg := hc.gd 0 _ (argV_some (l := l) (i := 0) (by omega))
    have hk : (getM a (argV l 0)).1.k = 2 := by
      unfold goodP at hg
      simpa using hg
    obtain ⟨p, c, h1, h2, h3⟩ := get_cell (a := a) (v := argV l 0) (by omega)
    exact ⟨p, h1, c, h2, by rw [← h3]; exact hk⟩
theorem q72' (hA : Ar X A a m) (hX : ∀ j, X j → j < m.next) (hsm : Small a) (hnm : Named a) (hXC : ¬ X C) (hC : has m C (clC A n l 0)) (hc : Called a n l) (hn : 32 ≤ n ∧ n ≤ 42) : wph Tryz.prog ca (.func 72) [.ptr C 0] m fun v m' => v = valA (textsM a n l).1 ∧ Cs X A C n l (textsM a n l).2.1 (textsM a n l).2.2 m m' := by
  have cs : n = 32 ∨ n = 33 ∨ n = 34 ∨ n = 35 ∨ n = 36 ∨ n = 37 ∨ n = 38 ∨ n = 39 ∨ n = 40 ∨ n = 41 ∨ n = 42 := by omega
  refine q72 hA hX hsm hXC hC hc.ll (fun h => ?_) (fun h => ?_) (fun h => ?_) (fun h => ?_)
  · refine argV_some ?_
    rcases cs with rfl | rfl | rfl | rfl | rfl | rfl | rfl | rfl | rfl | rfl | rfl
    · have := hc.c32; omega
    · have := hc.c33; omega
    · exact absurd rfl h
    · have := hc.c35; omega
    · have := hc.c36; omega
    · have := hc.c37; omega
    · have := hc.c38; omega
    · have := hc.c39; omega
    · have := hc.c40; omega
    · have := hc.c41; omega
    · have := hc.c42; omega
  · refine argV_some ?_
    rcases h with rfl | rfl | rfl
    · have := hc.c33; omega
    · have := hc.c35; omega
    · have := hc.c36; omega
  · subst h
    have := hc.c35
    exact argV_some (by omega)
  · subst h
    have k := hc.c37
    have h0 := argV_some (l := l) (i := 0) (by omega)
    have hg := hc.gd 0 _ h0
    have h5 : (argV l 0).1 = 5 := by
      unfold goodP at hg
      simpa using hg
    have hgm := hc.good h0
    obtain ⟨⟨vt, vn⟩, hv⟩ : ∃ v, v = argV l 0 := ⟨_, rfl⟩
    rw [← hv] at h5 hgm ⊢
    simp only at h5
    subst h5
    have hb : below vn a.names.length = true := by simpa [goodM] using hgm
    simp [below] at hb
    obtain ⟨s, hs⟩ : ∃ s, a.names[vn.toNat]? = some s := ⟨_, List.getElem?_eq_getElem (by omega)⟩
    exact ⟨vn.toNat, s, by rw [Int.toNat_of_nonneg hb.1], hs, hnm s (List.mem_of_getElem? hs)⟩
/-- What any pure procedure makes. -/
def doR (a : ArM) (n : Int) (l : List Val) : Val × ArM × Int :=
  if 50 ≤ n ∨ n ≤ 5 then (numV (reckR n l).1 (reckR n l).2, a, kdOf (reckR n l).2)
  else if n ≤ 10 then (truV (holdsM n l), a, 0)
  else if (43 ≤ n ∧ n ≤ 49) ∨ n = 20 ∨ n = 21 ∨ n = 12 ∨ n = 11 then (truV (asksM a n (argV l 0)), a, 0)
  else if n = 13 then (truV (decide (argV l 0 = argV l 1)), a, 0)
  else if n = 14 then (truV (equalM a (argV l 0) (argV l 1)), a, 0)
  else if n ≤ 26 then listsR a n l
  else if n ≤ 31 then vecsM a n l
  else textsM a n l
set_option maxRecDepth 20000 in
set_option maxHeartbeats 16000000 in
theorem q39' (hA : Ar X A a m) (hX : ∀ j, X j → j < m.next) (hsm : Small a) (hp : Pairs a) (hnm : Named a) (hXC : ¬ X C) (hC : has m C (clC A n l 0)) (hc : Called a n l) : wph Tryz.prog ca (.func 39) [.ptr C 0] m fun r m' => r = valA (doR a n l).1 ∧ Cs X A C n l (doR a n l).2.1 (doR a n l).2.2 m m' := by
  have hll := hc.ll
  have h54 := hc.hi
  have h00 := hc.lo
  have hCl := hC.1
  refine wph_go Tryz.func39 rfl rfl (by simp [Tryz.f39]) (by simp [Tryz.f39]) fun Q hQ => ?_
  simp only [Tryz.f39, show ca.keepRes 39 = false from rfl, show ca.keepArgs 39 = false from rfl] at hQ ⊢
  have ln : ∀ (R : TypeId) (m : Mem), abuiltin Tryz.prog .len #[66] R [.lst (vals l)] m = some (int l.length, m) := fun R m => by rw [alen_lst Tryz.underlying66]; simp
  obtain ⟨M1, hM1⟩ : ∃ M1, M1 = m.new [int 0, int 0] false := ⟨_, rfl⟩
  have k1 : Kp m M1 := by rw [hM1]; simp
  have n1 : M1.next = m.next + 1 := by rw [hM1]; simp
  have b0 : M1.get m.next = some (.cells [int 0, int 0] false (m.clock + 1)) := by rw [hM1]; simp
  have hA1 := hA.kp k1
  have hX1 : ∀ j, X j → j < M1.next := fun j h => by have := hX j h; omega
  have hC1 := hC.kp k1
  obtain ⟨_, w, gC⟩ := id hC1
  obtain ⟨_, w', gC0⟩ := id hC
  have c0 : C ≠ m.next := by omega
  obtain ⟨res, hres⟩ : ∃ res, res = doR a n l := ⟨_, rfl⟩
  rw [← hres] at hQ
  have fin : ∀ (s' : Sl) (m5 : Mem) (v : Val), s'.at 2 = .ptr m.next 0 → (∃ w, (m5.set m.next [int v.1, int v.2]).get m.next = some (.cells [int v.1, int v.2] false w)) → res.1 = v → Cs X A C n l res.2.1 res.2.2 M1 m5 → Q .ret s' (m5.set m.next [int v.1, int v.2]) := by
    intro s' m5 v h6 ⟨w, hg⟩ hv hcs
    refine hQ _ _ _ ?_
    rw [leave_ret]
    refine ⟨[valA v], by simp [aresult, h6, hg, aload, partOf, valA_agg], ?_⟩
    simp only [Bool.false_eq_true, if_false, oneOf, fzr_valA, hv]
    exact ⟨trivial, Cs.box k1 hX hCl hcs (by omega) (by omega) _⟩
  have got : ∀ {m5 : Mem} {a' : ArM} {k' : Int}, Cs X A C n l a' k' M1 m5 → m5.get m.next = some (.cells [int 0, int 0] false (m.clock + 1)) := fun {m5 a' k'} hcs => by
    obtain ⟨X', _, _, kc5, _⟩ := id hcs
    exact (kc5.get m.next (by omega) (fun h => by rcases h with h | h; have := hX _ h; omega; omega)).trans b0
  have bad : ∀ {m5 : Mem}, KpC (fun j => j = C) M1 m5 ∧ has m5 C (clC A n l (failK 0 6)) → Cs X A C n l a 6 M1 m5 := fun {m5} h => Cs.of_c hA1 hX1 hXC h.1 h.2
  simp [gC0, c0]
  rw [← hM1]
  clear hM1
  have hne : n = 1 ∨ n = 51 ∨ n = 52 → l ≠ [] := by
    rintro h rfl
    rcases h with rfl | rfl | rfl
    · have := hc.c1; simp at this
    · have := hc.c51; simp at this
    · have := hc.c52; simp at this
  by_cases r1 : 50 ≤ n
  · rw [doR, if_pos (.inl r1)] at hres
    simp [h54, r1]
    refine goH_of (q66 hC1 hll hne) ?_
    rintro _ m5 ⟨rfl, kc, hc5⟩
    have hcs := Cs.of_c hA1 hX1 hXC kc hc5
    simp [got hcs, valA_agg]
    exact fin _ _ _ (by simp) ⟨_, by simp; rfl⟩ (by rw [hres]) (by rw [hres]; exact hcs)
  by_cases r2 : n ≤ 5
  · rw [doR, if_pos (.inr r2)] at hres
    simp [h54, r1, r2]
    refine goH_of (q66 hC1 hll hne) ?_
    rintro _ m5 ⟨rfl, kc, hc5⟩
    have hcs := Cs.of_c hA1 hX1 hXC kc hc5
    simp [got hcs, valA_agg]
    exact fin _ _ _ (by simp) ⟨_, by simp; rfl⟩ (by rw [hres]) (by rw [hres]; exact hcs)
  rw [doR, if_neg (by omega)] at hres
  by_cases r3 : n ≤ 10
  · rw [if_pos r3] at hres
    simp [h54, r1, r2, r3, (q68 hC1 hll).go, (q67 _).go, b0, valA_agg]
    exact fin _ _ (truV (holdsM n l)) (by simp) ⟨_, by simp; rfl⟩ (by rw [hres]) (by rw [hres]; exact Cs.refl hA1 hX1 hC1)
  rw [if_neg r3] at hres
  have one : (43 ≤ n ∧ n ≤ 49) ∨ n = 20 ∨ n = 21 ∨ n = 12 ∨ n = 11 → aindexAddr Tryz.prog 66 (.lst (vals l)) (int 0) = some ((valA (argV l 0)).cptr 0) := by
    intro h
    refine vals_at (i := 0) (argV_some ?_)
    rcases h with h | rfl | rfl | rfl | rfl
    · have cs : n = 43 ∨ n = 44 ∨ n = 45 ∨ n = 46 ∨ n = 47 ∨ n = 48 ∨ n = 49 := by omega
      rcases cs with rfl | rfl | rfl | rfl | rfl | rfl | rfl
      · have := hc.c43; omega
      · have := hc.c44; omega
      · have := hc.c45; omega
      · have := hc.c46; omega
      · have := hc.c47; omega
      · have := hc.c48; omega
      · have := hc.c49; omega
    · have := hc.c20; omega
    · have := hc.c21; omega
    · have := hc.c12; omega
    · have := hc.c11; omega
  have q69a := q69 hA1 hsm hC1 (argV l 0)
  by_cases r4 : 43 ≤ n
  · have r4' : n ≤ 49 := by omega
    rw [if_pos (.inl ⟨r4, r4'⟩)] at hres
    have ix := one (.inl ⟨r4, r4'⟩)
    simp [h54, r1, r2, r3, r4, r4', gC, ix, valA_agg, q69a.go, (q67 _).go, b0]
    exact fin _ _ (truV (asksM a n (argV l 0))) (by simp) ⟨_, by simp; rfl⟩ (by rw [hres]) (by rw [hres]; exact Cs.refl hA1 hX1 hC1)
  by_cases s20 : n = 20
  · rw [if_pos (.inr (.inl s20))] at hres
    have ix := one (.inr (.inl s20))
    simp [h54, r1, r2, r3, r4, undefV, undef, s20, gC, ix, valA_agg, q69a.go, (q67 _).go, b0]
    exact fin _ _ _ (by simp) ⟨_, by simp; rfl⟩ (by rw [hres, s20]) (by rw [hres]; exact Cs.refl hA1 hX1 hC1)
  by_cases s21 : n = 21
  · rw [if_pos (.inr (.inr (.inl s21)))] at hres
    have ix := one (.inr (.inr (.inl s21)))
    simp [h54, r1, r2, r3, r4, undefV, undef, s20, s21, gC, ix, valA_agg, q69a.go, (q67 _).go, b0]
    exact fin _ _ _ (by simp) ⟨_, by simp; rfl⟩ (by rw [hres, s21]) (by rw [hres]; exact Cs.refl hA1 hX1 hC1)
  by_cases s12 : n = 12
  · rw [if_pos (.inr (.inr (.inr (.inl s12))))] at hres
    have ix := one (.inr (.inr (.inr (.inl s12))))
    simp [h54, r1, r2, r3, r4, undefV, undef, s20, s21, s12, gC, ix, valA_agg, q69a.go, (q67 _).go, b0]
    exact fin _ _ _ (by simp) ⟨_, by simp; rfl⟩ (by rw [hres, s12]) (by rw [hres]; exact Cs.refl hA1 hX1 hC1)
  by_cases s11 : n = 11
  · rw [if_pos (.inr (.inr (.inr (.inr s11))))] at hres
    have ix := one (.inr (.inr (.inr (.inr s11))))
    simp [h54, r1, r2, r3, r4, undefV, undef, s20, s21, s12, s11, gC, ix, valA_agg, q69a.go, (q67 _).go, b0]
    exact fin _ _ _ (by simp) ⟨_, by simp; rfl⟩ (by rw [hres, s11]) (by rw [hres]; exact Cs.refl hA1 hX1 hC1)
  rw [if_neg (by omega)] at hres
  by_cases s13 : n = 13
  · rw [if_pos s13] at hres
    have k : l.length = 2 := by subst s13; exact hc.c13
    have ix0 : aindexAddr Tryz.prog 66 (.lst (vals l)) (int 0) = some ((valA (argV l 0)).cptr 0) := vals_at (i := 0) (argV_some (by omega))
    have ix1 : aindexAddr Tryz.prog 66 (.lst (vals l)) (int 1) = some ((valA (argV l 1)).cptr 0) := vals_at (i := 1) (argV_some (by omega))
    simp [h54, r1, r2, r3, r4, undefV, undef, s20, s21, s12, s11, s13]
    refine go_draw0 (by kernel_rfl) (by kernel_rfl) ?_
    simp [gC, ix0, ix1, valA_agg, val_eq, (q67 _).go, b0]
    exact fin _ _ (truV (decide (argV l 0 = argV l 1))) (by simp) ⟨_, by simp; rfl⟩ (by rw [hres]) (by rw [hres]; exact Cs.refl hA1 hX1 hC1)
  rw [if_neg s13] at hres
  by_cases s14 : n = 14
  · rw [if_pos s14] at hres
    have k : l.length = 2 := by subst s14; exact hc.c14
    have ix0 : aindexAddr Tryz.prog 66 (.lst (vals l)) (int 0) = some ((valA (argV l 0)).cptr 0) := vals_at (i := 0) (argV_some (by omega))
    have ix1 : aindexAddr Tryz.prog 66 (.lst (vals l)) (int 1) = some ((valA (argV l 1)).cptr 0) := vals_at (i := 1) (argV_some (by omega))
    have qe := q24 hA1 hsm (argV l 0) (argV l 1)
    simp [h54, r1, r2, r3, r4, undefV, undef, s20, s21, s12, s11, s13, s14]
    refine go_draw0 (by kernel_rfl) (by kernel_rfl) ?_
    simp [gC, ix0, ix1, valA_agg, qe.go, (q67 _).go, b0]
    exact fin _ _ (truV (equalM a (argV l 0) (argV l 1))) (by simp) ⟨_, by simp; rfl⟩ (by rw [hres]) (by rw [hres]; exact Cs.refl hA1 hX1 hC1)
  rw [if_neg s14] at hres
  by_cases r5 : n ≤ 26
  · rw [if_pos r5] at hres
    simp [h54, r1, r2, r3, r4, undefV, undef, s20, s21, s12, s11, s13, s14, r5]
    refine goH_of (q70 hA1 hX1 hsm hp hXC hC1 hc (by omega)) ?_
    rintro _ m5 ⟨rfl, hcs⟩
    simp [got hcs, valA_agg]
    exact fin _ _ _ (by simp) ⟨_, by simp; rfl⟩ (by rw [hres]) (by rw [hres]; exact hcs)
  rw [if_neg r5] at hres
  by_cases r6 : n ≤ 31
  · rw [if_pos r6] at hres
    simp [h54, r1, r2, r3, r4, undefV, undef, s20, s21, s12, s11, s13, s14, r5, r6]
    refine goH_of (q71' hA1 hX1 hsm hXC hC1 hc (by omega)) ?_
    rintro _ m5 ⟨rfl, hcs⟩
    simp [got hcs, valA_agg]
    exact fin _ _ _ (by simp) ⟨_, by simp; rfl⟩ (by rw [hres]) (by rw [hres]; exact hcs)
  rw [if_neg r6] at hres
  simp [h54, r1, r2, r3, r4, undefV, undef, s20, s21, s12, s11, s13, s14, r5, r6]
  refine goH_of (q72' hA1 hX1 hsm hnm hXC hC1 hc (by omega)) ?_
  rintro _ m5 ⟨rfl, hcs⟩
  simp [got hcs, valA_agg]
  exact fin _ _ _ (by simp) ⟨_, by simp; rfl⟩ (by rw [hres]) (by rw [hres]; exact hcs)
end
/-- A procedure, called with anything. -/
theorem row_in {n : Int} (h1 : (rowOf n).1 ≠ []) (h2 : ¬ 64 ≤ n) : 0 ≤ n ∧ n ≤ 54 := by
  by_cases h0 : n < 0
  · rw [rowOf_out (.inl h0)] at h1
    exact absurd rfl h1
  refine ⟨by omega, ?_⟩
  rw [← Int.not_lt]
  intro h54
  apply h1
  have cs : n = 55 ∨ n = 56 ∨ n = 57 ∨ n = 58 ∨ n = 59 ∨ n = 60 ∨ n = 61 ∨ n = 62 ∨ n = 63 := by omega
  rcases cs with rfl | rfl | rfl | rfl | rfl | rfl | rfl | rfl | rfl <;> (unfold rowOf rws; simp)
theorem doAll {X : Nat → Prop} {A : Nat} {a : ArM} {n : Int} {l : List Val} {m : Mem} (hA : Ar X A a m) (hX : ∀ j, X j → j < m.next) (hsm : Small a) (hp : Pairs a) (hnm : Named a) (hll : l.length ≤ 4096) : wph Tryz.prog ca (.func 22) [.ptr A 0, int n, .lst (vals l)] m fun v m' => v = .tup [valA (doM a n l (doR a n l)).1, int (doM a n l (doR a n l)).2.2] ∧ Up X A (doM a n l (doR a n l)).2.1 m m' := by
  refine q22 hA hX hsm hll fun h1 h2 h3 h4 h5 m1 C hA1 hX1 hXC hC => ?_
  have hlo : 0 ≤ n ∧ n ≤ 54 := row_in h1 h2
  exact q39' hA1 hX1 hsm hp hnm hXC hC ⟨hlo.1, hlo.2, h3, h4, h5, hll⟩
end Go.Proofs.YtnhcmcfgemoehaaGreat

/- All cells of an arena; whether two are the same. -/
set_option linter.unusedSimpArgs false
set_option linter.unusedVariables false
set_option linter.unusedSectionVars false
namespace Go.Proofs.YtnhcmcfgemoehaaGreat
set_option maxRecDepth 4000
open Go.V
attribute [local simp] Nat.add_assoc
def cels (l : List CeM) : List AV := l.map ceA
@[simp] theorem cels_length (l : List CeM) : (cels l).length = l.length := by simp [cels]
theorem cels_get (l : List CeM) (i : Nat) : (cels l)[i]? = (l[i]?).map ceA := by simp [cels]
theorem cels_append (l r : List CeM) : cels (l ++ r) = cels l ++ cels r := by simp [cels]
theorem cels_ok : ∀ l : List CeM, okAll 4 (cels l) = true
  | [] => rfl
  | v :: l => by
    have := cels_ok l
    unfold cels at *
    rw [List.map_cons, okAll_cons, this]; simp
theorem cels_row (l : List CeM) : ∀ y ∈ cels l, y.cells.length = 4 ∧ (if true then AV.agg y.cells = y else y.cells = [y]) := by
  intro y hy
  obtain ⟨p, _, rfl⟩ := List.mem_map.1 hy
  simp [ceA]
@[simp] theorem cels_fzvs (m : Mem) : ∀ l : List CeM, fzvs m (cels l) = (cels l, m)
  | [] => rfl
  | v :: l => by
    have := cels_fzvs m l
    unfold cels at *
    simp [fzvs, this]
@[simp] theorem cels_bels (n : Nat) : ∀ l : List CeM, AV.bels n (cels l) = true
  | [] => rfl
  | v :: l => by
    have := cels_bels n l
    unfold cels at *
    simp [AV.bels, this]
theorem cels_at {l : List CeM} {i : Nat} {c : CeM} (h : l[i]? = some c) : aindexAddr Tryz.prog 74 (.lst (cels l)) (int i) = some ((ceA c).cptr 0) := aindexAddr_lst (P := Tryz.prog) (q := .i64) Tryz.underlying74 tsize78 (by rw [cels_get, h]; rfl) (by simp)
section
variable {X : Nat → Prop} {A : Nat} {a : ArM} {m : Mem}
theorem fz_cels {m0 m : Mem} {l : List CeM} {x : AV} (h : Acc m0 m 4 true (cels l) x) (hk : Kp m0 m) : ∃ m', fzr m x = (.lst (cels l), m') ∧ Kp m0 m' := by
  have lv : Lv m0 m 4 true (cels l) x := by
    rcases h with ⟨h1, h2⟩ | ⟨h, id, w, h1, h2, h3, h4⟩
    · exact .inl ⟨0, by omega, h1, h2⟩
    · exact .inr (.inr ⟨id, w, none, h1, h2, h3, h4⟩)
  obtain ⟨m', e1, e2⟩ := lv.fz rfl (cels_row l) (cels_ok l)
  have ex : fzr m x = fz1 m x := by rcases h with ⟨_, rfl⟩ | ⟨_, id, w, rfl, _⟩ <;> rfl
  exact ⟨m', ex.trans e1, kpc_kp e2 hk fun j hj => (lv.lt j hj).1⟩
set_option maxHeartbeats 4000000 in
theorem q29 (hA : Ar X A a m) (hsm : Small a) : EH Tryz.prog ca (.func 29) [.ptr A 0] m (.lst (cels a.cells)) m := by
  have sn := hA.sane
  refine eh_run Tryz.func29 rfl rfl rfl rfl (args1 := [.ptr A 0]) (m1 := m) (by simp) (by simp [AV.bel]) (by simp [Tryz.f29]) (by simp [Tryz.f29]) ?_
  simp only [Tryz.f29, show ca.keepRes 29 = false from rfl]
  simp [(q55 hA).go]
  refine go_count 15 a.cells.length (fun i s' m' => Kp m m' ∧ Acc m m' 4 true (cels (a.cells.take i)) (s'.at 3)) (by simp) (by omega) ⟨.refl _, .inl ⟨by simp [cels], by simp⟩⟩ ?_
  rintro i s' m' hi e15 ⟨hkp, hacc⟩ hsame hw Q' hn he
  have e0 : s'.at 0 = .ptr A 0 := (hsame 0 (by kernel_rfl)).trans (by simp)
  have e14 : s'.at 14 = int a.cells.length := (hsame 14 (by kernel_rfl)).trans (by simp)
  clear hsame
  simp [e15, e14]
  refine goB_split (fun h => ?_) fun h => ?_
  · have hlt : i < a.cells.length := by simpa using h
    obtain ⟨c, hc⟩ : ∃ c, a.cells[i]? = some c := ⟨_, List.getElem?_eq_getElem hlt⟩
    have hg : getM a (7, (i : Int)) = (c, 0) := by rw [getM, ixM_at hc]; simp [List.getD_eq_getElem?_getD, hc]
    have q := q57 (hA.kp hkp) hsm (7, (i : Int))
    rw [hg] at q
    have hag : AV.agg [int 7, int i] = valA (7, (i : Int)) := rfl
    obtain ⟨M2, hM2⟩ : ∃ M2, M2 = (m'.new [int 0, int 0, .emp 0, .emp 0] false).set m'.next [int c.k, int c.n, .lst (vals c.a), .lst (byts c.s)] := ⟨_, rfl⟩
    have kM : Kp m' M2 := by rw [hM2]; simp
    have nM : M2.next = m'.next + 1 := by rw [hM2]; simp
    have gc : M2.get m'.next = some (.cells [int c.k, int c.n, .lst (vals c.a), .lst (byts c.s)] false (m'.clock + 2)) := by rw [hM2]; simp
    have hsrc := src_one (m := M2.new (ceA c).cells false) (id := M2.next) (c := some 1) (k := 4) (ag := true) (x := ceA c) (w := M2.clock + 1) (f := false) rfl (by simp) (by simp) (by simp [ceA])
    obtain ⟨v3, m6, p1, p2, p3, p4⟩ := acc_any (T := 74) (m := M2.new (ceA c).cells false) (zs := [ceA c]) ((hacc.kp kM).kp (.new _ _ _)) (by have := hkp.next; simp; omega) (cels_ok _) el74 (by simp [okAll_cons, okAll_nil]) (by simp [fzx, fzvs]) (by simp; omega)
    have hM : ∀ j, owns (s'.at 3) j → m.next ≤ j ∧ j < m'.next := fun j h => acc_lt hacc j h
    have k6 : Kp m m6 := kpc_kp p3 ((hkp.trans kM).newr _ _) fun j hj => (hM j hj).1
    have hst : cels (a.cells.take (i + 1)) = cels (a.cells.take i) ++ [ceA c] := by
      rw [List.take_add_one, hc, cels_append]
      rfl
    simp [e0, e15, abuild, placesOf, fillAt]
    rw [hag, q.go]
    simp [ceA]
    rw [← hM2]
    clear hM2
    simp only [ceA_cells] at hsrc p1
    simp [gc, abuildSlice, zeros, fillAt, placesOf, abuiltin]
    rw [hsrc, p1]
    simp [e15, hw]
    exact hn _ _ hlt (by simp) ⟨k6, by rw [hst]; simpa using p2⟩
  · have hge : i = a.cells.length := by have := of_decide_eq_false h; omega
    subst hge
    rw [List.take_length] at hacc
    simp
    refine he _ _ _ (by simp) ?_
    simp
    obtain ⟨m5, z1, z2⟩ := fz_cels hacc hkp
    rw [z1]
    exact ⟨rfl, z2⟩
def sameM (c d : CeM) : Bool := decide (c.k = d.k) && (decide (c.n = d.n) && (decide (c.s = d.s) && decide (c.a = d.a)))
theorem val_neq {xo yo : Operand} (v w : Val) : abin Tryz.prog .neq 51 xo yo (valA v) (valA w) = some (.sc (.bool (!decide (v = w)))) := by
  have := (abin_two (xo := xo) (yo := yo) two51 (x1 := .int .i64 v.1) (y1 := .int .i64 w.1) (x2 := .int .i64 v.2) (y2 := .int .i64 w.2) (b1 := decide (v.1 = w.1)) (b2 := decide (v.2 = w.2)) (fun d => by rw [equalIn_int Tryz.underlying3]) (fun d => by rw [equalIn_int Tryz.underlying2])).2
  have e : decide (v = w) = (decide (v.1 = w.1) && decide (v.2 = w.2)) := by
    obtain ⟨a, b⟩ := v
    obtain ⟨c, d⟩ := w
    simp [Prod.ext_iff]
  rw [e]
  exact this
end
/-- Two cells that are read are the same? -/
theorem same_args {c d : CeM} (i : Nat) {x y : Val} (hx : c.a[i]? = some x) (hy : d.a[i]? = some y) (h : x ≠ y) : c.a ≠ d.a := by
  intro e
  rw [e, hy] at hx
  exact h (Option.some.inj hx).symm
set_option maxHeartbeats 4000000 in
theorem q30 (c d : CeM) (hl : c.a.length ≤ 4096) : Gives Tryz.prog ca 30 [ceA c, ceA d] (.sc (.bool (sameM c d))) := by
  refine gives_run Tryz.func30 rfl rfl rfl rfl (by simp) (by simp [Tryz.f30]) (by simp [Tryz.f30]) fun m => ?_
  simp only [Tryz.f30, show ca.keepRes 30 = false from rfl]
  obtain ⟨g, hgd⟩ : ∃ g, g = sameM c d := ⟨_, rfl⟩
  rw [← hgd]
  have lc : ∀ (R : TypeId) (m : Mem), abuiltin Tryz.prog .len #[66] R [.lst (vals c.a)] m = some (int c.a.length, m) := fun R m => by rw [alen_lst Tryz.underlying66]; simp
  have ld : ∀ (R : TypeId) (m : Mem), abuiltin Tryz.prog .len #[66] R [.lst (vals d.a)] m = some (int d.a.length, m) := fun R m => by rw [alen_lst Tryz.underlying66]; simp
  have cc := cby c.s
  have cd := cby d.s
  simp only [strA] at cc cd
  by_cases h1 : c.k = d.k
  rotate_left
  · have e0 : g = false := by rw [hgd]; simp [sameM, h1]
    subst e0
    simp [ceA, h1, undefV, undef]
  by_cases h2 : c.n = d.n
  rotate_left
  · have e0 : g = false := by rw [hgd]; simp [sameM, h2]
    subst e0
    simp [ceA, h1, h2, undefV, undef]
  by_cases h3 : c.s = d.s
  rotate_left
  · have e0 : g = false := by rw [hgd]; simp [sameM, h3]
    subst e0
    simp [ceA, h1, h2, h3, cc, cd, undefV, undef]
  by_cases h4 : c.a.length = d.a.length
  rotate_left
  · have e0 : g = false := by
      rw [hgd]
      have : c.a ≠ d.a := fun e => h4 (by rw [e])
      simp [sameM, this]
    subst e0
    have h4' : ¬ (c.a.length : Int) = d.a.length := by omega
    simp [ceA, h1, h2, h3, cc, cd, lc, ld, h4']
  have hg2 : g = decide (c.a = d.a) := by rw [hgd]; simp [sameM, h1, h2, h3]
  obtain ⟨M1, hM1⟩ : ∃ M1, M1 = (m.new [int c.k, int c.n, .lst (vals c.a), .lst (byts c.s)] false).new [int d.k, int d.n, .lst (vals d.a), .lst (byts d.s)] false := ⟨_, rfl⟩
  have k1 : Kp m M1 := by rw [hM1]; simp
  have n1 : M1.next = m.next + 2 := by rw [hM1]; simp
  have b0 : M1.get m.next = some (.cells [int c.k, int c.n, .lst (vals c.a), .lst (byts c.s)] false (m.clock + 1)) := by rw [hM1]; simp
  have b1 : M1.get (m.next + 1) = some (.cells [int d.k, int d.n, .lst (vals d.a), .lst (byts d.s)] false (m.clock + 2)) := by rw [hM1]; simp
  have h4' : (c.a.length : Int) = d.a.length := by omega
  simp [ceA]
  rw [← hM1]
  clear hM1
  simp [b0, b1, h1, h2, h3, cc, cd, lc, ld, h4']
  refine go_count 5 c.a.length (fun i s' m' => m' = M1 ∧ ∀ j, j < i → c.a[j]? = d.a[j]?) (by simp) (by omega) ⟨rfl, fun j h => by omega⟩ ?_
  rintro i s' m' hi e5 ⟨hm, hall⟩ hsame hw Q' hn he
  have e2 : s'.at 2 = .ptr m.next 0 := (hsame 2 (by kernel_rfl)).trans (by simp)
  have e3 : s'.at 3 = .ptr (m.next + 1) 0 := (hsame 3 (by kernel_rfl)).trans (by simp)
  clear hsame
  rw [hm]
  clear hm m'
  simp [e2, e3, e5, b0, b1, lc]
  refine goB_split (fun h => ?_) fun h => ?_
  · have hlt : i < c.a.length := by have := of_decide_eq_true h; omega
    obtain ⟨x, hx⟩ : ∃ x, c.a[i]? = some x := ⟨_, List.getElem?_eq_getElem hlt⟩
    obtain ⟨y, hy⟩ : ∃ y, d.a[i]? = some y := ⟨_, List.getElem?_eq_getElem (by omega)⟩
    have ix := vals_at hx
    have iy := vals_at hy
    simp
    refine go_draw0 (by kernel_rfl) (by kernel_rfl) ?_
    simp [e2, e3, e5, b0, b1, ix, iy, valA_agg, val_neq]
    by_cases hxy : x = y
    · simp [hxy, e5, hw]
      exact hn _ _ hlt (by simp) ⟨rfl, fun j hj => by
        by_cases e : j = i
        · subst e; rw [hx, hy, hxy]
        · exact hall j (by omega)⟩
    · have e0 : g = false := by rw [hg2]; exact decide_eq_false (same_args i hx hy hxy)
      simp [hxy]
      refine he _ _ _ (by simp) ?_
      simp [e0]
      exact k1
  · have hge : i = c.a.length := by have := of_decide_eq_false h; omega
    have e0 : g = true := by
      rw [hg2]
      refine decide_eq_true (List.ext_getElem? fun j => ?_)
      by_cases hj : j < i
      · exact hall j hj
      · rw [List.getElem?_eq_none (by omega), List.getElem?_eq_none (by omega)]
    simp
    refine he _ _ _ (by simp) ?_
    simp [e0]
    exact k1
end Go.Proofs.YtnhcmcfgemoehaaGreat

/- Whether data and calls are few and small. -/
set_option linter.unusedSimpArgs false
set_option linter.unusedVariables false
set_option linter.unusedSectionVars false
namespace Go.Proofs.YtnhcmcfgemoehaaGreat
set_option maxRecDepth 4000
open Go.V
attribute [local simp] Nat.add_assoc
/-- A procedure that is called with values. -/
abbrev Cal := Int × List Val
def calA (c : Cal) : AV := .agg [int c.1, .lst (vals c.2)]
def cals (l : List Cal) : List AV := l.map calA
@[simp] theorem calA_okc (c : Cal) : (calA c).okc = true := Eq.trans rfl rfl
@[simp] theorem calA_cells (c : Cal) : (calA c).cells = [int c.1, .lst (vals c.2)] := Eq.trans rfl rfl
@[simp] theorem calA_bel (c : Cal) (n : Nat) : (calA c).bel n = true := by simp [calA, AV.bel, AV.bels]
@[simp] theorem calA_fzv (c : Cal) (m : Mem) : fzv m (calA c) = (calA c, m) := by simp [calA, fzv, fzs, fz1]
@[simp] theorem cals_length (l : List Cal) : (cals l).length = l.length := by simp [cals]
theorem cals_at {l : List Cal} {i : Nat} {c : Cal} (h : l[i]? = some c) : aindexAddr Tryz.prog 63 (.lst (cals l)) (int i) = some ((calA c).cptr 0) := aindexAddr_lst (P := Tryz.prog) (q := .i64) Tryz.underlying63 tsize68 (by simp [cals, h]) (by simp)
def smallC (l : List Dat) (cs : List Cal) : Bool := smallB l && (!decide (40 < cs.length) && cs.all fun c => !decide (50 < c.2.length))
theorem smallC_data {l : List Dat} {cs : List Cal} (h : smallC l cs = true) : smallB l = true := by simp [smallC] at h; exact h.1
theorem smallC_calls {l : List Dat} {cs : List Cal} (h : smallC l cs = true) : cs.length ≤ 40 ∧ ∀ c ∈ cs, c.2.length ≤ 50 := by
  simp [smallC] at h
  exact ⟨by omega, fun c hc => by have := h.2.2 c.1 c.2 hc; omega⟩
set_option maxHeartbeats 8000000 in
theorem q19c (l : List Dat) (cs : List Cal) (hf : ∀ d ∈ l, d.fits) (hcl : cs.length < 2 ^ 21) (m : Mem) : EH Tryz.prog ca (.func 19) [.lst (encs l), .lst (cals cs)] m (.sc (.bool (smallC l cs))) m := by
  refine eh_run Tryz.func19 rfl rfl rfl rfl (args1 := [.lst (encs l), .lst (cals cs)]) (m1 := m) (by simp [fzvs, fzv, fz1]) (by simp) (by simp [Tryz.f19]) (by simp [Tryz.f19]) ?_
  simp only [Tryz.f19, show ca.keepRes 19 = false from rfl]
  have ln : ∀ (R : TypeId) (m : Mem), abuiltin Tryz.prog .len #[43] R [.lst (encs l)] m = some (int l.length, m) := fun R m => by rw [alen_lst Tryz.underlying43]; simp
  have ln0 : ∀ (R : TypeId) (m : Mem), abuiltin Tryz.prog .len #[63] R [.lst (cals cs)] m = some (int cs.length, m) := fun R m => by rw [alen_lst Tryz.underlying63]; simp
  obtain ⟨g, hgd⟩ : ∃ g, g = smallC l cs := ⟨_, rfl⟩
  rw [← hgd]
  simp [ln, ln0]
  by_cases h12 : 12 < l.length
  · have h12' : (12 : Int) < l.length := by omega
    have e0 : g = false := by rw [hgd]; simp [smallC, smallB, h12]
    subst e0
    simp [h12', undefV, undef]
  have h12' : ¬ (12 : Int) < l.length := by omega
  by_cases h40 : 40 < cs.length
  · have h40' : (40 : Int) < cs.length := by omega
    have e0 : g = false := by rw [hgd]; simp [smallC, h40]
    subst e0
    simp [h12', ln, ln0, h40']
  have h40' : ¬ (40 : Int) < cs.length := by omega
  simp [h12', ln, ln0, h40']
  refine go_count 19 l.length (fun i s' m' => Kp m m' ∧ ∀ j d, j < i → l[j]? = some d → smallD d = true) (by simp) (by omega) ⟨.refl m, fun j d h => by omega⟩ ?_
  rintro i s' m' hi e19 ⟨hkp, hall⟩ hsame hw Q' hn he
  have d1 : s'.at 1 = .lst (cals cs) := (hsame 1 (by kernel_rfl)).trans (by simp)
  have d17 : s'.at 17 = .lst (encs l) := (hsame 17 (by kernel_rfl)).trans (by simp)
  have d18 : s'.at 18 = int l.length := (hsame 18 (by kernel_rfl)).trans (by simp)
  clear hsame
  simp [e19, d18]
  refine goB_split (fun h => ?_) fun h => ?_
  · have hlt : i < l.length := by simpa using h
    obtain ⟨x, hx⟩ : ∃ x, l[i]? = some x := ⟨_, List.getElem?_eq_getElem hlt⟩
    have hx' : (encs l)[i]? = some (enc x) := by rw [encs_get, hx]; rfl
    have hxl := List.mem_of_getElem? hx
    have fx := hf x hxl
    have hix := aindexAddr_lst (P := Tryz.prog) (q := .i64) Tryz.underlying43 tsize56 hx' (enc_cells_length x)
    have qs := ca_gives (g34 x fx)
    have bad : smallD x = false → g = false := fun h => by
      rw [hgd]
      have : l.all smallD = false := by
        rw [← Bool.not_eq_true, List.all_eq_true]
        intro hh
        have := hh x hxl
        rw [h] at this; cases this
      simp [smallC, smallB, this]
    obtain ⟨K, N, S, M, L, T⟩ := x
    have ft := alone_fits fx
    simp only [enc] at qs hix
    have l54 : ∀ (R : TypeId) (m : Mem), abuiltin Tryz.prog .len #[54] R [.lst (M.map int)] m = some (int M.length, m) := fun R m => by rw [alen_lst Tryz.underlying54]; simp
    have l43 : ∀ (q : List Dat) (R : TypeId) (m : Mem), abuiltin Tryz.prog .len #[43] R [.lst (encs q)] m = some (int q.length, m) := fun q R m => by rw [alen_lst Tryz.underlying43]; simp
    have zd : List.drop 6 zeroCells = [] := rfl
    have fin : ∀ (s2 : Sl) (m2 : Mem), smallD (.mk K N S M L T) = false → s2.at 4 = .sc (.bool false) → Kp m m2 → Q' .ret s2 m2 := fun s2 m2 h1 h2 h3 => by
      refine he _ _ _ (by simp) ?_
      have := bad h1
      subst this
      simp [h2]
      exact h3
    have k4 : Kp m ((m'.new zeroCells false).set m'.next [int K, int N, .sc (.string ⟨⟨S⟩⟩), .lst (M.map int), .lst (encs L), .lst (encs T)]) := hkp.trans (by simp)
    by_cases p1 : 1000 < S.length
    · have p1' : (1000 : Int) < S.length := by omega
      simp [e19, d17, hix, zd, p1', undefV, undef]
      exact fin _ _ (by simp [smallD, p1]) (by simp) k4
    have p1' : ¬ (1000 : Int) < S.length := by omega
    by_cases p2 : 100 < M.length
    · have p2' : (100 : Int) < M.length := by omega
      simp [e19, d17, hix, zd, p1', p2', l54, undefV, undef]
      exact fin _ _ (by simp [smallD, p2]) (by simp) k4
    have p2' : ¬ (100 : Int) < M.length := by omega
    by_cases p3 : 300 < L.length
    · have p3' : (300 : Int) < L.length := by omega
      simp [e19, d17, hix, zd, p1', p2', p3', l54, l43, undefV, undef]
      exact fin _ _ (by simp [smallD, p3]) (by simp) k4
    have p3' : ¬ (300 : Int) < L.length := by omega
    by_cases p4 : 10 < T.length
    · have p4' : (10 : Int) < T.length := by omega
      simp [e19, d17, hix, zd, p1', p2', p3', p4', l54, l43, undefV, undef]
      exact fin _ _ (by simp [smallD, p4]) (by simp) k4
    have p4' : ¬ (10 : Int) < T.length := by omega
    simp [e19, d17, hix, zd, p1', p2', p3', p4', l54, l43, qs.go]
    by_cases p5 : 300 < siz (.mk K N S M L T)
    · simp [p5]
      exact fin _ _ (by simp [smallD, p5]) (by simp) k4
    · simp [p5, e19, hw]
      refine hn _ _ hlt (by simp) ⟨k4, fun j u hj hu => ?_⟩
      by_cases hji : j = i
      · subst hji
        rw [hx] at hu
        cases hu
        simp [smallD, p1, p2, p3, p4, p5]
      · exact hall j u (by omega) hu
  · have hge : i = l.length := by have := of_decide_eq_false h; omega
    subst hge
    have hB : smallB l = true := by
      simp [smallB, h12]
      exact fun x hx => by
        obtain ⟨j, hj, e⟩ := List.mem_iff_getElem.1 hx
        exact hall j x hj (by rw [List.getElem?_eq_getElem hj, e])
    simp
    refine he _ _ _ (by simp) ?_
    simp [d1, ln0]
    refine go_count 53 cs.length (fun i s2 m2 => Kp m m2 ∧ ∀ (j : Nat) c, j < i → cs[j]? = some c → c.2.length ≤ 50) (by simp) (by omega) ⟨hkp, fun j c h => by omega⟩ ?_
    rintro i s2 m2 hi e53 ⟨hk2, hall2⟩ hsame hw Q' hn he
    have d51 : s2.at 51 = .lst (cals cs) := (hsame 51 (by kernel_rfl)).trans (by simp)
    have d52 : s2.at 52 = int cs.length := (hsame 52 (by kernel_rfl)).trans (by simp)
    clear hsame
    simp [e53, d52]
    refine goB_split (fun h => ?_) fun h => ?_
    · have hlt : i < cs.length := by simpa using h
      obtain ⟨c, hc⟩ : ∃ c, cs[i]? = some c := ⟨_, List.getElem?_eq_getElem hlt⟩
      have hix := cals_at hc
      have lc : ∀ (R : TypeId) (m : Mem), abuiltin Tryz.prog .len #[66] R [.lst (vals c.2)] m = some (int c.2.length, m) := fun R m => by rw [alen_lst Tryz.underlying66]; simp
      have k4 : Kp m ((m2.new [int 0, .emp 0] false).set m2.next [int c.1, .lst (vals c.2)]) := hk2.trans (by simp)
      simp [e53, d51, hix, lc]
      by_cases h50 : 50 < c.2.length
      · have h50' : (50 : Int) < c.2.length := by omega
        have e0 : g = false := by
          rw [hgd]
          have : (cs.all fun c => !decide (50 < c.2.length)) = false := List.all_eq_false.2 ⟨c, List.mem_of_getElem? hc, by simp [h50]⟩
          simp [smallC, this]
        subst e0
        simp [h50']
        refine he _ _ _ (by simp) ?_
        simp
        exact k4
      · have h50' : ¬ (50 : Int) < c.2.length := by omega
        simp [h50', e53, hw]
        exact hn _ _ hlt (by simp) ⟨k4, fun j u hj hu => by
          by_cases e : j = i
          · subst e; rw [hc] at hu; cases hu; omega
          · exact hall2 j u (by omega) hu⟩
    · have hge : i = cs.length := by have := of_decide_eq_false h; omega
      subst hge
      have e0 : g = true := by
        rw [hgd]
        simp only [smallC, hB, Bool.true_and]
        simp
        refine ⟨by omega, fun n l hx => ?_⟩
        obtain ⟨j, hj, e⟩ := List.mem_iff_getElem.1 hx
        exact hall2 j (n, l) hj (by rw [List.getElem?_eq_getElem hj, e])
      subst e0
      simp
      refine he _ _ _ (by simp) ?_
      simp
      exact hk2
end Go.Proofs.YtnhcmcfgemoehaaGreat

/- What a procedure leaves as it was: arenas, without the program. -/
set_option linter.unusedSimpArgs false
set_option linter.unusedVariables false
set_option linter.unusedSectionVars false
namespace Go.Proofs.YtnhcmcfgemoehaaGreat
open Go.V
/-- What any arena is that calls may be made with. -/
structure Inw (a : ArM) : Prop where
  small : Small a
  pairs : Pairs a
  names : ∀ s ∈ a.names, Sym s = true
theorem sym_len {s : List UInt8} (h : Sym s = true) : s.length < 2 ^ 21 := by
  unfold Sym at h
  simp only [Bool.or_eq_true, Bool.and_eq_true, decide_eq_true_eq] at h
  rcases h with ((rfl | rfl) | rfl) | ⟨h, _⟩
  · decide
  · decide
  · decide
  · omega
theorem Inw.named {a : ArM} (h : Inw a) : Named a := fun s hs => sym_len (h.names s hs)
/-- An arena has become one with more. -/
structure Grow (a b : ArM) : Prop where
  ext : Ext a b
  inw : Inw a → Inw b
theorem Grow.refl (a : ArM) : Grow a a := ⟨.refl a, id⟩
theorem Grow.trans {a b c : ArM} (h : Grow a b) (k : Grow b c) : Grow a c := ⟨h.ext.trans k.ext, fun q => k.inw (h.inw q)⟩
theorem grow_alloc (a : ArM) (c : CeM) : Grow a (allocM a c).1 := by
  unfold allocM
  by_cases hf : fitsM a c = true
  · rw [if_pos hf]
    split
    · exact .refl a
    · refine ⟨ext_push a c, fun h => ⟨fun d hd => ?_, fun d hd hk => ?_, h.names⟩⟩
      · simp only [pushM, List.mem_append, List.mem_singleton] at hd
        rcases hd with hd | rfl
        · exact h.small d hd
        · simp [fitsM] at hf
          exact ⟨by omega, by omega⟩
      · simp only [pushM, List.mem_append, List.mem_singleton] at hd
        rcases hd with hd | rfl
        · exact h.pairs d hd hk
        · simp [fitsM] at hf
          obtain ⟨x, y, e⟩ := kind_1 hf.2.2.2.2 hk
          exact ⟨x, y, by rw [e]⟩
  · rw [if_neg hf]
    exact .refl a
theorem grow_allocC (a : ArM) (k : Int) (c : CeM) : Grow a (allocC a k c).2.1 := by
  unfold allocC
  split
  · exact .refl a
  · split
    · exact grow_alloc a c
    · exact grow_alloc a c
theorem grow_ahead (a : ArM) (k : Int) (e : Val) : ∀ l : List Val, Grow a (aheadM a k e l).2.1
  | [] => .refl a
  | x :: l => by
    rw [aheadM]
    exact (grow_ahead a k e l).trans (grow_allocC _ _ _)
theorem grow_fold (a : ArM) (e : Val) : ∀ l : List (List Val), Grow a (foldM a e l).2.1
  | [] => .refl a
  | x :: l => by
    rw [foldM]
    exact (grow_fold a e l).trans (grow_ahead _ _ _ _)
theorem grow_append (a : ArM) (l : List Val) : Grow a (appendM a l).2.1 := by
  unfold appendM
  by_cases h1 : l = []
  · rw [if_pos h1]; exact .refl a
  · rw [if_neg h1]
    by_cases h2 : (listsM a l.dropLast).2 ≠ 0
    · rw [if_pos h2]; exact .refl a
    · rw [if_neg h2]; exact grow_fold _ _ _
theorem grow_sym (a : ArM) (s : List UInt8) : Grow a (symM a s).1 := by
  unfold symM
  split
  · rename_i hs
    split
    · exact .refl a
    · split
      · exact .refl a
      · refine ⟨⟨rfl, ⟨[], by simp [nameM]⟩, ⟨[s], rfl⟩⟩, fun h => ⟨h.small, h.pairs, fun t ht => ?_⟩⟩
        simp only [nameM, List.mem_append, List.mem_singleton] at ht
        rcases ht with ht | rfl
        · exact h.names t ht
        · exact hs
  · exact .refl a
mutual
theorem grow_make : ∀ (d : Dat) (a : ArM), Grow a (makeM d a).1
  | .mk K N S M L T, a => by
    rw [makeM]
    split
    · exact .refl a
    split
    · exact grow_sym a S
    split
    · exact grow_alloc a _
    split
    · split
      · exact grow_vec L a
      · exact (grow_vec L a).trans (grow_alloc _ _)
    have h : Grow a (if K = 7 then tailM T a else (a, (4, 0), 0)).1 := by
      split
      · exact grow_tail T a
      · exact .refl a
    revert h
    generalize (if K = 7 then tailM T a else (a, (4, 0), 0)) = r
    intro h
    have hl := grow_lst L r
    split
    · exact h.trans hl
    · exact h.trans hl
theorem grow_vec : ∀ (l : List Dat) (a : ArM), Grow a (vecM l a).1
  | [], a => by rw [vecM]; exact .refl a
  | d :: l, a => by
    rw [vecM]
    split
    · exact grow_make d a
    · exact (grow_make d a).trans (grow_vec l _)
theorem grow_tail : ∀ (l : List Dat) (a : ArM), Grow a (tailM l a).1
  | [], a => by rw [tailM]; exact .refl a
  | d :: _, a => by rw [tailM]; exact grow_make d a
theorem grow_lst : ∀ (l : List Dat) (r : ArM × Val × Int), Grow r.1 (lstM l r).1
  | [], r => by rw [lstM]; exact .refl _
  | d :: l, r => by
    rw [lstM]
    split
    · exact grow_lst l r
    split
    · exact (grow_lst l r).trans (grow_make d _)
    · exact ((grow_lst l r).trans (grow_make d _)).trans (grow_alloc _ _)
end
theorem grow_of (d : Dat) (a : ArM) : Grow a (ofM d a).1 := by
  unfold ofM
  split
  · exact grow_make d a
  · exact .refl a
/-- What was there is as it was, but for what may be changed. -/
def Keep (a b : ArM) (n k : Int) (l : List Val) : Prop := Inw b ∧ ∀ (i : Nat) c, a.cells[i]? = some c → ∃ d, b.cells[i]? = some d ∧ (sameM c d = true ∨ ((n = 18 ∨ n = 19 ∨ n = 30) ∧ k = 0 ∧ ∃ r, l = (7, (i : Int)) :: r))
theorem sameM_self (c : CeM) : sameM c c = true := by simp [sameM]
theorem Grow.keep {a b : ArM} (h : Grow a b) (ha : Inw a) (n k : Int) (l : List Val) : Keep a b n k l := ⟨h.inw ha, fun _ c hc => ⟨c, h.ext.at hc, .inl (sameM_self c)⟩⟩
theorem keep_put {a : ArM} (ha : Inw a) {n : Int} {l : List Val} (hn : n = 18 ∨ n = 19 ∨ n = 30) {p : Nat} {c : CeM} (hc : a.cells[p]? = some c) {i : Nat} (hi : i < c.a.length) (hl : l[0]? = some (7, (p : Int))) (x : Val) : Keep a (putA a p c i x) n 0 l := by
  have hp := (List.getElem?_eq_some_iff.1 hc).1
  have hm := List.mem_of_getElem? hc
  obtain ⟨r, rfl⟩ : ∃ r, l = (7, (p : Int)) :: r := by
    cases l with
    | nil => simp at hl
    | cons v r => simp at hl; exact ⟨r, by rw [hl]⟩
  refine ⟨⟨fun d hd => ?_, fun d hd hk => ?_, ha.names⟩, fun j d hd => ?_⟩
  · rcases List.mem_or_eq_of_mem_set hd with hd | rfl
    · exact ha.small d hd
    · have := ha.small c hm
      exact ⟨by simpa using this.1, this.2⟩
  · rcases List.mem_or_eq_of_mem_set hd with hd | rfl
    · exact ha.pairs d hd hk
    · obtain ⟨u, v, e⟩ := ha.pairs c hm hk
      simp only
      rw [e]
      rw [e] at hi
      have : i = 0 ∨ i = 1 := by simp at hi; omega
      rcases this with rfl | rfl
      · exact ⟨x, v, rfl⟩
      · exact ⟨u, x, rfl⟩
  · by_cases e : p = j
    · subst e
      exact ⟨_, by simp only [putA]; rw [List.getElem?_set_self hp], .inr ⟨hn, rfl, r, rfl⟩⟩
    · exact ⟨d, by simp only [putA]; rw [List.getElem?_set_ne e]; exact hd, .inl (sameM_self d)⟩
section
variable {a : ArM} {n : Int} {l : List Val}
theorem keep_lists (ha : Inw a) (hc : Called a n l) : Keep a (listsR a n l).2.1 n (listsR a n l).2.2 l := by
  have rf : Keep a a n 0 l := (Grow.refl a).keep ha n 0 l
  unfold listsR
  split
  · exact (grow_allocC _ _ _).keep ha _ _ _
  split
  · exact rf
  split
  · exact rf
  split
  · rename_i h
    subst h
    have k := hc.c18
    obtain ⟨p, c, h1, h2, h3, h4, h5⟩ := pair_here ha.pairs hc (by omega) ⟨by omega, by omega⟩
    rw [h3, h1]
    exact keep_put ha (.inl rfl) h2 (by rw [h5]; simp) (by rw [← h1]; exact argV_some (by omega)) _
  split
  · rename_i h
    subst h
    have k := hc.c19
    obtain ⟨p, c, h1, h2, h3, h4, h5⟩ := pair_here ha.pairs hc (by omega) ⟨by omega, by omega⟩
    rw [h3, h1]
    exact keep_put ha (.inr (.inl rfl)) h2 (by rw [h5]; simp) (by rw [← h1]; exact argV_some (by omega)) _
  split
  · exact (grow_ahead _ _ _ _).keep ha _ _ _
  split
  · exact (Grow.refl a).keep ha _ _ _
  split
  · exact (grow_ahead _ _ _ _).keep ha _ _ _
  split
  · exact (Grow.refl a).keep ha _ _ _
  · exact (grow_append _ _).keep ha _ _ _
theorem keep_vecs (ha : Inw a) (hc : Called a n l) (hn : n = 27 ∨ n = 28 ∨ n = 29 ∨ n = 30 ∨ n = 31) : Keep a (vecsM a n l).2.1 n (vecsM a n l).2.2 l := by
  have rf : ∀ k, Keep a a n k l := fun k => (Grow.refl a).keep ha n k l
  unfold vecsM
  split
  · split
    · exact rf _
    · exact (grow_allocC _ _ _).keep ha _ _ _
  split
  · split
    · exact (grow_allocC _ _ _).keep ha _ _ _
    · exact rf _
  split
  · exact rf _
  split
  · rename_i hw
    split
    · exact rf _
    · rename_i h27 h28 h31 h29
      have h30 : n = 30 := by
        rcases hn with h | h | h | h | h
        · exact absurd h h27
        · exact absurd h h28
        · exact absurd h h29
        · exact h
        · exact absurd h h31
      subst h30
      have k := hc.c30
      have h0 := argV_some (l := l) (i := 0) (by omega)
      have hg := hc.gd 0 _ h0
      have hk : (getM a (argV l 0)).1.k = 2 := by
        unfold goodP at hg
        simpa using hg
      obtain ⟨p, c, h1, h2, h3⟩ := get_cell (a := a) (v := argV l 0) (by omega)
      rw [h3] at hw ⊢
      rw [h1] at h0 ⊢
      simp [within] at hw
      exact keep_put ha (.inr (.inr rfl)) h2 (by omega) h0 _
  · exact rf _
theorem keep_text (ha : Inw a) (s : List UInt8) (n : Int) : Keep a (textC a s).2.1 n (textC a s).2.2 l := (grow_allocC _ _ _).keep ha _ _ _
theorem keep_texts (ha : Inw a) : Keep a (textsM a n l).2.1 n (textsM a n l).2.2 l := by
  have rf : ∀ k, Keep a a n k l := fun k => (Grow.refl a).keep ha n k l
  have tx : ∀ s, Keep a (textC a s).2.1 n (textC a s).2.2 l := fun s => keep_text ha s n
  unfold textsM
  split
  · exact rf _
  split
  · split
    · exact rf _
    · exact rf _
  split
  · unfold joinC
    split
    · exact tx _
    · exact rf _
  split
  · split
    · exact tx _
    · exact rf _
  split
  · exact rf _
  split
  · unfold symC
    split
    · split
      · exact (grow_sym _ _).keep ha _ _ _
      · exact (grow_sym _ _).keep ha _ _ _
    · exact rf _
  split
  · split
    · exact rf _
    · exact rf _
  split
  · exact tx _
  split
  · exact tx _
  split
  · split
    · exact rf _
    · exact rf _
  · exact rf _
theorem keep_do (ha : Inw a) (hc : Called a n l) : Keep a (doR a n l).2.1 n (doR a n l).2.2 l := by
  have rf : ∀ k, Keep a a n k l := fun k => (Grow.refl a).keep ha n k l
  have h54 := hc.hi
  unfold doR
  split
  · exact rf _
  split
  · exact rf _
  split
  · exact rf _
  split
  · exact rf _
  split
  · exact rf _
  split
  · exact keep_lists ha hc
  split
  · exact keep_vecs ha hc (by omega)
  · exact keep_texts ha
/-- Whatever is called with whatever. -/
theorem keep_all (ha : Inw a) (hll : l.length ≤ 4096) (n : Int) : Keep a (doM a n l (doR a n l)).2.1 n (doM a n l (doR a n l)).2.2 l := by
  classical
  have rf : ∀ k, Keep a a n k l := fun k => (Grow.refl a).keep ha n k l
  unfold doM
  split
  · exact rf _
  rename_i h1
  split
  · exact rf _
  rename_i h2
  split
  · exact rf _
  rename_i h3
  split
  · exact rf _
  rename_i h4
  have hin := row_in (fun e => h1 (.inl e)) (fun e => h1 (.inr e))
  have hc : Called a n l := ⟨hin.1, hin.2, Classical.not_not.1 h2, Classical.not_not.1 h3, Classical.not_not.1 h4, hll⟩
  have hk := keep_do ha hc
  split
  · exact hk
  · rename_i h5
    have e : (doR a n l).2.2 = 0 := by omega
    rw [e] at hk
    exact hk
end
end Go.Proofs.YtnhcmcfgemoehaaGreat

/- Whatever is called leaves each cell that was there as it was. -/
set_option linter.unusedSimpArgs false
set_option linter.unusedVariables false
set_option linter.unusedSectionVars false
namespace Go.Proofs.YtnhcmcfgemoehaaGreat
set_option maxRecDepth 4000
open Go.V
attribute [local simp] Nat.add_assoc
/-- An arena that was made since. -/
structure Stw (X : Nat → Prop) (A : Nat) (a : ArM) (m0 M : Mem) : Prop where
  ar : Ar X A a M
  own : ∀ j, X j → m0.next ≤ j ∧ j < M.next
  kp : Kp m0 M
  inw : Inw a
theorem Stw.more {X : Nat → Prop} {A : Nat} {a : ArM} {m0 M M' : Mem} (h : Stw X A a m0 M) (k : Kp M M') : Stw X A a m0 M' := ⟨h.ar.kp k, fun j hj => ⟨(h.own j hj).1, by have := (h.own j hj).2; have := k.next; omega⟩, h.kp.trans k, h.inw⟩
theorem Stw.up {X : Nat → Prop} {A : Nat} {a b : ArM} {m0 M M' : Mem} (h : Stw X A a m0 M) (hu : Up X A b M M') (hb : Inw b) : ∃ X', Stw X' A b m0 M' ∧ KpC X M M' := by
  obtain ⟨X', h1, kc, h2⟩ := hu.out
  have k0 := h.kp.next
  refine ⟨X', ⟨h1, fun j hj => ⟨?_, (h2 j hj).2⟩, kpc_kp kc h.kp fun j hj => (h.own j hj).1, hb⟩, kc⟩
  rcases (h2 j hj).1 with q | q
  · exact (h.own j q).1
  · omega
set_option maxRecDepth 20000 in
set_option maxHeartbeats 16000000 in
theorem q6 (l : List Dat) (cs : List Cal) (hf : ∀ d ∈ l, d.fits) (hcl : cs.length < 2 ^ 21) (m : Mem) : EH Tryz.prog ca (.func 6) [.lst (encs l), .lst (cals cs)] m (.sc (.bool true)) m := by
  refine eh_run Tryz.func6 rfl rfl rfl rfl (args1 := [.lst (encs l), .lst (cals cs)]) (m1 := m) (by simp [fzvs]) (by simp) (by simp [Tryz.f6]) (by simp [Tryz.f6]) ?_
  simp only [Tryz.f6, show ca.keepRes 6 = false from rfl]
  have ln : ∀ (R : TypeId) (m : Mem), abuiltin Tryz.prog .len #[43] R [.lst (encs l)] m = some (int l.length, m) := fun R m => by rw [alen_lst Tryz.underlying43]; simp
  have lncs : ∀ (R : TypeId) (m : Mem), abuiltin Tryz.prog .len #[63] R [.lst (cals cs)] m = some (int cs.length, m) := fun R m => by rw [alen_lst Tryz.underlying63]; simp
  simp [(q7 m).go, (q19c l cs hf hcl m).go]
  cases hs : smallC l cs with
  | false =>
    simp [undefV, undef, (q7 m).go]
  | true =>
  have hcalls := smallC_calls hs
  have hl12 : l.length ≤ 12 := by have := smallC_data hs; simp [smallB] at this; omega
  obtain ⟨M1, hM1⟩ : ∃ M1, M1 = m.newMap.new [int 2000, .emp 0, .emp 0, .mp m.next] false := ⟨_, rfl⟩
  have hA1 := ar_new (m := m) (n := 2000) (by decide) (by decide)
  rw [← hM1] at hA1
  have k1 : Kp m M1 := by rw [hM1]; exact (Kp.refl m).newMap.newr _ _
  have n1 : M1.next = m.next + 2 := by rw [hM1]; simp
  have qn := q20 (m := m) (n := 2000) (by decide) (by decide)
  rw [← hM1] at qn
  clear hM1
  obtain ⟨A, hAe⟩ : ∃ A, A = m.next + 1 := ⟨_, rfl⟩
  rw [← hAe] at hA1 qn
  have enc_agg : ∀ d : Dat, AV.agg (enc d).cells = enc d := fun d => by cases d; rfl
  have S1 : Stw (fun j => m.next ≤ j ∧ j < M1.next) A ⟨2000, [], []⟩ m M1 := ⟨hA1.cut, fun j h => h, k1, ⟨fun c h => by simp at h, fun c h => by simp at h, fun s h => by simp at h⟩⟩
  simp [qn.go, ln]
  refine go_count 35 l.length (fun i s' m' => ∃ X a, Stw X A a m m') (by simp) (by omega) ⟨_, _, S1⟩ ?_
  rintro i s' m' hi e35 ⟨X, a, S⟩ hsame hw Q' hn he
  have e1 : s'.at 1 = .lst (cals cs) := (hsame 1 (by kernel_rfl)).trans (by simp)
  have e5 : s'.at 5 = .ptr A 0 := (hsame 5 (by kernel_rfl)).trans (by simp)
  have e33 : s'.at 33 = .lst (encs l) := (hsame 33 (by kernel_rfl)).trans (by simp)
  have e34 : s'.at 34 = int l.length := (hsame 34 (by kernel_rfl)).trans (by simp)
  clear hsame
  simp [e35, e34]
  refine goB_split (fun h => ?_) fun h => ?_
  · have hlt : i < l.length := by simpa using h
    obtain ⟨d, hd⟩ : ∃ d, l[i]? = some d := ⟨_, List.getElem?_eq_getElem hlt⟩
    have hix := aindexAddr_lst (P := Tryz.prog) (q := .i64) (i := i) Tryz.underlying43 tsize56 (show (encs l)[i]? = some (enc d) by rw [encs_get, hd]; rfl) (enc_cells_length d)
    have zd : List.drop 6 zeroCells = [] := rfl
    have k2 : Kp m' ((m'.new zeroCells false).set m'.next (enc d).cells) := by simp
    simp [e35, e33, hix, zd, enc_agg, e5]
    have S2 := S.more k2
    refine goH_of (q21 S2.ar d (hf d (List.mem_of_getElem? hd))) ?_
    rintro _ m3 ⟨rfl, hup⟩
    obtain ⟨X3, S3, _⟩ := S2.up hup ((grow_of d a).inw S.inw)
    simp [e35, hw]
    exact hn _ _ hlt (by simp) ⟨X3, _, S3⟩
  have hge : i = l.length := by have := of_decide_eq_false h; omega
  clear hge h hn hw e35
  simp
  refine he _ _ _ (by simp) ?_
  clear he e33 e34
  simp [e1, lncs]
  refine go_count 45 cs.length (fun i s' m' => ∃ X a, Stw X A a m m') (by simp) (by omega) ⟨_, _, S⟩ ?_
  clear S
  have e5o := e5
  clear e1 e5
  rintro i s' m' hi e45 ⟨X, a, S⟩ hsame hw Q' hn he
  have e5 : s'.at 5 = .ptr A 0 := (hsame 5 (by kernel_rfl)).trans (by simp [e5o])
  have e43 : s'.at 43 = .lst (cals cs) := (hsame 43 (by kernel_rfl)).trans (by simp)
  have e44 : s'.at 44 = int cs.length := (hsame 44 (by kernel_rfl)).trans (by simp)
  clear hsame
  have sn := S.ar.sane
  simp [e45, e44]
  refine goB_split (fun h => ?_) fun h => ?_
  rotate_left
  · simp
    refine he _ _ _ (by simp) ?_
    simp
    exact S.kp
  have hlt : i < cs.length := by simpa using h
  obtain ⟨c, hc⟩ : ∃ c, cs[i]? = some c := ⟨_, List.getElem?_eq_getElem hlt⟩
  have hcl50 := hcalls.2 c (List.mem_of_getElem? hc)
  have hix := cals_at hc
  obtain ⟨N2, hN2⟩ : ∃ N2, N2 = (m'.new [int 0, .emp 0] false).set m'.next [int c.1, .lst (vals c.2)] := ⟨_, rfl⟩
  have k2 : Kp m' N2 := by rw [hN2]; simp
  have nN2 : N2.next = m'.next + 1 := by rw [hN2]; simp
  have gB : N2.get m'.next = some (.cells [int c.1, .lst (vals c.2)] false (m'.clock + 2)) := by rw [hN2]; simp
  have S2 := S.more k2
  have qc := q29 S2.ar S2.inw.small
  simp [e45, e43, hix]
  rw [← hN2]
  clear hN2
  simp [e5, qc.go, gB]
  refine goH_of (doAll (n := c.1) (l := c.2) S2.ar (fun j hj => (S2.own j hj).2) S2.inw.small S2.inw.pairs S2.inw.named (by omega)) ?_
  rintro _ m3 ⟨rfl, hup⟩
  have hK := keep_all S.inw (l := c.2) (by omega) c.1
  obtain ⟨res, hres⟩ : ∃ res, res = doM a c.1 c.2 (doR a c.1 c.2) := ⟨_, rfl⟩
  rw [← hres] at hup hK ⊢
  clear hres
  obtain ⟨vv, b, kk⟩ := res
  simp only at hup hK ⊢
  obtain ⟨hib, hkeep⟩ := hK
  obtain ⟨X3, S3, kc⟩ := S2.up hup hib
  have n3 := kc.next
  have gB3 := (kc.get m'.next (by omega) (fun h => by have := (S.own _ h).2; omega)).trans gB
  obtain ⟨N4, hN4⟩ : ∃ N4, N4 = (m3.new [int 0, int 0] false).set m3.next [int vv.1, int vv.2] := ⟨_, rfl⟩
  have k4 : Kp m3 N4 := by rw [hN4]; simp
  have n4 := k4.next
  have S4 := S3.more k4
  have gB4 := (k4.get m'.next (by omega)).trans gB3
  have qd := q29 S4.ar S4.inw.small
  have lnc : ∀ (R : TypeId) (m : Mem), abuiltin Tryz.prog .len #[66] R [.lst (vals c.2)] m = some (int c.2.length, m) := fun R m => by rw [alen_lst Tryz.underlying66]; simp
  have lna : ∀ (R : TypeId) (m : Mem), abuiltin Tryz.prog .len #[74] R [.lst (cels a.cells)] m = some (int a.cells.length, m) := fun R m => by rw [alen_lst Tryz.underlying74]; simp
  have lnb : ∀ (R : TypeId) (m : Mem), abuiltin Tryz.prog .len #[74] R [.lst (cels b.cells)] m = some (int b.cells.length, m) := fun R m => by rw [alen_lst Tryz.underlying74]; simp
  simp [e5, valA]
  rw [← hN4]
  clear hN4
  simp [e5, qd.go, gB4]
  obtain ⟨ch, hchd⟩ : ∃ ch, ch = (decide (c.1 = 18) || decide (c.1 = 19) || decide (c.1 = 30)) := ⟨_, rfl⟩
  by_cases c18 : c.1 = 18
  · have hch : ch = true := by rw [hchd]; simp [c18]
    simp [c18, undefV, undef, lna]
    refine go_count 77 a.cells.length (fun i' s2 m2 => Kp N4 m2) (by simp) (by omega) (.refl _) ?_
    rintro i' s2 m2 hi' e77 hk2 hsame hw2 Q2 hn2 he2
    have f10 : s2.at 10 = .ptr m'.next 0 := (hsame 10 (by kernel_rfl)).trans (by simp)
    have f13 : s2.at 13 = int kk := (hsame 13 (by kernel_rfl)).trans (by simp)
    have f14 : s2.at 14 = .lst (cels b.cells) := (hsame 14 (by kernel_rfl)).trans (by simp)
    have f15 : s2.at 15 = .sc (.bool ch) := (hsame 15 (by kernel_rfl)).trans (by simp [hch])
    have f45 : s2.at 45 = int i := (hsame 45 (by kernel_rfl)).trans (by simp [e45])
    have f75 : s2.at 75 = .lst (cels a.cells) := (hsame 75 (by kernel_rfl)).trans (by simp)
    have f76 : s2.at 76 = int a.cells.length := (hsame 76 (by kernel_rfl)).trans (by simp)
    clear hsame
    have gB2 := (hk2.get m'.next (by omega)).trans gB4
    simp [e77, f76]
    refine goB_split (fun h => ?_) fun h => ?_
    · have hlt2 : i' < a.cells.length := by simpa using h
      obtain ⟨x, hx⟩ : ∃ x, a.cells[i']? = some x := ⟨_, List.getElem?_eq_getElem hlt2⟩
      obtain ⟨d, hd, hor⟩ := hkeep i' x hx
      have hdl := (List.getElem?_eq_some_iff.1 hd).1
      have ixx := cels_at hx
      have ixd := cels_at hd
      have hdl' : (i' : Int) < b.cells.length := by omega
      have q30x := q30 x d (S.inw.small x (List.mem_of_getElem? hx)).1
      have hagx : AV.agg [int x.k, int x.n, .lst (vals x.a), .lst (byts x.s)] = ceA x := rfl
      have hagd : AV.agg [int d.k, int d.n, .lst (vals d.a), .lst (byts d.s)] = ceA d := rfl
      have k9 : Kp N4 ((m2.new [int 0, int 0, .emp 0, .emp 0] false).set m2.next [int x.k, int x.n, .lst (vals x.a), .lst (byts x.s)]) := hk2.trans (by simp)
      have zB : m'.next ≠ m2.next := by have := hk2.next; omega
      simp [e77, f75, ixx]
      refine go_draw0 (by kernel_rfl) (by kernel_rfl) ?_
      simp [f14, lnb, hdl', ixd, hagx, hagd, q30x.go]
      cases hsm : sameM x d with
      | true =>
        simp [e77, hw2]
        exact hn2 _ _ hlt2 (by simp) k9
      | false =>
        rw [hsm] at hor
        obtain ⟨hn3, hk0, r, hr⟩ := hor.resolve_left (by simp)
        have hch1 : ch = true := by rw [hchd]; simp; omega
        have hag7 : AV.agg [int 7, int i'] = valA (7, (i' : Int)) := rfl
        have ix7 : aindexAddr Tryz.prog 66 (.lst (vals c.2)) (int 0) = some ((valA (7, (i' : Int))).cptr 0) := vals_at (i := 0) (by rw [hr]; rfl)
        have lr : c.2 ≠ [] := by rw [hr]; simp
        simp [f15, hch1, f13, hk0, f10, gB2, zB, lnc, lr, ix7, abuild, placesOf, fillAt, hag7, val_neq, e77, hw2, undefV, undef]
        try exact hn2 _ _ hlt2 (by simp) k9
    · have hge2 : i' = a.cells.length := by have := of_decide_eq_false h; omega
      simp
      refine he2 _ _ _ (by simp) ?_
      simp [f45, hw]
      exact hn _ _ hlt (by simp) ⟨X3, b, S4.more hk2⟩
  by_cases c19 : c.1 = 19
  · have hch : ch = true := by rw [hchd]; simp [c19]
    simp [c18, c19, gB4, undefV, undef, lna]
    refine go_count 77 a.cells.length (fun i' s2 m2 => Kp N4 m2) (by simp) (by omega) (.refl _) ?_
    rintro i' s2 m2 hi' e77 hk2 hsame hw2 Q2 hn2 he2
    have f10 : s2.at 10 = .ptr m'.next 0 := (hsame 10 (by kernel_rfl)).trans (by simp)
    have f13 : s2.at 13 = int kk := (hsame 13 (by kernel_rfl)).trans (by simp)
    have f14 : s2.at 14 = .lst (cels b.cells) := (hsame 14 (by kernel_rfl)).trans (by simp)
    have f15 : s2.at 15 = .sc (.bool ch) := (hsame 15 (by kernel_rfl)).trans (by simp [hch])
    have f45 : s2.at 45 = int i := (hsame 45 (by kernel_rfl)).trans (by simp [e45])
    have f75 : s2.at 75 = .lst (cels a.cells) := (hsame 75 (by kernel_rfl)).trans (by simp)
    have f76 : s2.at 76 = int a.cells.length := (hsame 76 (by kernel_rfl)).trans (by simp)
    clear hsame
    have gB2 := (hk2.get m'.next (by omega)).trans gB4
    simp [e77, f76]
    refine goB_split (fun h => ?_) fun h => ?_
    · have hlt2 : i' < a.cells.length := by simpa using h
      obtain ⟨x, hx⟩ : ∃ x, a.cells[i']? = some x := ⟨_, List.getElem?_eq_getElem hlt2⟩
      obtain ⟨d, hd, hor⟩ := hkeep i' x hx
      have hdl := (List.getElem?_eq_some_iff.1 hd).1
      have ixx := cels_at hx
      have ixd := cels_at hd
      have hdl' : (i' : Int) < b.cells.length := by omega
      have q30x := q30 x d (S.inw.small x (List.mem_of_getElem? hx)).1
      have hagx : AV.agg [int x.k, int x.n, .lst (vals x.a), .lst (byts x.s)] = ceA x := rfl
      have hagd : AV.agg [int d.k, int d.n, .lst (vals d.a), .lst (byts d.s)] = ceA d := rfl
      have k9 : Kp N4 ((m2.new [int 0, int 0, .emp 0, .emp 0] false).set m2.next [int x.k, int x.n, .lst (vals x.a), .lst (byts x.s)]) := hk2.trans (by simp)
      have zB : m'.next ≠ m2.next := by have := hk2.next; omega
      simp [e77, f75, ixx]
      refine go_draw0 (by kernel_rfl) (by kernel_rfl) ?_
      simp [f14, lnb, hdl', ixd, hagx, hagd, q30x.go]
      cases hsm : sameM x d with
      | true =>
        simp [e77, hw2]
        exact hn2 _ _ hlt2 (by simp) k9
      | false =>
        rw [hsm] at hor
        obtain ⟨hn3, hk0, r, hr⟩ := hor.resolve_left (by simp)
        have hch1 : ch = true := by rw [hchd]; simp; omega
        have hag7 : AV.agg [int 7, int i'] = valA (7, (i' : Int)) := rfl
        have ix7 : aindexAddr Tryz.prog 66 (.lst (vals c.2)) (int 0) = some ((valA (7, (i' : Int))).cptr 0) := vals_at (i := 0) (by rw [hr]; rfl)
        have lr : c.2 ≠ [] := by rw [hr]; simp
        simp [f15, hch1, f13, hk0, f10, gB2, zB, lnc, lr, ix7, abuild, placesOf, fillAt, hag7, val_neq, e77, hw2, undefV, undef]
        try exact hn2 _ _ hlt2 (by simp) k9
    · have hge2 : i' = a.cells.length := by have := of_decide_eq_false h; omega
      simp
      refine he2 _ _ _ (by simp) ?_
      simp [f45, hw]
      exact hn _ _ hlt (by simp) ⟨X3, b, S4.more hk2⟩
  by_cases c30 : c.1 = 30
  · have hch : ch = true := by rw [hchd]; simp [c30]
    simp [c18, c19, c30, gB4, undefV, undef, lna]
    refine go_count 77 a.cells.length (fun i' s2 m2 => Kp N4 m2) (by simp) (by omega) (.refl _) ?_
    rintro i' s2 m2 hi' e77 hk2 hsame hw2 Q2 hn2 he2
    have f10 : s2.at 10 = .ptr m'.next 0 := (hsame 10 (by kernel_rfl)).trans (by simp)
    have f13 : s2.at 13 = int kk := (hsame 13 (by kernel_rfl)).trans (by simp)
    have f14 : s2.at 14 = .lst (cels b.cells) := (hsame 14 (by kernel_rfl)).trans (by simp)
    have f15 : s2.at 15 = .sc (.bool ch) := (hsame 15 (by kernel_rfl)).trans (by simp [hch])
    have f45 : s2.at 45 = int i := (hsame 45 (by kernel_rfl)).trans (by simp [e45])
    have f75 : s2.at 75 = .lst (cels a.cells) := (hsame 75 (by kernel_rfl)).trans (by simp)
    have f76 : s2.at 76 = int a.cells.length := (hsame 76 (by kernel_rfl)).trans (by simp)
    clear hsame
    have gB2 := (hk2.get m'.next (by omega)).trans gB4
    simp [e77, f76]
    refine goB_split (fun h => ?_) fun h => ?_
    · have hlt2 : i' < a.cells.length := by simpa using h
      obtain ⟨x, hx⟩ : ∃ x, a.cells[i']? = some x := ⟨_, List.getElem?_eq_getElem hlt2⟩
      obtain ⟨d, hd, hor⟩ := hkeep i' x hx
      have hdl := (List.getElem?_eq_some_iff.1 hd).1
      have ixx := cels_at hx
      have ixd := cels_at hd
      have hdl' : (i' : Int) < b.cells.length := by omega
      have q30x := q30 x d (S.inw.small x (List.mem_of_getElem? hx)).1
      have hagx : AV.agg [int x.k, int x.n, .lst (vals x.a), .lst (byts x.s)] = ceA x := rfl
      have hagd : AV.agg [int d.k, int d.n, .lst (vals d.a), .lst (byts d.s)] = ceA d := rfl
      have k9 : Kp N4 ((m2.new [int 0, int 0, .emp 0, .emp 0] false).set m2.next [int x.k, int x.n, .lst (vals x.a), .lst (byts x.s)]) := hk2.trans (by simp)
      have zB : m'.next ≠ m2.next := by have := hk2.next; omega
      simp [e77, f75, ixx]
      refine go_draw0 (by kernel_rfl) (by kernel_rfl) ?_
      simp [f14, lnb, hdl', ixd, hagx, hagd, q30x.go]
      cases hsm : sameM x d with
      | true =>
        simp [e77, hw2]
        exact hn2 _ _ hlt2 (by simp) k9
      | false =>
        rw [hsm] at hor
        obtain ⟨hn3, hk0, r, hr⟩ := hor.resolve_left (by simp)
        have hch1 : ch = true := by rw [hchd]; simp; omega
        have hag7 : AV.agg [int 7, int i'] = valA (7, (i' : Int)) := rfl
        have ix7 : aindexAddr Tryz.prog 66 (.lst (vals c.2)) (int 0) = some ((valA (7, (i' : Int))).cptr 0) := vals_at (i := 0) (by rw [hr]; rfl)
        have lr : c.2 ≠ [] := by rw [hr]; simp
        simp [f15, hch1, f13, hk0, f10, gB2, zB, lnc, lr, ix7, abuild, placesOf, fillAt, hag7, val_neq, e77, hw2, undefV, undef]
        try exact hn2 _ _ hlt2 (by simp) k9
    · have hge2 : i' = a.cells.length := by have := of_decide_eq_false h; omega
      simp
      refine he2 _ _ _ (by simp) ?_
      simp [f45, hw]
      exact hn _ _ hlt (by simp) ⟨X3, b, S4.more hk2⟩
  · have hch : ch = false := by rw [hchd]; simp [c18, c19, c30]
    simp [c18, c19, c30, gB4, undefV, undef, lna]
    refine go_count 77 a.cells.length (fun i' s2 m2 => Kp N4 m2) (by simp) (by omega) (.refl _) ?_
    rintro i' s2 m2 hi' e77 hk2 hsame hw2 Q2 hn2 he2
    have f10 : s2.at 10 = .ptr m'.next 0 := (hsame 10 (by kernel_rfl)).trans (by simp)
    have f13 : s2.at 13 = int kk := (hsame 13 (by kernel_rfl)).trans (by simp)
    have f14 : s2.at 14 = .lst (cels b.cells) := (hsame 14 (by kernel_rfl)).trans (by simp)
    have f15 : s2.at 15 = .sc (.bool ch) := (hsame 15 (by kernel_rfl)).trans (by simp [hch])
    have f45 : s2.at 45 = int i := (hsame 45 (by kernel_rfl)).trans (by simp [e45])
    have f75 : s2.at 75 = .lst (cels a.cells) := (hsame 75 (by kernel_rfl)).trans (by simp)
    have f76 : s2.at 76 = int a.cells.length := (hsame 76 (by kernel_rfl)).trans (by simp)
    clear hsame
    have gB2 := (hk2.get m'.next (by omega)).trans gB4
    simp [e77, f76]
    refine goB_split (fun h => ?_) fun h => ?_
    · have hlt2 : i' < a.cells.length := by simpa using h
      obtain ⟨x, hx⟩ : ∃ x, a.cells[i']? = some x := ⟨_, List.getElem?_eq_getElem hlt2⟩
      obtain ⟨d, hd, hor⟩ := hkeep i' x hx
      have hdl := (List.getElem?_eq_some_iff.1 hd).1
      have ixx := cels_at hx
      have ixd := cels_at hd
      have hdl' : (i' : Int) < b.cells.length := by omega
      have q30x := q30 x d (S.inw.small x (List.mem_of_getElem? hx)).1
      have hagx : AV.agg [int x.k, int x.n, .lst (vals x.a), .lst (byts x.s)] = ceA x := rfl
      have hagd : AV.agg [int d.k, int d.n, .lst (vals d.a), .lst (byts d.s)] = ceA d := rfl
      have k9 : Kp N4 ((m2.new [int 0, int 0, .emp 0, .emp 0] false).set m2.next [int x.k, int x.n, .lst (vals x.a), .lst (byts x.s)]) := hk2.trans (by simp)
      have zB : m'.next ≠ m2.next := by have := hk2.next; omega
      simp [e77, f75, ixx]
      refine go_draw0 (by kernel_rfl) (by kernel_rfl) ?_
      simp [f14, lnb, hdl', ixd, hagx, hagd, q30x.go]
      cases hsm : sameM x d with
      | true =>
        simp [e77, hw2]
        exact hn2 _ _ hlt2 (by simp) k9
      | false =>
        rw [hsm] at hor
        obtain ⟨hn3, hk0, r, hr⟩ := hor.resolve_left (by simp)
        have hch1 : ch = true := by rw [hchd]; simp; omega
        have hag7 : AV.agg [int 7, int i'] = valA (7, (i' : Int)) := rfl
        have ix7 : aindexAddr Tryz.prog 66 (.lst (vals c.2)) (int 0) = some ((valA (7, (i' : Int))).cptr 0) := vals_at (i := 0) (by rw [hr]; rfl)
        have lr : c.2 ≠ [] := by rw [hr]; simp
        simp [f15, hch1, f13, hk0, f10, gB2, zB, lnc, lr, ix7, abuild, placesOf, fillAt, hag7, val_neq, e77, hw2, undefV, undef]
        try exact hn2 _ _ hlt2 (by simp) k9
    · have hge2 : i' = a.cells.length := by have := of_decide_eq_false h; omega
      simp
      refine he2 _ _ _ (by simp) ?_
      simp [f45, hw]
      exact hn _ _ hlt (by simp) ⟨X3, b, S4.more hk2⟩
end Go.Proofs.YtnhcmcfgemoehaaGreat

/- A datum as it is read. -/
set_option linter.unusedSimpArgs false
set_option linter.unusedVariables false
set_option linter.unusedSectionVars false
namespace Go.Proofs.YtnhcmcfgemoehaaGreat
set_option maxRecDepth 4000
open Go.V
theorem cells56 : Tryz.prog.cellsOf 56 = 6 := by kernel_rfl
theorem cells3 : Tryz.prog.cellsOf 3 = 1 := by kernel_rfl
theorem cells2 : Tryz.prog.cellsOf 2 = 1 := by kernel_rfl
theorem cells9 : Tryz.prog.cellsOf 9 = 1 := by kernel_rfl
theorem cells54 : Tryz.prog.cellsOf 54 = 1 := by kernel_rfl
theorem cells43 : Tryz.prog.cellsOf 43 = 1 := by kernel_rfl
section
variable {H : Type} {en : TypeId × Value → H} {W : World}
theorem bulk_mem {d : DataW H} {l : List (DataW H)} (h : d ∈ l) : Rows.uptoBulk d ≤ Rows.uptoBulkAll l := by
  induction l with
  | nil => cases h
  | cons x r ih =>
    simp only [Rows.uptoBulkAll]
    cases List.mem_cons.1 h with
    | inl e => subst e; omega
    | inr e => have := ih e; omega
theorem bulk_one (d : DataW H) : 1 ≤ Rows.uptoBulk d := by
  cases d with
  | lit l => cases l <;> simp [Rows.uptoBulk]
  | _ => simp [Rows.uptoBulk]
theorem fitss_of : ∀ {l : List Dat}, (∀ d ∈ l, d.fits) → fitss l
  | [], _ => trivial
  | d :: l, h => ⟨h d (by simp), fitss_of fun x hx => h x (by simp [hx])⟩
theorem bulk_length (l : List (DataW H)) : l.length ≤ Rows.uptoBulkAll l := by
  induction l with
  | nil => simp [Rows.uptoBulkAll]
  | cons x r ih => have := bulk_one x; simp only [Rows.uptoBulkAll, List.length_cons]; omega
/-- A list of ints. -/
theorem ints_in {fuel : Nat} {v : Value} {d : DataW H} {ps : List MemPlace} (h : rd en Tryz.prog W fuel 54 [v] = some (d, ps)) (hb : Rows.uptoBulk d ≤ 1048576) : ∃ M : List Int, Rel (G.start W) (.lst (M.map int)) v ∧ M.length < 2 ^ 21 := by
  obtain ⟨ys, h1, h2⟩ := rd_lst (α := Int) Tryz.underlying54 (by rw [cells3]; decide) h int (fun _ _ => True) (fun cs x p _ hr hl => by
    obtain ⟨n, rfl, _, _⟩ := rd_int Tryz.underlying3 hr
    exact ⟨n, _, rfl, rfl, trivial⟩)
  refine ⟨ys, h1, ?_⟩
  rcases h2 with ⟨_, rfl⟩ | ⟨l, r, rfl, hl, _⟩
  · simp
  · have := bulk_length l
    simp only [Rows.uptoBulk] at hb
    omega
theorem datum_in (fuel : Nat) : ∀ (cs : List Value) (d : DataW H) (ps : List MemPlace), rd en Tryz.prog W fuel 56 cs = some (d, ps) → Rows.uptoBulk d ≤ 1048576 → ∃ x : Dat, Rel (G.start W) (enc x) (.agg cs.toArray) ∧ x.fits := by
  induction fuel using Nat.strongRecOn with
  | _ fuel ih =>
    intro cs d ps h hb
    cases fuel with
    | zero => cases h
    | succ fuel =>
      have lists : ∀ (v : Value) (d : DataW H) (ps : List MemPlace), rd en Tryz.prog W fuel 43 [v] = some (d, ps) → Rows.uptoBulk d ≤ 1048576 → ∃ L : List Dat, Rel (G.start W) (.lst (encs L)) v ∧ fitss L ∧ L.length < 2 ^ 21 := by
        intro v d ps h hb
        have hf : fuel ≠ 0 := by rintro rfl; cases h
        obtain ⟨ys, h1, h2⟩ := rd_lst (α := Dat) Tryz.underlying43 (by rw [cells56]; decide) h enc (fun _ y => y.fits) (fun cs x p hx hr hl => by
          obtain ⟨l, r, rfl, hm⟩ := hx
          have hb2 : Rows.uptoBulk x ≤ 1048576 := by
            have := bulk_mem hm
            simp only [Rows.uptoBulk] at hb
            omega
          obtain ⟨y, y1, y2⟩ := ih (fuel - 1) (by omega) cs x p hr hb2
          exact ⟨y, _, y1, by simp [Value.cells], y2⟩)
        rw [← encs_map] at h1
        refine ⟨ys, h1, ?_⟩
        rcases h2 with ⟨_, rfl⟩ | ⟨l, r, rfl, hl, hc⟩
        · exact ⟨trivial, by simp⟩
        · have := bulk_length l
          simp only [Rows.uptoBulk] at hb
          refine ⟨fitss_of fun y hy => ?_, by omega⟩
          obtain ⟨i, hi, e⟩ := List.getElem_of_mem hy
          exact hc i _ y (List.getElem?_eq_getElem (by omega)) (by rw [List.getElem?_eq_getElem hi, e])
      simp only [rd, DataW.trod, Tryz.underlying56, cells56] at h
      split at h
      · rename_i hlen
        rw [Option.map_eq_some_iff] at h
        obtain ⟨xs, h1, h2⟩ := h
        cases h2
        obtain ⟨c0, c1, c2, c3, c4, c5, rfl⟩ : ∃ c0 c1 c2 c3 c4 c5, cs = [c0, c1, c2, c3, c4, c5] := by
          rcases cs with _ | ⟨c0, _ | ⟨c1, _ | ⟨c2, _ | ⟨c3, _ | ⟨c4, _ | ⟨c5, _ | ⟨c6, cs⟩⟩⟩⟩⟩⟩⟩ <;> simp at hlen
          exact ⟨_, _, _, _, _, _, rfl⟩
        simp only [List.mapM_cons, List.mapM_nil, Option.bind_eq_bind, Option.bind_eq_some_iff, Option.pure_def, Option.some.injEq, cells3, cells2, cells9, cells54, cells43, List.drop_zero, List.drop_succ_cons, List.take_succ_cons, List.take_zero] at h1
        obtain ⟨x0, q0, _, ⟨x1, q1, _, ⟨x2, q2, _, ⟨x3, q3, _, ⟨x4, q4, _, ⟨x5, q5, _, rfl, rfl⟩, rfl⟩, rfl⟩, rfl⟩, rfl⟩, rfl⟩ := h1
        simp only [List.map_cons, List.map_nil, Rows.uptoBulk, Rows.uptoBulkAll] at hb
        obtain ⟨K, rK, _, _⟩ := rd_int Tryz.underlying3 (d := x0.1) (ps := x0.2) q0
        obtain ⟨N, rN, _, wN⟩ := rd_int Tryz.underlying2 (d := x1.1) (ps := x1.2) q1
        obtain ⟨S, rS, dS⟩ := rd_string Tryz.underlying9 (d := x2.1) (ps := x2.2) q2
        obtain ⟨M, rM, lM⟩ := ints_in (d := x3.1) (ps := x3.2) q3 (by omega)
        obtain ⟨L, rL, fL, lL⟩ := lists c4 x4.1 x4.2 q4 (by omega)
        obtain ⟨T, rT, fT, lT⟩ := lists c5 x5.1 x5.2 q5 (by omega)
        cases rK; cases rN; cases rS
        refine ⟨.mk K N S M L T, ?_, ?_⟩
        · refine ⟨[_, _, _, _, _, _], rfl, .cons rfl (.cons rfl (.cons rfl (.cons rM (.cons rL (.cons rT .nil))))), ?_⟩
          intro u hu
          have one : ∀ {x : List AV} {v : Value}, Rel (G.start W) (.lst x) v → v.oneCell' = true := by
            intro x v hr
            simp only [Rel] at hr
            obtain ⟨_, _, _, _, rfl, _⟩ := hr
            rfl
          simp only [List.mem_cons, List.not_mem_nil, or_false] at hu
          rcases hu with rfl | rfl | rfl | rfl | rfl | rfl
          · rfl
          · rfl
          · rfl
          · exact one rM
          · exact one rL
          · exact one rT
        · rw [Dat.fits]
          refine ⟨⟨?_, ?_, lM, lL, lT⟩, fL, fT⟩
          · simpa [Lit.wf, IntKind.min, IntKind.max, IntKind.signed, IntKind.bits] using wN
          · rw [dS] at hb
            simp only [Rows.uptoBulk] at hb
            omega
      · cases h
theorem dats_in {fuel : Nat} {v : Value} {d : DataW H} {ps : List MemPlace} (h : rd en Tryz.prog W fuel 43 [v] = some (d, ps)) (hb : Rows.uptoBulk d ≤ 1048576) : ∃ L : List Dat, Rel (G.start W) (.lst (encs L)) v ∧ fitss L ∧ L.length < 2 ^ 21 := by
  obtain ⟨ys, h1, h2⟩ := rd_lst (α := Dat) Tryz.underlying43 (by rw [cells56]; decide) h enc (fun _ y => y.fits) (fun cs x p hx hr hl => by
    obtain ⟨l, r, rfl, hm⟩ := hx
    have hb2 : Rows.uptoBulk x ≤ 1048576 := by
      have := bulk_mem hm
      simp only [Rows.uptoBulk] at hb
      omega
    obtain ⟨y, y1, y2⟩ := datum_in (fuel - 1) cs x p hr hb2
    exact ⟨y, _, y1, by simp [Value.cells], y2⟩)
  rw [← encs_map] at h1
  refine ⟨ys, h1, ?_⟩
  rcases h2 with ⟨_, rfl⟩ | ⟨l, r, rfl, hl, hc⟩
  · exact ⟨trivial, by simp⟩
  · have := bulk_length l
    simp only [Rows.uptoBulk] at hb
    refine ⟨fitss_of fun y hy => ?_, by omega⟩
    obtain ⟨i, hi, e⟩ := List.getElem_of_mem hy
    exact hc i _ y (List.getElem?_eq_getElem (by omega)) (by rw [List.getElem?_eq_getElem hi, e])
end
end Go.Proofs.YtnhcmcfgemoehaaGreat

/- From the walks to the rows. -/
set_option linter.unusedSimpArgs false
set_option linter.unusedVariables false
set_option linter.unusedSectionVars false
namespace Go.Proofs.YtnhcmcfgemoehaaGreat
open Go.V
theorem own_knob : ownKnob Tryz.prog.godebug = none := by kernel_rfl
theorem laid_out : laidOutB Tryz.prog = true := by kernel_rfl
theorem readable43 : Tryz.prog.readableRec 43 = true ∧ 43 < Tryz.prog.types.size := ⟨by kernel_rfl, of_decide_eq_true (by kernel_rfl)⟩
section
variable {H : Type} {en : TypeId × Value → H} {W : World}
set_option maxRecDepth 100000 in
theorem trod_dats {v : Value} {d : DataW H} {p : List MemPlace} {base : Nat} (hv : Value.okWide Tryz.prog W .any base 43 v) (h : DataW.Trod en Tryz.prog W 0 (fun _ => true) true 43 v d p) (hb : Rows.uptoBulk d ≤ 1048576) : ∃ L : List Dat, Rel (G.start W) (.lst (encs L)) v ∧ fitss L ∧ L.length < 2 ^ 21 := by
  obtain ⟨fuel, h⟩ := h
  have hv : v.cells.toList = [v] := by
    cases v with
    | agg cs => simp [Value.okWide, Cell.okWide, Cell.ok, Tryz.underlying43] at hv
    | _ => rfl
  rw [hv] at h
  exact dats_in h hb
end
theorem fitss_all : ∀ {l : List Dat}, fitss l → ∀ d ∈ l, d.fits
  | [], _, d, h => by cases h
  | x :: l, h, d, hd => by
    cases List.mem_cons.1 hd with
    | inl e => subst e; exact h.1
    | inr e => exact fitss_all h.2 d e
end Go.Proofs.YtnhcmcfgemoehaaGreat

/- Calls as they are read. -/
set_option linter.unusedSimpArgs false
set_option linter.unusedVariables false
set_option linter.unusedSectionVars false
namespace Go.Proofs.YtnhcmcfgemoehaaGreat
open Go.V
theorem cells51 : Tryz.prog.cellsOf 51 = 2 := by kernel_rfl
theorem cells68 : Tryz.prog.cellsOf 68 = 2 := by kernel_rfl
theorem cells66 : Tryz.prog.cellsOf 66 = 1 := by kernel_rfl
theorem readable63 : Tryz.prog.readableRec 63 = true ∧ 63 < Tryz.prog.types.size := ⟨by kernel_rfl, of_decide_eq_true (by kernel_rfl)⟩
section
variable {H : Type} {en : TypeId × Value → H} {W : World}
theorem val_in (fuel : Nat) (cs : List Value) (d : DataW H) (ps : List MemPlace) (h : rd en Tryz.prog W fuel 51 cs = some (d, ps)) : ∃ v : Val, Rel (G.start W) (valA v) (.agg cs.toArray) := by
  cases fuel with
  | zero => cases h
  | succ fuel =>
    simp only [rd, DataW.trod, Tryz.underlying51, cells51] at h
    split at h
    · rename_i hlen
      rw [Option.map_eq_some_iff] at h
      obtain ⟨xs, h1, h2⟩ := h
      cases h2
      obtain ⟨c0, c1, rfl⟩ : ∃ c0 c1, cs = [c0, c1] := by
        rcases cs with _ | ⟨c0, _ | ⟨c1, _ | ⟨c2, cs⟩⟩⟩ <;> simp at hlen
        exact ⟨_, _, rfl⟩
      simp only [List.mapM_cons, List.mapM_nil, Option.bind_eq_bind, Option.bind_eq_some_iff, Option.pure_def, Option.some.injEq, cells3, cells2, List.drop_zero, List.drop_succ_cons, List.take_succ_cons, List.take_zero] at h1
      obtain ⟨x0, q0, _, ⟨x1, q1, _, rfl, rfl⟩, rfl⟩ := h1
      obtain ⟨K, rK, _, _⟩ := rd_int Tryz.underlying3 (d := x0.1) (ps := x0.2) q0
      obtain ⟨N, rN, _, _⟩ := rd_int Tryz.underlying2 (d := x1.1) (ps := x1.2) q1
      cases rK; cases rN
      refine ⟨(K, N), ?_⟩
      refine ⟨[_, _], rfl, .cons rfl (.one rfl), ?_⟩
      intro u hu
      simp only [List.mem_cons, List.not_mem_nil, or_false] at hu
      rcases hu with rfl | rfl
      · rfl
      · rfl
    · cases h
theorem vals_in {fuel : Nat} {v : Value} {d : DataW H} {ps : List MemPlace} (h : rd en Tryz.prog W fuel 66 [v] = some (d, ps)) : ∃ l : List Val, Rel (G.start W) (.lst (vals l)) v := by
  obtain ⟨ys, h1, _⟩ := rd_lst (α := Val) Tryz.underlying66 (by rw [cells51]; decide) h valA (fun _ _ => True) (fun cs x p hx hr hl => by
    obtain ⟨y, y1⟩ := val_in (fuel - 1) cs x p hr
    exact ⟨y, _, y1, by simp [Value.cells], trivial⟩)
  exact ⟨ys, h1⟩
theorem cal_in (fuel : Nat) (cs : List Value) (d : DataW H) (ps : List MemPlace) (h : rd en Tryz.prog W fuel 68 cs = some (d, ps)) : ∃ c : Cal, Rel (G.start W) (calA c) (.agg cs.toArray) := by
  cases fuel with
  | zero => cases h
  | succ fuel =>
    simp only [rd, DataW.trod, Tryz.underlying68, cells68] at h
    split at h
    · rename_i hlen
      rw [Option.map_eq_some_iff] at h
      obtain ⟨xs, h1, h2⟩ := h
      cases h2
      obtain ⟨c0, c1, rfl⟩ : ∃ c0 c1, cs = [c0, c1] := by
        rcases cs with _ | ⟨c0, _ | ⟨c1, _ | ⟨c2, cs⟩⟩⟩ <;> simp at hlen
        exact ⟨_, _, rfl⟩
      simp only [List.mapM_cons, List.mapM_nil, Option.bind_eq_bind, Option.bind_eq_some_iff, Option.pure_def, Option.some.injEq, cells3, cells66, List.drop_zero, List.drop_succ_cons, List.take_succ_cons, List.take_zero] at h1
      obtain ⟨x0, q0, _, ⟨x1, q1, _, rfl, rfl⟩, rfl⟩ := h1
      obtain ⟨K, rK, _, _⟩ := rd_int Tryz.underlying3 (d := x0.1) (ps := x0.2) q0
      obtain ⟨l, rl⟩ := vals_in (d := x1.1) (ps := x1.2) q1
      cases rK
      refine ⟨(K, l), ?_⟩
      refine ⟨[_, _], rfl, .cons rfl (.one rl), ?_⟩
      intro u hu
      simp only [List.mem_cons, List.not_mem_nil, or_false] at hu
      rcases hu with rfl | rfl
      · rfl
      · simp only [Rel] at rl
        obtain ⟨_, _, _, _, rfl, _⟩ := rl
        rfl
    · cases h
theorem cals_in {fuel : Nat} {v : Value} {d : DataW H} {ps : List MemPlace} (h : rd en Tryz.prog W fuel 63 [v] = some (d, ps)) (hb : Rows.uptoBulk d ≤ 1048576) : ∃ l : List Cal, Rel (G.start W) (.lst (cals l)) v ∧ l.length < 2 ^ 21 := by
  obtain ⟨ys, h1, h2⟩ := rd_lst (α := Cal) Tryz.underlying63 (by rw [cells68]; decide) h calA (fun _ _ => True) (fun cs x p hx hr hl => by
    obtain ⟨y, y1⟩ := cal_in (fuel - 1) cs x p hr
    exact ⟨y, _, y1, by simp [Value.cells], trivial⟩)
  refine ⟨ys, h1, ?_⟩
  rcases h2 with ⟨_, rfl⟩ | ⟨l, r, rfl, hl, hc⟩
  · simp
  · have := bulk_length l
    simp only [Rows.uptoBulk] at hb
    omega
set_option maxRecDepth 100000 in
theorem trod_cals {v : Value} {d : DataW H} {p : List MemPlace} {base : Nat} (hv : Value.okWide Tryz.prog W .any base 63 v) (h : DataW.Trod en Tryz.prog W 0 (fun _ => true) true 63 v d p) (hb : Rows.uptoBulk d ≤ 1048576) : ∃ L : List Cal, Rel (G.start W) (.lst (cals L)) v ∧ L.length < 2 ^ 21 := by
  obtain ⟨fuel, h⟩ := h
  have hv : v.cells.toList = [v] := by
    cases v with
    | agg cs => simp [Value.okWide, Cell.okWide, Cell.ok, Tryz.underlying63] at hv
    | _ => rfl
  rw [hv] at h
  exact cals_in h hb
end
end Go.Proofs.YtnhcmcfgemoehaaGreat
