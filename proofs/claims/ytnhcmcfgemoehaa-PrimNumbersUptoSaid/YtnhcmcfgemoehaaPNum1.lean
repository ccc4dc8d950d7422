import Derived.Test.YtnhcmcfgemoehaaPTold
/- Numbers. -/
set_option linter.unusedSimpArgs false
set_option linter.unusedVariables false
set_option linter.unusedSectionVars false
namespace Go.Proofs.Ytnhcmcfgemoehaa
open Go.V
attribute [local simp] Nat.add_assoc

section
variable {P : Program} {t : TypeId} {x y : Operand} {q k : IntKind} {a b : Int}
theorem abin_mul : abin P .mul t x y (.sc (.int q a)) (.sc (.int q b)) = some (.sc (.int q (q.wrap (a * b)))) := by
  simp only [abin, plain, eqGuard, binOp, Op.intArith]; simp; rfl
theorem abin_quo (h : b ≠ 0) : abin P .quo t x y (.sc (.int q a)) (.sc (.int q b)) = some (.sc (.int q (q.wrap (a.tdiv b)))) := by
  simp only [abin, plain, eqGuard, binOp, Op.intDiv]; simp [h]; rfl
theorem abin_rem (h : b ≠ 0) : abin P .rem t x y (.sc (.int q a)) (.sc (.int q b)) = some (.sc (.int q (a.tmod b))) := by
  simp only [abin, plain, eqGuard, binOp, Op.intDiv]; simp [h]; rfl
theorem abin_shr32 : abin P .shr t x y (.sc (.int .u64 a)) (.sc (.int k 32)) = some (.sc (.int .u64 (a.fdiv (2 ^ 32)))) := by
  simp only [abin, plain, eqGuard, binOp, Op.shift]; simp; rfl
theorem abin_and32 {n : Nat} (h : n < 2 ^ 64) : abin P .and t x y (.sc (.int .u64 n)) (.sc (.int .u64 4294967295)) = some (.sc (.int .u64 ((n % 2 ^ 32 : Nat) : Int))) := by
  have e : abin P .and t x y (.sc (.int .u64 n)) (.sc (.int .u64 4294967295)) = some (.sc (.int .u64 (IntKind.u64.wrap ((BitVec.ofInt 64 n &&& BitVec.ofInt 64 4294967295).toNat)))) := rfl
  rw [e]
  have h2 : (BitVec.ofInt 64 (n : Int) &&& BitVec.ofInt 64 4294967295).toNat = n % 2 ^ 32 := by
    rw [BitVec.toNat_and]
    have h3 : (BitVec.ofInt 64 4294967295).toNat = 2 ^ 32 - 1 := rfl
    have h4 : (BitVec.ofInt 64 (n : Int)).toNat = n := by
      rw [BitVec.toNat_ofInt]
      omega
    rw [h3, h4, Nat.and_two_pow_sub_one_eq_mod]
  rw [h2, IntWalk.u64_in _ (by omega)]
end
theorem un_neg {P : Program} {a : Int} : pureRun P (Op.unary .neg (.int .i64 a)) = some (.int .i64 (IntKind.i64.wrap (-a))) := by
  rw [← Int.zero_sub]; rfl
theorem amin2 {t u T : TypeId} {a b : Int} {m : Mem} : abuiltin Try.prog .min #[t, u] T [int a, int b] m = some (int (min a b), m) := by
  show Option.map (·, m) (Option.map AV.sc (pureRun Try.prog (Builtin.min_ #[t, u] T [Value.int .i64 a, Value.int .i64 b].toArray))) = _
  have : pureRun Try.prog (Builtin.min_ #[t, u] T [Value.int .i64 a, Value.int .i64 b].toArray) = some (.int .i64 (if b < a then b else a)) := rfl
  rw [this]
  have : (if b < a then b else a) = min a b := by simp only [Int.min_def]; split <;> split <;> omega
  rw [this]
  rfl
theorem amax2 {t u T : TypeId} {a b : Int} {m : Mem} : abuiltin Try.prog .max #[t, u] T [int a, int b] m = some (int (max a b), m) := by
  show Option.map (·, m) (Option.map AV.sc (pureRun Try.prog (Builtin.max_ #[t, u] T [Value.int .i64 a, Value.int .i64 b].toArray))) = _
  have : pureRun Try.prog (Builtin.max_ #[t, u] T [Value.int .i64 a, Value.int .i64 b].toArray) = some (.int .i64 (if b > a then b else a)) := rfl
  rw [this]
  have : (if b > a then b else a) = max a b := by simp only [Int.max_def]; split <;> split <;> omega
  rw [this]
  rfl

/-- Is a number a fixnum? -/
def isIn (n : Int) : Bool := decide (-1152921504606846976 ≤ n) && decide (n ≤ 1152921504606846975)
theorem isIn_iff {n : Int} : isIn n = true ↔ -1152921504606846976 ≤ n ∧ n ≤ 1152921504606846975 := by unfold isIn; simp
theorem a40 (n : Int) : Gives Try.prog cp 40 [int n] (.sc (.bool (isIn n))) := by
  refine gives_run Try.func40 rfl rfl rfl rfl (by simp) (by simp [Try.f40]) (by simp [Try.f40]) fun m => ?_
  simp [Try.f40, show cp.keepRes 40 = false from rfl]
  by_cases h : -1152921504606846976 ≤ n
  · simp [h, isIn]
  · simp [h, isIn]
def allIn (l : List Int) : Int := if l.all isIn then 0 else 1
set_option maxHeartbeats 4000000 in
theorem a77 (l : List Int) (hl : l.length ≤ 1000) : Gives Try.prog cp 77 [.lst (l.map int)] (int (allIn l)) := by
  refine gives_run Try.func77 rfl rfl rfl rfl (by simp) (by simp [Try.f77]) (by simp [Try.f77]) fun m => ?_
  simp [Try.f77, show cp.keepRes 77 = false from rfl]
  refine go_count 7 l.length (fun i s' m' => Kp m m' ∧ s'.at 5 = .lst (l.map int) ∧ s'.at 6 = int l.length ∧ ∀ j n, j < i → l[j]? = some n → isIn n = true) (by simp) (by omega) ⟨by simp, by simp, by simp, fun j p hj => absurd hj (Nat.not_lt_zero j)⟩ ?_
  rintro i s' m' hi e7 ⟨hkp, e5, e6, hno⟩ hsame hw Q' hn he
  simp [e7, e6]
  refine goB_split (fun h => ?_) fun h => ?_
  · have hlt : i < l.length := by have := of_decide_eq_true h; omega
    obtain ⟨p, hp⟩ : ∃ p, l[i]? = some p := ⟨_, List.getElem?_eq_getElem hlt⟩
    have hx := aindexAddr_lst (q := .i64) (x := int p) (l := l.map int) (i := i) Try.underlying22 tsize2 (by rw [List.getElem?_map, hp]; rfl) (by simp)
    simp [e7, e5, hx, (a40 p).go]
    cases e : isIn p with
    | false =>
      have : allIn l = 1 := by
        unfold allIn
        rw [List.all_eq_false.2 ⟨p, List.mem_of_getElem? hp, by simp [e]⟩]
        rfl
      simp
      refine he _ _ _ (by simp) ?_
      simp [this]
      exact hkp
    | true =>
      simp [e7, hw]
      refine hn _ _ hlt (by simp) ⟨hkp, by simp [e5], by simp [e6], fun j n hj hp' => ?_⟩
      by_cases ej : j = i
      · subst ej; rw [hp] at hp'; cases hp'; exact e
      · exact hno j n (by omega) hp'
  · have hge : i = l.length := by have := of_decide_eq_false h; omega
    subst hge
    have : allIn l = 0 := by
      unfold allIn
      rw [List.all_eq_true.2]
      · rfl
      intro p hp
      obtain ⟨j, hj, rfl⟩ := List.mem_iff_getElem.1 hp
      exact hno j _ hj (List.getElem?_eq_getElem hj)
    simp
    refine he _ _ _ (by simp) ?_
    simp [this]
    exact hkp
theorem a77' (a b : Int) : Gives Try.prog cp 77 [.lst [int a, int b]] (int (if isIn a && isIn b then 0 else 1)) := by
  have := a77 [a, b] (by simp)
  have e : allIn [a, b] = if isIn a && isIn b then 0 else 1 := by simp [allIn]
  rw [e] at this
  exact this
theorem a78 (n : Int) : Gives Try.prog cp 78 [int n] (.tup [int (if isIn n then n else 0), int (if isIn n then 0 else 10)]) := by
  refine gives_run Try.func78 rfl rfl rfl rfl (by simp) (by simp [Try.f78]) (by simp [Try.f78]) fun m => ?_
  simp [Try.f78, show cp.keepRes 78 = false from rfl, (a40 n).go]
  cases isIn n <;> simp
/-- May a number be parted by another one? -/
def prtR (a b : Int) : Int := if isIn a && isIn b then (if b = 0 then 11 else 0) else 1
theorem a82 (a b : Int) : Gives Try.prog cp 82 [int a, int b] (int (prtR a b)) := by
  refine gives_run Try.func82 rfl rfl rfl rfl (by simp) (by simp [Try.f82]) (by simp [Try.f82]) fun m => ?_
  simp [Try.f82, show cp.keepRes 82 = false from rfl, abuildSlice, placesOf, fillAt, zeros]
  have hz : ∀ M : Mem, ∀ v, M.get m.next = some (.cells [int a, int b] false v) → fzvs M [.sl m.next 0 2 1 false (some 2)] = ([.lst [int a, int b]], M.mark m.next [int a, int b] v) := by
    intro M v h
    simp [fzvs, fz1, h, chunk]
  rw [(a77' a b).goF (hz _ _ (by simp; rfl))]
  unfold prtR
  generalize hb : isIn b = y
  cases isIn a <;> cases y <;> simp
  by_cases h2 : b = 0
  · simp [h2]
  · simp [h2]
/-- A quotient, and a rest. -/
def quoR (a b : Int) : Int × Int := if prtR a b = 0 then (if isIn (a.tdiv b) then (a.tdiv b, 0) else (0, 10)) else (0, prtR a b)
def remR (a b : Int) : Int × Int := if prtR a b = 0 then (a.tmod b, 0) else (0, prtR a b)
theorem prt_zero {a b : Int} (h : prtR a b = 0) : isIn a = true ∧ isIn b = true ∧ b ≠ 0 := by
  unfold prtR at h
  split at h
  · split at h
    · cases h
    · rename_i h1 h2
      simp only [Bool.and_eq_true] at h1
      exact ⟨h1.1, h1.2, h2⟩
  · cases h
theorem tdiv_abs (a b : Int) : (a.tdiv b).natAbs ≤ a.natAbs := by
  rw [Int.natAbs_tdiv]; exact Nat.div_le_self _ _
theorem a55 (a b : Int) : Gives Try.prog cp 55 [int a, int b] (.tup [int (quoR a b).1, int (quoR a b).2]) := by
  refine gives_run Try.func55 rfl rfl rfl rfl (by simp) (by simp [Try.f55]) (by simp [Try.f55]) fun m => ?_
  simp [Try.f55, show cp.keepRes 55 = false from rfl, (a82 a b).go]
  by_cases h : prtR a b = 0
  · obtain ⟨h1, h2, h3⟩ := prt_zero h
    rw [isIn_iff] at h1
    have h4 := tdiv_abs a b
    have hw : IntKind.i64.wrap (a.tdiv b) = a.tdiv b := IntWalk.i64_in _ (by omega)
    simp [h, abin_quo h3, hw, (a78 _).go, quoR]
    cases isIn (a.tdiv b) <;> simp
  · simp [h, quoR]
theorem a56 (a b : Int) : Gives Try.prog cp 56 [int a, int b] (.tup [int (remR a b).1, int (remR a b).2]) := by
  refine gives_run Try.func56 rfl rfl rfl rfl (by simp) (by simp [Try.f56]) (by simp [Try.f56]) fun m => ?_
  simp [Try.f56, show cp.keepRes 56 = false from rfl, (a82 a b).go]
  by_cases h : prtR a b = 0
  · obtain ⟨h1, h2, h3⟩ := prt_zero h
    simp [h, abin_rem h3, remR]
  · simp [h, remR]
theorem a47 {a b : Int} (h1 : isIn a = true) (h2 : isIn b = true) (h3 : isIn (a + b) = true) : Gives Try.prog cp 47 [int a, int b] (.tup [int (a + b), int 0]) := by
  refine gives_run Try.func47 rfl rfl rfl rfl (by simp) (by simp [Try.f47]) (by simp [Try.f47]) fun m => ?_
  simp [Try.f47, show cp.keepRes 47 = false from rfl, abuildSlice, placesOf, fillAt, zeros]
  have hz : ∀ M : Mem, ∀ v, M.get m.next = some (.cells [int a, int b] false v) → fzvs M [.sl m.next 0 2 1 false (some 2)] = ([.lst [int a, int b]], M.mark m.next [int a, int b] v) := by
    intro M v h
    simp [fzvs, fz1, h, chunk]
  rw [(a77' a b).goF (hz _ _ (by simp; rfl))]
  have h4 := isIn_iff.1 h3
  have hw : IntKind.i64.wrap (a + b) = a + b := IntWalk.i64_in _ (by omega)
  simp [h1, h2, hw, (a78 _).go, h3]
theorem a80 {a : Int} (h : isIn a = true) : Gives Try.prog cp 80 [int a] (.sc (.int .u64 (a.natAbs : Int))) := by
  refine gives_run Try.func80 rfl rfl rfl rfl (by simp) (by simp [Try.f80]) (by simp [Try.f80]) fun m => ?_
  have h4 := isIn_iff.1 h
  have hw : IntKind.i64.wrap (-a) = -a := IntWalk.i64_in _ (by omega)
  have hm : max a (-a) = (a.natAbs : Int) := by omega
  have hw2 : IntKind.u64.wrap (a.natAbs : Int) = a.natAbs := IntWalk.u64_in _ (by omega)
  simp [Try.f80, show cp.keepRes 80 = false from rfl, amax2, un_neg, hw, hm, hw2]
theorem a81 {n : Nat} (neg : Bool) (hn : n ≤ 1152921504606846976) (h : isIn (if neg then -(n : Int) else n) = true) : Gives Try.prog cp 81 [.sc (.int .u64 0), .sc (.int .u64 n), .sc (.bool neg)] (.tup [int (if neg then -(n : Int) else n), int 0]) := by
  refine gives_run Try.func81 rfl rfl rfl rfl (by simp) (by simp [Try.f81]) (by simp [Try.f81]) fun m => ?_
  have h5 : ¬ (1152921504606846976 : Int) < n := by omega
  have hw : IntKind.i64.wrap (n : Int) = n := IntWalk.i64_in _ (by omega)
  have hw2 : IntKind.i64.wrap (-(n : Int)) = -n := IntWalk.i64_in _ (by omega)
  cases neg
  · simp at h
    simp [Try.f81, show cp.keepRes 81 = false from rfl, h5, hw, (a78 _).go, h]
  · simp at h
    simp [Try.f81, show cp.keepRes 81 = false from rfl, h5, hw, un_neg, hw2, (a78 _).go, h]
theorem a59 (n : Int) : Gives Try.prog cp 59 [int n] (.agg [int 1, int n]) := by
  refine gives_run Try.func59 rfl rfl rfl rfl (by simp) (by simp [Try.f59]) (by simp [Try.f59]) fun m => ?_
  simp [Try.f59, show cp.keepRes 59 = false from rfl, abuild, placesOf, fillAt]
theorem a8 (n : Int) : Gives Try.prog cp 8 [int n] (.agg [int 1, int n]) := by
  refine gives_run Try.func8 rfl rfl rfl rfl (by simp) (by simp [Try.f8]) (by simp [Try.f8]) fun m => ?_
  simp [Try.f8, show cp.keepRes 8 = false from rfl, abuild, placesOf, fillAt]
theorem a53 (a b : Int) : Gives Try.prog cp 53 [int a, int b] (.tup [int (min a b), int 0]) := by
  refine gives_run Try.func53 rfl rfl rfl rfl (by simp) (by simp [Try.f53]) (by simp [Try.f53]) fun m => ?_
  simp [Try.f53, show cp.keepRes 53 = false from rfl, amin2]
theorem a54 (a b : Int) : Gives Try.prog cp 54 [int a, int b] (.tup [int (max a b), int 0]) := by
  refine gives_run Try.func54 rfl rfl rfl rfl (by simp) (by simp [Try.f54]) (by simp [Try.f54]) fun m => ?_
  simp [Try.f54, show cp.keepRes 54 = false from rfl, amax2]
end Go.Proofs.Ytnhcmcfgemoehaa
