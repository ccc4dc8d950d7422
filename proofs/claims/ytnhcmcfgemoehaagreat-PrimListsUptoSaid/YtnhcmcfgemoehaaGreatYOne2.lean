import Derived.Test.YtnhcmcfgemoehaaGreatYOne
/- What may be by itself: the two functions. -/
set_option linter.unusedSimpArgs false
set_option linter.unusedVariables false
set_option linter.unusedSectionVars false
namespace Go.Proofs.YtnhcmcfgemoehaaGreat
set_option maxRecDepth 4000
open Go.V

/-- 'a &^ b'. -/
def bic (a b : Int) : Int := IntKind.i64.wrap (BitVec.ofInt 64 a &&& ~~~ BitVec.ofInt 64 b).toNat
theorem abin_andNot {t : TypeId} {x y : Operand} {a b : Int} : abin Tryz.prog .andNot t x y (int a) (int b) = some (int (bic a b)) := by
  show Option.map AV.sc (pureRun Tryz.prog (do eqGuard .andNot t x y (.int .i64 a) (.int .i64 b); binOp .andNot t (.int .i64 a) (.int .i64 b))) = _
  rfl

theorem and_split {w : Nat} (x m : BitVec w) : (x &&& m) ||| (x &&& ~~~ m) = x := by
  ext i hi
  simp
  cases x[i] <;> cases m[i] <;> rfl

theorem andNot_zero (x : BitVec 64) (k : Nat) (hk : k < 64) : x &&& ~~~ (BitVec.ofNat 64 (2 ^ k - 1)) = 0 ↔ x.toNat < 2 ^ k := by
  have h1 : (x &&& BitVec.ofNat 64 (2 ^ k - 1)).toNat = x.toNat % 2 ^ k := by
    rw [BitVec.toNat_and, BitVec.toNat_ofNat, Nat.mod_eq_of_lt, Nat.and_two_pow_sub_one_eq_mod]
    have : 2 ^ k ≤ 2 ^ 63 := Nat.pow_le_pow_right (by omega) (by omega)
    have : (2:Nat) ^ 63 < 2 ^ 64 := by decide
    omega
  constructor
  · intro h
    have := and_split x (BitVec.ofNat 64 (2 ^ k - 1))
    rw [h] at this
    have h2 : x = x &&& BitVec.ofNat 64 (2 ^ k - 1) := by simpa using this.symm
    rw [h2, h1]
    exact Nat.mod_lt _ (Nat.two_pow_pos k)
  · intro h
    have h2 : x = x &&& BitVec.ofNat 64 (2 ^ k - 1) := by
      apply BitVec.eq_of_toNat_eq
      rw [h1, Nat.mod_eq_of_lt h]
    rw [h2, BitVec.and_assoc]
    simp

theorem andNot_int {N : Int} (hN : -9223372036854775808 ≤ N ∧ N ≤ 9223372036854775807) (k : Nat) (hk : k < 63) : (IntKind.i64.wrap (BitVec.ofInt 64 N &&& ~~~ (BitVec.ofInt 64 ((2 ^ k - 1 : Nat) : Int))).toNat = 0) ↔ (0 ≤ N ∧ N < 2 ^ k) := by
  have e : BitVec.ofInt 64 ((2 ^ k - 1 : Nat) : Int) = BitVec.ofNat 64 (2 ^ k - 1) := by simp
  have h1 := andNot_zero (BitVec.ofInt 64 N) k (by omega)
  rw [e]
  have h2 : (IntKind.i64.wrap (BitVec.ofInt 64 N &&& ~~~ (BitVec.ofNat 64 (2 ^ k - 1))).toNat = 0) ↔ (BitVec.ofInt 64 N &&& ~~~ (BitVec.ofNat 64 (2 ^ k - 1))) = 0 := by
    have hlt := (BitVec.ofInt 64 N &&& ~~~ (BitVec.ofNat 64 (2 ^ k - 1))).isLt
    rw [IntKind.wrap_i64]
    constructor
    · intro h
      apply BitVec.eq_of_toNat_eq
      simp only [BitVec.ofNat_eq_ofNat, BitVec.toNat_ofNat, Nat.zero_mod]
      omega
    · intro h; rw [h]; simp
  rw [h2, h1, BitVec.toNat_ofInt]
  have hp : (2:Nat) ^ k ≤ 2 ^ 62 := Nat.pow_le_pow_right (by omega) (by omega)
  have hp2 : ((2 ^ k : Nat) : Int) = 2 ^ k := by simp
  rw [← hp2]
  constructor
  · intro h; omega
  · intro h; omega

theorem bic_one {N : Int} (hN : -9223372036854775808 ≤ N ∧ N ≤ 9223372036854775807) : bic N 1 = 0 ↔ (N = 0 ∨ N = 1) := (andNot_int hN 1 (by omega)).trans (by constructor <;> intro h <;> omega)
theorem bic_127 {N : Int} (hN : -9223372036854775808 ≤ N ∧ N ≤ 9223372036854775807) : bic N 127 = 0 ↔ (0 ≤ N ∧ N ≤ 127) := (andNot_int hN 7 (by omega)).trans (by constructor <;> intro h <;> omega)
@[simp] theorem encs_isEmpty (l : List Dat) : (encs l).isEmpty = l.isEmpty := by cases l <;> simp [encs]

def Dat.K : Dat → Int | .mk K _ _ _ _ _ => K
def Dat.L : Dat → List Dat | .mk _ _ _ _ L _ => L
def Dat.T : Dat → List Dat | .mk _ _ _ _ _ T => T

/-- May a datum be by itself? -/
def alone : Dat → Bool
  | .mk K N S M L T =>
    if K = 1 then (decide (-1152921504606846976 ≤ N) && decide (N ≤ 1152921504606846975)) && decide (S = []) && M.isEmpty && L.isEmpty && T.isEmpty
    else if K = 2 then (decide (N = 0) || decide (N = 1)) && decide (S = []) && M.isEmpty && L.isEmpty && T.isEmpty
    else if K = 3 then decide (0 ≤ N) && decide (N ≤ 127) && decide (S = []) && M.isEmpty && L.isEmpty && T.isEmpty
    else if K = 4 then (decide (S.length ≤ 256) && S.all asc) && decide (N = 0) && M.isEmpty && L.isEmpty && T.isEmpty
    else if K = 5 then Sym S && (decide (M.length ≤ 16) && !M.any wrong) && decide (N = 0) && L.isEmpty && T.isEmpty
    else if K = 6 ∨ K = 8 then decide (N = 0) && decide (S = []) && M.isEmpty && T.isEmpty
    else if K = 7 then decide (N = 0) && decide (S = []) && M.isEmpty && !L.isEmpty && (match T with | [d] => decide (d.K ≠ 6) && decide (d.K ≠ 7) | _ => false)
    else false

set_option maxHeartbeats 2000000 in
theorem g59 {K N : Int} {S : List UInt8} {M : List Int} {L T : List Dat} (h : Fits K N S M L T) : Gives Tryz.prog cf 105 [enc (.mk K N S M L T)] (.sc (.bool (alone (.mk K N S M L T)))) := by
  refine gives_go Tryz.func105 rfl rfl rfl (by simp [Tryz.f105]) (by simp [Tryz.f105]) fun m Q hQ => ?_
  simp only [Tryz.f105, show cf.keepRes 105 = false from rfl, enc] at hQ ⊢
  have hm := h.m
  have hl := h.l
  have ht := h.t
  have kp : ∀ x y z w : List AV, Kp m ((((m.new x false).new y false).set (m.next + 1) z).set (m.next + 1) w) := fun _ _ _ _ => (((Kp.new _ _ _).newr _ _).set (by simp) _).set (by simp) _
  by_cases h1 : K = 1
  · subst h1
    simp [zeroCells]
    refine goH_gives (g66 N) fun m1 k1 => ?_
    have e1 := k1.get (m.next + 1) (by simp)
    simp at e1
    have k1' : Kp m m1 := .trans (kp _ _ _ _) k1
    cases hb : (decide (-1152921504606846976 ≤ N) && decide (N ≤ 1152921504606846975)) with
    | false =>
      simp
      exact hQ _ _ _ (leave_sc (.inr rfl) at_set_eq ⟨by simp [alone, hb], k1'⟩)
    | true =>
      simp [e1]
      refine goH_gives (g67 (K := 1) (N := 0) (S := S) (M := (M.map int)) (L := (encs L)) (T := (encs T)) (by simp; try omega) (by simp; try omega) (by simp; try omega)) fun m2 k2 => ?_
      simp
      exact hQ _ _ _ (leave_sc (.inr rfl) at_set_eq ⟨by simp [alone, hb, Bool.and_assoc], k1'.trans k2⟩)
  by_cases h2 : K = 2
  · subst h2
    by_cases hb : N = 0 ∨ N = 1
    · have a4 := (bic_one h.n).2 hb
      simp [zeroCells, abin_andNot, a4]
      refine goH_gives (g67 (K := 2) (N := 0) (S := S) (M := (M.map int)) (L := (encs L)) (T := (encs T)) (by simp; try omega) (by simp; try omega) (by simp; try omega)) fun m2 k2 => ?_
      simp
      exact hQ _ _ _ (leave_sc (.inr rfl) at_set_eq ⟨by simp [alone, hb, Bool.and_assoc], (kp _ _ _ _).trans k2⟩)
    · have a4 : ¬ (bic N 1 = 0) := fun h' => hb ((bic_one h.n).1 h')
      have hb' : (decide (N = 0) || decide (N = 1)) = false := by
        rw [← Bool.not_eq_true]; simpa using hb
      simp [zeroCells, abin_andNot, a4]
      exact hQ _ _ _ (leave_sc (.inr rfl) at_set_eq ⟨by simp [alone, hb'], kp _ _ _ _⟩)
  by_cases h3 : K = 3
  · subst h3
    by_cases hb : 0 ≤ N ∧ N ≤ 127
    · have a4 := (bic_127 h.n).2 hb
      simp [zeroCells, abin_andNot, a4]
      refine goH_gives (g67 (K := 3) (N := 0) (S := S) (M := (M.map int)) (L := (encs L)) (T := (encs T)) (by simp; try omega) (by simp; try omega) (by simp; try omega)) fun m2 k2 => ?_
      simp
      exact hQ _ _ _ (leave_sc (.inr rfl) at_set_eq ⟨by simp [alone, hb, Bool.and_assoc], (kp _ _ _ _).trans k2⟩)
    · have a4 : ¬ (bic N 127 = 0) := fun h' => hb ((bic_127 h.n).1 h')
      have hb' : (decide (0 ≤ N) && decide (N ≤ 127)) = false := by
        rw [← Bool.not_eq_true]; simpa using hb
      simp [zeroCells, abin_andNot, a4]
      exact hQ _ _ _ (leave_sc (.inr rfl) at_set_eq ⟨by simp [alone, hb'], kp _ _ _ _⟩)
  by_cases h4 : K = 4
  · subst h4
    simp [zeroCells]
    refine goH_gives (g68 S h.s) fun m1 k1 => ?_
    have e1 := k1.get (m.next + 1) (by simp)
    simp at e1
    have k1' : Kp m m1 := .trans (kp _ _ _ _) k1
    cases hb : (decide (S.length ≤ 256) && S.all asc) with
    | false =>
      simp
      exact hQ _ _ _ (leave_sc (.inr rfl) at_set_eq ⟨by simp [alone, hb], k1'⟩)
    | true =>
      simp [e1]
      refine goH_gives (g67 (K := 4) (N := N) (S := []) (M := (M.map int)) (L := (encs L)) (T := (encs T)) (by simp; try omega) (by simp; try omega) (by simp; try omega)) fun m2 k2 => ?_
      simp
      exact hQ _ _ _ (leave_sc (.inr rfl) at_set_eq ⟨by simp [alone, hb, Bool.and_assoc], k1'.trans k2⟩)
  by_cases h5 : K = 5
  · subst h5
    have kp5 : ∀ x y z w v : List AV, Kp m (((((m.new x false).new y false).set (m.next + 1) z).set (m.next + 1) w).set (m.next + 1) v) := fun _ _ _ _ _ => (kp _ _ _ _).set (by simp) _
    simp [zeroCells]
    refine goH_gives (g12 S (by have := h.s; omega)) fun m1 k1 => ?_
    have e0 := k1.get m.next (by simp; omega)
    have e1 := k1.get (m.next + 1) (by simp)
    simp at e0 e1
    have k1' : Kp m m1 := .trans (kp5 _ _ _ _ _) k1
    cases hs : Sym S with
    | false =>
      simp
      exact hQ _ _ _ (leave_sc (.inr rfl) at_set_eq ⟨by simp [alone, hs], k1'⟩)
    | true =>
      simp [e0]
      by_cases hb : M.length ≤ 16
      · have hb' : (M.length : Int) ≤ 16 := by omega
        simp [hb', e0]
        refine goH_gives (g70 M h.m) fun m2 k2 => ?_
        have f1 := (k2.get (m.next + 1) (by have := k1.next; simp at this; omega)).trans e1
        cases hw : M.any wrong with
        | true =>
          simp
          exact hQ _ _ _ (leave_sc (.inr rfl) at_set_eq ⟨by simp [alone, hs, hw], k1'.trans k2⟩)
        | false =>
          simp [f1]
          refine goH_gives (g67 (K := 5) (N := N) (S := []) (M := []) (L := (encs L)) (T := (encs T)) (by simp; try omega) (by simp; try omega) (by simp; try omega)) fun m3 k3 => ?_
          simp
          exact hQ _ _ _ (leave_sc (.inr rfl) at_set_eq ⟨by simp [alone, hs, hw, hb, Bool.and_assoc], (k1'.trans k2).trans k3⟩)
      · have hb' : ¬ (M.length : Int) ≤ 16 := by omega
        simp [hb']
        exact hQ _ _ _ (leave_sc (.inr rfl) at_set_eq ⟨by simp [alone, hs, hb], k1'⟩)
  by_cases h6 : K = 6
  · subst h6
    simp [zeroCells]
    refine goH_gives (g67 (K := 6) (N := N) (S := S) (M := (M.map int)) (L := []) (T := (encs T)) (by simp; try omega) (by simp; try omega) (by simp; try omega)) fun m2 k2 => ?_
    simp
    exact hQ _ _ _ (leave_sc (.inr rfl) at_set_eq ⟨by simp [alone, Bool.and_assoc], (kp _ _ _ _).trans k2⟩)
  by_cases h8 : K = 8
  · subst h8
    simp [zeroCells]
    refine goH_gives (g67 (K := 8) (N := N) (S := S) (M := (M.map int)) (L := []) (T := (encs T)) (by simp; try omega) (by simp; try omega) (by simp; try omega)) fun m2 k2 => ?_
    simp
    exact hQ _ _ _ (leave_sc (.inr rfl) at_set_eq ⟨by simp [alone, Bool.and_assoc], (kp _ _ _ _).trans k2⟩)
  by_cases h7 : K = 7
  · subst h7
    simp [zeroCells]
    have kp5 : ∀ x y z w v : List AV, Kp m (((((m.new x false).new y false).set (m.next + 1) z).set (m.next + 1) w).set (m.next + 1) v) := fun _ _ _ _ _ => (kp _ _ _ _).set (by simp) _
    cases L with
    | nil =>
      simp [encs]
      exact hQ _ _ _ (leave_sc (.inr rfl) at_set_eq ⟨by simp [alone], kp5 _ _ _ _ _⟩)
    | cons l0 lr =>
      simp [encs]
      match T with
      | [] =>
        simp [encs]
        exact hQ _ _ _ (leave_sc (.inr rfl) at_set_eq ⟨by simp [alone], kp5 _ _ _ _ _⟩)
      | d :: d2 :: tr =>
        have hne : ¬ ((tr.length : Int) + 1 + 1 = 1) := by omega
        simp [encs, hne]
        exact hQ _ _ _ (leave_sc (.inr rfl) at_set_eq ⟨by simp [alone], kp5 _ _ _ _ _⟩)
      | [.mk K2 N2 S2 M2 L2 T2] =>
        simp [encs, enc, aindexAddr_lst0 Tryz.underlying43 tsize56]
        by_cases e6 : K2 = 6
        · simp [e6]
          exact hQ _ _ _ (leave_sc (.inr rfl) at_set_eq ⟨by simp [alone, Dat.K, e6], kp5 _ _ _ _ _⟩)
        · by_cases e7 : K2 = 7
          · simp [e6, e7, enc, aindexAddr_lst0 Tryz.underlying43 tsize56]
            exact hQ _ _ _ (leave_sc (.inr rfl) at_set_eq ⟨by simp [alone, Dat.K, e7], kp5 _ _ _ _ _⟩)
          · simp [e6, e7, enc, aindexAddr_lst0 Tryz.underlying43 tsize56]
            refine goH_gives (g67 (K := 7) (N := N) (S := S) (M := (M.map int)) (L := []) (T := []) (by simp; try omega) (by simp; try omega) (by simp; try omega)) fun m2 k2 => ?_
            simp
            exact hQ _ _ _ (leave_sc (.inr rfl) at_set_eq ⟨by simp [alone, Dat.K, e6, e7, Bool.and_assoc], (kp5 _ _ _ _ _).trans k2⟩)
  · simp [h1, h2, h3, h4, h5, h6, h7, h8, zeroCells]
    exact hQ _ _ _ (leave_sc (.inr rfl) at_set_eq ⟨by simp [alone, h1, h2, h3, h4, h5, h6, h7, h8], ((Kp.new _ _ _).newr _ _).set (by simp) _⟩)
end Go.Proofs.YtnhcmcfgemoehaaGreat
