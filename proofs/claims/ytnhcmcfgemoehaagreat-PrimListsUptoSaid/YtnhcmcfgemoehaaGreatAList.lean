import Derived.Test.YtnhcmcfgemoehaaGreatACall
/- A list's values, taken out of an arena; turned about. -/
set_option linter.unusedSimpArgs false
set_option linter.unusedVariables false
set_option linter.unusedSectionVars false
namespace Go.Proofs.YtnhcmcfgemoehaaGreat
set_option maxRecDepth 4000
open Go.V
attribute [local simp] Nat.add_assoc

/-- Every pair has two values. -/
def Pairs (a : ArM) : Prop := ∀ c ∈ a.cells, c.k = 1 → ∃ x y, c.a = [x, y]
def carM (a : ArM) (v : Val) : Val := (getM a v).1.a.getD 0 (0, 0)
def cdrM (a : ArM) (v : Val) : Val := (getM a v).1.a.getD 1 (0, 0)
theorem Pairs.get {a : ArM} (h : Pairs a) {v : Val} (hk : (getM a v).1.k = 1) : (getM a v).1.a = [carM a v, cdrM a v] := by
  unfold carM cdrM
  unfold getM at *
  split at hk
  · rename_i i hi
    obtain ⟨_, c, hc⟩ := ixM_some hi
    simp only [List.getD_eq_getElem?_getD, hc, Option.getD_some] at hk ⊢
    obtain ⟨x, y, e⟩ := h c (List.mem_of_getElem? hc) hk
    simp [e]
  · simp [zeroC] at hk
/-- A list's values; what is wrong with it. -/
def listM (a : ArM) : Nat → Val → List Val × Int
  | n, v => if (getM a v).1.k = 1 then (match n with
      | 0 => ([], 6)
      | n + 1 => if (listM a n (cdrM a v)).2 = 0 then (carM a v :: (listM a n (cdrM a v)).1, 0) else ([], (listM a n (cdrM a v)).2)) else if v.1 = 4 then ([], 0) else ([], 1)
theorem listM_no {a : ArM} {n : Nat} {v : Val} (h : (getM a v).1.k ≠ 1) : listM a n v = if v.1 = 4 then ([], 0) else ([], 1) := by
  cases n <;> rw [listM, if_neg h]
theorem listM_0 {a : ArM} {v : Val} (h : (getM a v).1.k = 1) : listM a 0 v = ([], 6) := by rw [listM, if_pos h]
theorem listM_s {a : ArM} {n : Nat} {v : Val} (h : (getM a v).1.k = 1) : listM a (n + 1) v = if (listM a n (cdrM a v)).2 = 0 then (carM a v :: (listM a n (cdrM a v)).1, 0) else ([], (listM a n (cdrM a v)).2) := by rw [listM, if_pos h]
theorem listM_err {a : ArM} : ∀ (n : Nat) (v : Val), (listM a n v).2 ≠ 0 → (listM a n v).1 = []
  | n, v => by
    by_cases h : (getM a v).1.k = 1
    · cases n with
      | zero => simp [listM_0 h]
      | succ n =>
        rw [listM_s h]
        split
        · intro h; exact absurd rfl h
        · intro _; rfl
    · rw [listM_no h]
      split <;> simp
theorem acc_len {m0 m1 : Mem} {vs : List Val} {x : AV} (h : Acc m0 m1 2 true (vals vs) x) (R : TypeId) (m : Mem) : abuiltin Tryz.prog .len #[66] R [x] m = some (int vs.length, m) := by
  rcases h with ⟨h1, rfl⟩ | ⟨h, id, w, rfl, h2, h3, h4⟩
  · have : vs = [] := by simpa [vals] using h1
    subst this
    exact alen_emp Tryz.underlying66
  · rw [vals_length, alen_sl Tryz.underlying66]
section
variable {X : Nat → Prop} {A C : Nat} {n : Int} {l : List Val} {a : ArM} {k : Int} {m : Mem}
/-- What taking a list's values does. -/
def ListK (C A : Nat) (n : Int) (l : List Val) (k : Int) (r : List Val × Int) (m : Mem) (v : AV) (m' : Mem) : Prop :=
  Acc m m' 2 true (vals r.1) v ∧ KpC (fun j => j = C) m m' ∧ has m' C (clC A n l (if r.2 = 0 then k else failK k r.2))
set_option maxHeartbeats 8000000 in
theorem q130 (hA : Ar X A a m) (hsm : Small a) (hp : Pairs a) (hXC : ¬ X C) (hC : has m C (clC A n l k)) (v : Val) : wph Tryz.prog ca (.func 130) [.ptr C 0, valA v] m (ListK C A n l k (listM a 1024 v) m) := by
  refine wph_go Tryz.func130 rfl rfl (by simp [Tryz.f130]) (by simp [Tryz.f130]) fun Q hQ => ?_
  simp only [Tryz.f130, show ca.keepRes 130 = true from rfl, show ca.keepArgs 130 = false from rfl] at hQ ⊢
  simp
  refine go_loop (fun q s m' => ∃ (vs : List Val) (w : Val), q = 1025 - vs.length ∧ vs.length ≤ 1024 ∧ s.at 0 = .ptr C 0 ∧ s.at 3 = .ptr m.next 0 ∧ Kp m m' ∧ m.next < m'.next ∧ (∃ u, m'.get m.next = some (.cells [int w.1, int w.2] false u)) ∧ Acc (m.new [int 0, int 0] false) m' 2 true (vals vs) (s.at 5) ∧ listM a 1024 v = (if (listM a (1024 - vs.length) w).2 = 0 then (vs ++ (listM a (1024 - vs.length) w).1, 0) else ([], (listM a (1024 - vs.length) w).2))) 1025 ?_ ?_
  · refine ⟨[], v, by simp, by simp, by simp, by simp, by simp, by simp, ⟨_, by simp; rfl⟩, .inl ⟨rfl, by simp⟩, ?_⟩
    simp
    split
    · rename_i h; rw [← h]
    · rename_i h; rw [← listM_err _ _ h]
  · rintro q s m' ⟨vs, w, rfl, hvl, d0, d3, hkp, hlt, ⟨u, hB⟩, hacc, heq⟩ Q' hn he
    have hCm := hC.kp hkp
    have q1 := q112 (hA.kp hkp) hsm hCm w
    have ln := acc_len hacc
    have n0 : m.next ≠ m'.next := by omega
    have n1 : C ≠ m.next := by have := hC.1; omega
    simp [d0, d3, hB, valA_agg, q1.go, ceA]
    obtain ⟨M2, hM2⟩ : ∃ M2, M2 = (m'.new [int 0, int 0, .emp 0, .emp 0] false).set m'.next [int (getM a w).1.k, int (getM a w).1.n, .lst (vals (getM a w).1.a), .lst (byts (getM a w).1.s)] := ⟨_, rfl⟩
    have kM : Kp m' M2 := by rw [hM2]; simp
    have nM : M2.next = m'.next + 1 := by rw [hM2]; simp
    have gc : M2.get m'.next = some (.cells [int (getM a w).1.k, int (getM a w).1.n, .lst (vals (getM a w).1.a), .lst (byts (getM a w).1.s)] false (m'.clock + 2)) := by rw [hM2]; simp
    have gB := (kM.get m.next hlt).trans hB
    have hkp2 := hkp.trans kM
    have fin : ∀ (s' : Sl) (m7 : Mem) (r : List Val × Int) (x : AV), s'.at 4 = x → Acc (m.new [int 0, int 0] false) m7 2 true (vals r.1) x → KpC (fun j => j = C) m m7 → has m7 C (clC A n l (if r.2 = 0 then k else failK k r.2)) → listM a 1024 v = r → Q .ret s' m7 := by
      rintro s' m7 r x h4 hx kc hc rfl
      refine hQ _ _ _ ?_
      rw [leave_ret]
      simp [aresult, h4, oneOf]
      exact ⟨hx.imp id fun ⟨h, i, w, e, h1, h2⟩ => ⟨h, i, w, e, by simp at h1; omega, h2⟩, kc, hc⟩
    rw [← hM2]
    clear hM2
    have fail : ∀ (s' : Sl) (kd : Int) (d : Option Tmp) (kk : List It), kd ≠ 0 → listM a 1024 v = ([], kd) → (∀ m7, KpC (fun j => j = C) m m7 → has m7 C (clC A n l (failK k kd)) → goP Tryz.prog ca 43 Q' (aput 43 s' d (valA (0, 0))) kk m7) → goH Tryz.prog ca 43 Q' (.func 134) [.ptr C 0, int kd] d kk s' M2 := by
      intro s' kd d kk h0 _ hgo
      refine goH_of (q134 (A := A) (n := n) (l := l) (k := k) (m := M2) (hCm.kp kM) kd) ?_
      rintro _ m7 ⟨rfl, kc7, hC7⟩
      exact hgo m7 ((KpC.of (.of hkp2)).trans kc7) hC7
    by_cases hk : (getM a w).1.k = 1
    · simp [hk, ln]
      by_cases hf : vs.length = 1024
      · simp [hf, d0]
        rw [hf, Nat.sub_self, listM_0 hk, if_neg (by decide)] at heq
        refine fail _ 6 _ _ (by decide) heq fun m7 kc7 hC7 => ?_
        simp
        refine he _ _ _ (by simp) ?_
        simp
        exact fin _ _ ([], 6) (.emp 0) (by simp) (.inl ⟨rfl, rfl⟩) kc7 hC7 heq
      · have hf' : ¬ (vs.length : Int) = 1024 := by omega
        have ea := hp.get hk
        have hx0 : aindexAddr Tryz.prog 66 (.lst (vals (getM a w).1.a)) (int 0) = some ((valA (carM a w)).cptr 0) := vals_at (i := 0) (by rw [ea]; rfl)
        have hx1 : aindexAddr Tryz.prog 66 (.lst (vals (getM a w).1.a)) (int 1) = some ((valA (cdrM a w)).cptr 0) := vals_at (i := 1) (by rw [ea]; rfl)
        have hsrc := src_one (m := M2.new (valA (carM a w)).cells false) (id := M2.next) (c := some 1) (k := 2) (ag := true) (x := valA (carM a w)) (w := M2.clock + 1) (f := false) rfl (by simp) (by simp) (by simp [valA])
        obtain ⟨v3, m6, p1, p2, p3, p4⟩ := acc_any (T := 66) (m := M2.new (valA (carM a w)).cells false) (zs := [valA (carM a w)]) ((hacc.kp kM).kp (.new _ _ _)) (by simp; omega) (vals_ok _) el66 (by simp [okAll_cons, okAll_nil]) (by simp [fzx, fzvs]) (by simp; omega)
        have n7 := p3.next
        simp at n7
        have ho : ∀ j, owns (s.at 5) j → m.next < j ∧ j < m'.next := fun j h => by
          have := acc_lt hacc j h
          simp at this
          omega
        have k6 : Kp m m6 := by
          have k5 := hkp2.newr (valA (carM a w)).cells false
          have q := k5.next
          exact ⟨by omega, fun j hj => (p3.get j (by omega) fun h => by have := ho j h; omega).trans (k5.get j hj), fun j hj => have q := p3.x j (by omega) fun h => by have := ho j h; omega
            ⟨q.1.trans (k5.x j hj).1, q.2.trans (k5.x j hj).2⟩⟩
        have gc6 := p3.get m'.next (by simp; omega) fun h => by have := ho _ h; omega
        have gB6 := p3.get m.next (by simp; omega) fun h => by have := ho _ h; omega
        have nc : m'.next ≠ M2.next := by omega
        have nB : m.next ≠ M2.next := by omega
        simp [nc, gc] at gc6
        simp [nB, gB] at gB6
        simp only [valA_cells] at hsrc p1 p3
        simp [hf', gc, hk, d0, d3, hx0, abuildSlice, zeros, fillAt, abuiltin, hsrc, p1, gc6, gB6, hx1]
        have e1 : 1024 - vs.length = 1024 - (vs ++ [carM a w]).length + 1 := by simp; omega
        rw [e1, listM_s hk] at heq
        refine hn _ _ _ (by simp; omega) ⟨vs ++ [carM a w], cdrM a w, rfl, by simp; omega, by simp [d0], by simp [d3], k6.set (Nat.le_refl _) _, by simp; omega, ⟨_, by simp; rfl⟩, ?_, ?_⟩
        · rw [vals_append, vals_cons, vals_nil]
          simp
          refine p2.imp id fun ⟨h, i, w, e, h1, h2, h3⟩ => ⟨h, i, w, e, h1, by simpa using h2, ?_⟩
          simp at h1
          have : i ≠ m.next := by omega
          simp [this, h3]
        · rw [heq]
          by_cases h0 : (listM a (1024 - (vs ++ [carM a w]).length) (cdrM a w)).2 = 0
          · simp only [if_pos h0]; simp
          · simp only [if_neg h0]
    · simp [hk, gc, gB, d3]
      rw [listM_no hk] at heq
      by_cases h4 : w.1 = 4
      · simp [h4]
        refine he _ _ _ (by simp) ?_
        simp
        rw [if_pos h4] at heq
        simp at heq
        exact fin _ _ (vs, 0) (s.at 5) (by simp) (hacc.kp kM) (.of (.of hkp2)) (hCm.kp kM) heq
      · simp [h4, d0]
        rw [if_neg h4, if_neg (by decide)] at heq
        refine fail _ 1 _ _ (by decide) heq fun m7 kc7 hC7 => ?_
        simp
        refine he _ _ _ (by simp) ?_
        simp
        exact fin _ _ ([], 1) (.emp 0) (by simp) (.inl ⟨rfl, rfl⟩) kc7 hC7 heq
end
/-- One value of a row is written. -/
theorem splice_vals : ∀ (l : List Val) (i : Nat) (v : Val), i < l.length → splice (flat (vals l)) (i * 2) [int v.1, int v.2] = flat (vals (l.set i v))
  | x :: l, 0, v, _ => by simp [vals_cons, flat_cons, splice, valA]
  | x :: l, i + 1, v, h => by
    have ih := splice_vals l i v (by simpa using h)
    have e : (i + 1) * 2 = i * 2 + 2 := by omega
    simp only [splice] at ih
    rw [List.set_cons_succ, vals_cons, vals_cons, flat_cons, flat_cons, ← ih, e]
    simp [splice, valA]
theorem q131 {m0 m : Mem} {l : List Val} {x : AV} (h : Acc m0 m 2 true (vals l) x) (hl : l.length ≤ 4096) : wph Tryz.prog ca (.func 131) [x] m fun _ m' => Acc m0 m' 2 true (vals l.reverse) x ∧ KpC (owns x) m m' := by
  refine wph_go Tryz.func131 rfl rfl (by simp [Tryz.f131]) (by simp [Tryz.f131]) fun Q hQ => ?_
  simp only [Tryz.f131, show ca.keepRes 131 = false from rfl, show ca.keepArgs 131 = true from rfl] at hQ ⊢
  have wl : IntKind.i64.wrap ((l.length : Int) - 1) = l.length - 1 := IntWalk.i64_in _ (by omega)
  simp [acc_len h, wl]
  rcases id h with ⟨h1, rfl⟩ | ⟨hne, id, w, rfl, h2, h3, h4⟩
  · have : l = [] := by simpa [vals] using h1
    subst this
    refine go_loop (fun q s m' => s.at 2 = int 0 ∧ s.at 3 = int (-1) ∧ m' = m) 0 ⟨by simp, by simp, rfl⟩ ?_
    rintro q s m' ⟨e2, e3, rfl⟩ Q' hn he
    simp [e2, e3]
    refine he _ _ _ (by simp) ?_
    simp
    refine hQ _ _ _ ⟨.inl rfl, [], rfl, h, .refl _ _⟩
  rw [vals_length] at *
  refine go_loop (fun q s m' => ∃ (i : Nat) (l' : List Val), q = l.length - i ∧ i ≤ l.length ∧ s.at 0 = .sl id 0 l.length 2 true none ∧ s.at 2 = int i ∧ s.at 3 = int ((l.length : Int) - 1 - i) ∧ l'.length = l.length ∧ (∀ q, q < l.length → l'[q]? = if q < i ∨ l.length ≤ q + i then l[l.length - 1 - q]? else l[q]?) ∧ (∃ w, m'.get id = some (.cells (flat (vals l')) false w)) ∧ KpC (fun j => id = j) m m') l.length ?_ ?_
  · refine ⟨0, l, by simp, by simp, by simp, by simp, by simp, rfl, fun q hq => ?_, ⟨w, h4⟩, .refl _ _⟩
    rw [if_neg (by omega)]
  · rintro q s m' ⟨i, l', rfl, hi, d0, d2, d3, hll, hch, ⟨u, hg⟩, kc⟩ Q' hn he
    simp [d2, d3]
    by_cases hc : (i : Int) < (l.length : Int) - 1 - i
    · have hix := fun (q : Nat) (hq : q < l.length) => aindexAddr_sl (P := Tryz.prog) (q := .i64) (ag := true) (c := none) (id := id) (off := 0) (len := l.length) (i := q) Tryz.underlying66 tsize51 hq
      obtain ⟨j, hj⟩ : ∃ j : Nat, j = l.length - 1 - i := ⟨_, rfl⟩
      have hji : (l.length : Int) - 1 - i = (j : Int) := by omega
      obtain ⟨v1, hv1⟩ : ∃ v, l'[i]? = some v := ⟨_, List.getElem?_eq_getElem (by omega)⟩
      obtain ⟨v2, hv2⟩ : ∃ v, l'[j]? = some v := ⟨_, List.getElem?_eq_getElem (by omega)⟩
      have a1 : (vals l')[i]? = some (valA v1) := by rw [vals_get, hv1]; rfl
      have a2 : (vals l')[j]? = some (valA v2) := by rw [vals_get, hv2]; rfl
      obtain ⟨f1, f2⟩ := flat_at (vals_ok l') a1
      obtain ⟨g1, g2⟩ := flat_at (vals_ok l') a2
      have s1 : (flat (vals l')).take (i * 2) ++ int v2.1 :: int v2.2 :: (flat (vals l')).drop (i * 2 + 2) = flat (vals (l'.set i v2)) := by simpa [splice] using splice_vals l' i v2 (by omega)
      have s2 : (flat (vals (l'.set i v2))).take (j * 2) ++ int v1.1 :: int v1.2 :: (flat (vals (l'.set i v2))).drop (j * 2 + 2) = flat (vals ((l'.set i v2).set j v1)) := by simpa [splice] using splice_vals (l'.set i v2) j v1 (by simp; omega)
      simp only [valA_cells] at f2 g2
      rw [hji] at hc d3
      have hix1 := hix i (by omega)
      have hix2 := hix j (by omega)
      have hl2 : (flat (vals (l'.set i v2))).length = (flat (vals l')).length := by rw [← s1]; simp; omega
      simp [hji, hc]
      refine go_draw0 (by kernel_rfl) (by kernel_rfl) ?_
      simp [d0, d2, d3, hix1, hix2, hg, f1, f2, g1, g2, s1, s2, hl2]
      have wi : IntKind.i64.wrap ((i : Int) + 1) = ((i + 1 : Nat) : Int) := by rw [IntWalk.i64_in _ (by omega)]; omega
      have wj : IntKind.i64.wrap ((j : Int) - 1) = (l.length : Int) - 1 - ((i + 1 : Nat) : Int) := by rw [IntWalk.i64_in _ (by omega)]; omega
      rw [wi, wj]
      refine hn _ _ _ (by omega) ⟨i + 1, (l'.set i v2).set j v1, rfl, by omega, by simp [d0], by simp, by simp, by simp [hll], fun q hq => ?_, ⟨_, by simp; rfl⟩, (kc.trans ((kc_set id _ _).mono fun j h => h.symm)).trans ((kc_set id _ _).mono fun j h => h.symm)⟩
      have c1 := hch i (by omega)
      rw [if_neg (by omega), hv1] at c1
      have c2 := hch j (by omega)
      rw [if_neg (by omega), hv2] at c2
      by_cases hq1 : q = j
      · subst hq1
        rw [List.getElem?_set_self (by simp; omega), if_pos (.inr (by omega)), c1]
        congr 1; omega
      · rw [List.getElem?_set_ne (by omega)]
        by_cases hq2 : q = i
        · subst hq2
          rw [List.getElem?_set_self (by omega), if_pos (.inl (by omega)), c2, hj]
        · rw [List.getElem?_set_ne (by omega), hch q hq]
          by_cases hc2 : q < i ∨ l.length ≤ q + i
          · have hc3 : q < i + 1 ∨ l.length ≤ q + (i + 1) := by omega
            rw [if_pos hc2, if_pos hc3]
          · have hc3 : ¬ (q < i + 1 ∨ l.length ≤ q + (i + 1)) := by omega
            rw [if_neg hc2, if_neg hc3]
    · simp [hc]
      refine he _ _ _ (by simp) ?_
      simp
      refine hQ _ _ _ ⟨.inl rfl, [], rfl, .inr ⟨by simpa [vals] using hne, id, u, by simp, h2, Nat.lt_of_lt_of_le h3 kc.next, ?_⟩, kc⟩
      have : l' = l.reverse := by
        refine List.ext_getElem? fun q => ?_
        by_cases hq : q < l.length
        · rw [hch q hq, List.getElem?_reverse hq]
          split
          · rfl
          · congr 1; omega
        · rw [List.getElem?_eq_none (by omega), List.getElem?_eq_none (by simp; omega)]
      rw [← this]
      exact hg
end Go.Proofs.YtnhcmcfgemoehaaGreat

/- Going through values from their end. -/
namespace Go.Proofs.YtnhcmcfgemoehaaGreat
set_option maxRecDepth 4000
open Go.V
attribute [local simp] Nat.add_assoc

def lists (l : List (List Val)) : List AV := l.map fun x => .lst (vals x)
@[simp] theorem lists_length (l : List (List Val)) : (lists l).length = l.length := by simp [lists]
theorem lists_get (l : List (List Val)) (i : Nat) : (lists l)[i]? = (l[i]?).map fun x => .lst (vals x) := by simp [lists]
set_option maxHeartbeats 4000000 in
theorem back181 {J : Nat → Mem → Prop} {lo db : Nat} (l : List Val) (hl : l.length < 2 ^ 21)
    (hJ : ∀ k x m, l[k]? = some x → J (k + 1) m → wph Tryz.prog ca (.yield lo) [int k, valA x] m fun v m' => v = .sc (.bool true) ∧ J k m')
    (hb : ∀ k m, J k m → has m db [.lst (vals l)]) (m : Mem) (h : J l.length m) : wph Tryz.prog ca (.func 181) [.yl lo, .ptr db 0] m fun v m' => v = .tup [] ∧ J 0 m' := by
  refine wph_go Tryz.func181 rfl rfl (by simp [Tryz.f181]) (by simp [Tryz.f181]) fun Q hQ => ?_
  simp only [Tryz.f181, show ca.keepRes 181 = false from rfl, show ca.keepArgs 181 = false from rfl] at hQ ⊢
  obtain ⟨bl, bv, be⟩ := hb _ _ h
  have w0 : IntKind.i64.wrap ((l.length : Int) - 1) = (l.length : Int) - 1 := IntWalk.i64_in _ (by omega)
  simp [be, w0]
  refine go_loop (fun k s m' => k ≤ l.length ∧ s.at 3 = int ((k : Int) - 1) ∧ s.at 0 = .yl lo ∧ s.at 1 = .ptr db 0 ∧ J k m') l.length ⟨Nat.le_refl _, by simp, by simp, by simp, h⟩ ?_
  rintro k s m' ⟨hk, e3, e0, e1, hJk⟩ Q' hn he
  obtain ⟨bl, bv, be⟩ := hb _ _ hJk
  simp [e3]
  cases k with
  | zero =>
    simp
    refine he _ _ _ (by simp) ?_
    simp
    exact hQ _ _ _ (by rw [leave_none (.inl rfl)]; exact ⟨rfl, hJk⟩)
  | succ k =>
    obtain ⟨x, hx⟩ : ∃ x, l[k]? = some x := ⟨_, List.getElem?_eq_getElem (by omega)⟩
    have hx' : (vals l)[k]? = some (valA x) := by rw [vals_get, hx]; rfl
    have e3' : s.at 3 = int (k : Int) := by rw [e3]; congr 3; omega
    have ek : ((k : Int) + 1 - 1) = (k : Int) := by omega
    have hix := aindexAddr_lst (P := Tryz.prog) (q := .i64) Tryz.underlying66 tsize51 hx' (by simp)
    have h0 : (0 : Int) ≤ k := by omega
    have w1 : IntKind.i64.wrap ((k : Int) - 1) = (k : Int) - 1 := IntWalk.i64_in _ (by omega)
    have h1 : (1 : Int) ≤ (k : Int) + 1 := by omega
    simp [e0, e1, e3', be, hix, ek, h1]
    refine goH_of (hJ k x m' hx hJk) ?_
    rintro v m2 ⟨rfl, hJ2⟩
    simp [e3', w1]
    refine hn k _ _ (by omega) ⟨by omega, by simp, by simp [e0], by simp [e1], hJ2⟩
theorem q171 (l : List Val) (m : Mem) : EH Tryz.prog ca (.func 171) [.lst (vals l)] m (.fn (.func 181) [] [.ptr m.next 0]) (m.new [.lst (vals l)] false) := by
  refine eh_of (wph_go Tryz.func171 rfl rfl (by simp [Tryz.f171]) (by simp [Tryz.f171]) fun Q hQ => ?_)
  simp only [Tryz.f171, show ca.keepRes 171 = false from rfl, show ca.keepArgs 171 = false from rfl] at hQ ⊢
  simp
  exact hQ _ _ _ ⟨.inr rfl, _, rfl, by simp [oneOf]⟩
set_option maxHeartbeats 4000000 in
theorem back172 {J : Nat → Mem → Prop} {lo db : Nat} (l : List (List Val)) (hl : l.length < 2 ^ 21)
    (hJ : ∀ k x m, l[k]? = some x → J (k + 1) m → wph Tryz.prog ca (.yield lo) [int k, .lst (vals x)] m fun v m' => v = .sc (.bool true) ∧ J k m')
    (hb : ∀ k m, J k m → has m db [.lst (lists l)]) (m : Mem) (h : J l.length m) : wph Tryz.prog ca (.func 172) [.yl lo, .ptr db 0] m fun v m' => v = .tup [] ∧ J 0 m' := by
  refine wph_go Tryz.func172 rfl rfl (by simp [Tryz.f172]) (by simp [Tryz.f172]) fun Q hQ => ?_
  simp only [Tryz.f172, show ca.keepRes 172 = false from rfl, show ca.keepArgs 172 = false from rfl] at hQ ⊢
  obtain ⟨bl, bv, be⟩ := hb _ _ h
  have w0 : IntKind.i64.wrap ((l.length : Int) - 1) = (l.length : Int) - 1 := IntWalk.i64_in _ (by omega)
  simp [be, w0]
  refine go_loop (fun k s m' => k ≤ l.length ∧ s.at 3 = int ((k : Int) - 1) ∧ s.at 0 = .yl lo ∧ s.at 1 = .ptr db 0 ∧ J k m') l.length ⟨Nat.le_refl _, by simp, by simp, by simp, h⟩ ?_
  rintro k s m' ⟨hk, e3, e0, e1, hJk⟩ Q' hn he
  obtain ⟨bl, bv, be⟩ := hb _ _ hJk
  simp [e3]
  cases k with
  | zero =>
    simp
    refine he _ _ _ (by simp) ?_
    simp
    exact hQ _ _ _ (by rw [leave_none (.inl rfl)]; exact ⟨rfl, hJk⟩)
  | succ k =>
    obtain ⟨x, hx⟩ : ∃ x, l[k]? = some x := ⟨_, List.getElem?_eq_getElem (by omega)⟩
    have hx' : (lists l)[k]? = some (.lst (vals x)) := by rw [lists_get, hx]; rfl
    have e3' : s.at 3 = int (k : Int) := by rw [e3]; congr 3; omega
    have ek : ((k : Int) + 1 - 1) = (k : Int) := by omega
    have hix := aindexAddr_lst (P := Tryz.prog) (q := .i64) Tryz.underlying175 tsize66 hx' (by simp)
    have h0 : (0 : Int) ≤ k := by omega
    have w1 : IntKind.i64.wrap ((k : Int) - 1) = (k : Int) - 1 := IntWalk.i64_in _ (by omega)
    have h1 : (1 : Int) ≤ (k : Int) + 1 := by omega
    simp [e0, e1, e3', be, hix, ek, h1]
    refine goH_of (hJ k x m' hx hJk) ?_
    rintro v m2 ⟨rfl, hJ2⟩
    simp [e3', w1]
    refine hn k _ _ (by omega) ⟨by omega, by simp, by simp [e0], by simp [e1], hJ2⟩
theorem q133 (l : List (List Val)) (m : Mem) : EH Tryz.prog ca (.func 133) [.lst (lists l)] m (.fn (.func 172) [] [.ptr m.next 0]) (m.new [.lst (lists l)] false) := by
  refine eh_of (wph_go Tryz.func133 rfl rfl (by simp [Tryz.f133]) (by simp [Tryz.f133]) fun Q hQ => ?_)
  simp only [Tryz.f133, show ca.keepRes 133 = false from rfl, show ca.keepArgs 133 = false from rfl] at hQ ⊢
  simp
  exact hQ _ _ _ ⟨.inr rfl, _, rfl, by simp [oneOf]⟩
end Go.Proofs.YtnhcmcfgemoehaaGreat

/- A list is made ahead of a value. -/
namespace Go.Proofs.YtnhcmcfgemoehaaGreat
set_option maxRecDepth 4000
open Go.V
attribute [local simp] Nat.add_assoc

/-- A list made ahead of a value. -/
def aheadM (a : ArM) (k : Int) (e : Val) : List Val → Val × ArM × Int
  | [] => (e, a, k)
  | x :: l => allocC (aheadM a k e l).2.1 (aheadM a k e l).2.2 ⟨1, 0, [x, (aheadM a k e l).1], []⟩
/-- What is so while it is made. -/
def JA (X : Nat → Prop) (A C : Nat) (n : Int) (l0 : List Val) (m : Mem) (c : LCode) (xs : List Val) (r : Val × ArM × Int) (mm : Mem) : Prop :=
  (∃ X1, Ar X1 A r.2.1 mm ∧ ∀ j, X1 j → (X j ∨ m.next + 5 ≤ j) ∧ j < mm.next) ∧ KpC (fun j => X j ∨ j = C) m mm ∧ has mm C (clC A n l0 r.2.2) ∧ (∃ w, mm.get m.next = some (.cells [.ptr C 0] false w)) ∧ (∃ w, mm.get (m.next + 1) = some (.cells [int r.1.1, int r.1.2] false w)) ∧ (∃ w, mm.get (m.next + 2) = some (.cells [int 0, int 0] false w)) ∧ has mm (m.next + 3) [.lst (vals xs)] ∧ (∃ ver, mm.loop (m.next + 4) = some ⟨.ready, none, c, ver⟩) ∧ m.next + 5 ≤ mm.next
set_option maxHeartbeats 8000000 in
theorem q129 {X : Nat → Prop} {A C : Nat} {n : Int} {l0 : List Val} {a : ArM} {k : Int} {m : Mem} (hA : Ar X A a m) (hX : ∀ j, X j → j < m.next) (hXC : ¬ X C) (hC : has m C (clC A n l0 k)) (l : List Val) (hl : l.length < 2 ^ 21) (e : Val) : wph Tryz.prog ca (.func 129) [.ptr C 0, .lst (vals l), valA e] m fun v m' => v = valA (aheadM a k e l).1 ∧ Cs X A C n l0 (aheadM a k e l).2.1 (aheadM a k e l).2.2 m m' := by
  have hC0 := hC
  obtain ⟨hCl, w, hg⟩ := hC
  refine wph_go Tryz.func129 rfl rfl (by simp [Tryz.f129]) (by simp [Tryz.f129]) fun Q hQ => ?_
  simp only [Tryz.f129, show ca.keepRes 129 = false from rfl, show ca.keepArgs 129 = false from rfl] at hQ ⊢
  obtain ⟨M1, hM1⟩ : ∃ M1, M1 = ((m.new [.ptr C 0] false).new [int e.1, int e.2] false).new [int 0, int 0] false := ⟨_, rfl⟩
  have k1 : Kp m M1 := by rw [hM1]; simp
  have n1 : M1.next = m.next + 3 := by rw [hM1]; simp
  have g0 : M1.get m.next = some (.cells [.ptr C 0] false (m.clock + 1)) := by rw [hM1]; simp
  have g1 : M1.get (m.next + 1) = some (.cells [int e.1, int e.2] false (m.clock + 2)) := by rw [hM1]; simp
  have g2 : M1.get (m.next + 2) = some (.cells [int 0, int 0] false (m.clock + 3)) := by rw [hM1]; simp
  simp
  rw [← hM1]
  clear hM1
  simp [(q171 l M1).go]
  refine go_range (f := 181) (a := []) (b := [.ptr M1.next 0]) (by simp) (by kernel_rfl) ?_
  simp only [List.nil_append, List.singleton_append]
  generalize hcd : LCode.mk _ _ _ _ _ = c
  refine wph_mono (back181 (J := fun k' mm => JA X A C n l0 m c l (aheadM a k e (l.drop k')) mm) l hl ?_ (fun k mm h => by rw [n1]; exact h.2.2.2.2.2.2.1) _ ?_) ?_
  · rintro k' x mm hx ⟨⟨X1, hA1, hX1⟩, kc, hC1, ⟨w0, h0⟩, ⟨w1, h1⟩, ⟨w2, h2⟩, h3, ⟨ver, hloop⟩, hn⟩
    have hid : (M1.new [AV.lst (vals l)] false).next = m.next + 4 := by simp [n1]
    rw [hid]
    refine wph_round hloop (by rw [← hcd]; rfl) ?_
    have c1 := congrArg LCode.assign hcd
    have c2 := congrArg LCode.body hcd
    have c3 := congrArg LCode.N hcd
    have c4 := congrArg LCode.s hcd
    have c5 := congrArg LCode.ps hcd
    dsimp only at c1 c2 c3 c4 c5
    simp only [← c1, ← c2, ← c3, ← c4, ← c5]
    have hstep : aheadM a k e (l.drop k') = allocC (aheadM a k e (l.drop (k' + 1))).2.1 (aheadM a k e (l.drop (k' + 1))).2.2 ⟨1, 0, [x, (aheadM a k e (l.drop (k' + 1))).1], []⟩ := by
      obtain ⟨h1, h2⟩ := List.getElem?_eq_some_iff.1 hx
      rw [← List.getElem_cons_drop h1, h2, aheadM]
    rw [hstep]
    generalize aheadM a k e (l.drop (k' + 1)) = r at hA1 hC1 h1 ⊢
    have z0 : m.next ≠ mm.next := by omega
    have z1 : m.next + 1 ≠ mm.next := by omega
    simp [Sl.puts, hloop, h0, h1, z0, z1, abuildSlice, zeros, fillAt, abuild, placesOf]
    obtain ⟨Mb, hMb⟩ : ∃ Mb, Mb = (((mm.new [int 0, int 0] false).set mm.next [int x.1, int x.2]).setLoop (m.next + 4) .busy none c).new [int x.1, int x.2, int r.1.1, int r.1.2] false := ⟨_, rfl⟩
    have kb : KpC (fun j => j = m.next + 4) mm Mb := by
      rw [hMb]
      exact ⟨by simp, fun id hi hx => by
        have a1 : id ≠ mm.next := by omega
        have a2 : id ≠ mm.next + 1 := by omega
        simp [a1, a2], fun id hi hx => by
        have a1 : id ≠ m.next + 4 := hx
        simp [a1]⟩
    have nb : Mb.next = mm.next + 2 := by rw [hMb]; simp
    obtain ⟨wF, gF⟩ : ∃ w, Mb.get (mm.next + 1) = some (.cells [int x.1, int x.2, int r.1.1, int r.1.2] false w) := ⟨_, by rw [hMb]; simp; rfl⟩
    obtain ⟨uL, lb⟩ : ∃ w, Mb.loop (m.next + 4) = some ⟨.busy, none, c, w⟩ := ⟨_, by rw [hMb]; simp; rfl⟩
    rw [← hMb]
    clear hMb
    obtain ⟨M9, hM9⟩ : ∃ M9, M9 = Mb.mark (mm.next + 1) (flat (vals [x, r.1])) wF := ⟨_, rfl⟩
    have k9 : KpC (fun j => j = m.next + 4) mm M9 := by
      rw [hM9]
      exact KpC.cut (KpC.trans (kb.mono fun j h => .inl h) ((kc_mark (mm.next + 1) wF _ Mb).mono fun j h => .inr (by omega)))
    have n9 : M9.next = mm.next + 2 := by rw [hM9]; simp [nb]
    have l9 : M9.loop (m.next + 4) = some ⟨.busy, none, c, uL⟩ := by rw [hM9]; simp; exact lb
    have q := wph_fz Tryz.func127 rfl rfl rfl (fz_two (A := C) (k := 1) (x := x) (y := r.1) gF) (by simp [fzvs]) (q127 (X := X1) (A := A) (n := n) (l := l0) (k := r.2.2) (a := r.2.1) (m := Mb.mark (mm.next + 1) (flat (vals [x, r.1])) wF) (by rw [← hM9]; exact hA1.kc k9 fun j h e => by rcases (hX1 j h).1 with h | h; have := hX j h; omega; omega) (fun j h => by rw [← hM9, n9]; have := (hX1 j h).2; omega) (fun h => by rcases (hX1 C h).1 with h | h; exact hXC h; omega) (by rw [← hM9]; exact hC1.kc k9 (by omega)) ⟨1, 0, [x, r.1], []⟩ (by simp) (by simp))
    rw [← hM9] at q
    refine goH_of q ?_
    rintro _ m5 ⟨rfl, X2, hA2, hX2, kc2, hC2⟩
    have n5 := kc2.next
    have keep : ∀ j, m.next ≤ j → j < m.next + 5 → ¬ (X1 j ∨ j = C) := fun j h1 h2 h => by
      rcases h with h | h
      · rcases (hX1 j h).1 with h | h
        · have := hX j h; omega
        · omega
      · omega
    have h50 := (kc2.get m.next (by omega) (keep _ (by omega) (by omega))).trans ((k9.get m.next (by omega) (by omega)).trans h0)
    have h51 := (kc2.get (m.next + 1) (by omega) (keep _ (by omega) (by omega))).trans ((k9.get (m.next + 1) (by omega) (by omega)).trans h1)
    have h52 := (kc2.get (m.next + 2) (by omega) (keep _ (by omega) (by omega))).trans ((k9.get (m.next + 2) (by omega) (by omega)).trans h2)
    have h53 := (h3.kc k9 (by omega)).kc kc2 (keep _ (by omega) (by omega))
    have l5 := (kc2.x (m.next + 4) (by omega) (keep _ (by omega) (by omega))).1.trans l9
    simp [h51, l5, valA_agg]
    have hX2' : ∀ j, X2 j → (X j ∨ m.next + 5 ≤ j) ∧ j < m5.next := fun j h => ⟨(hX2 j h).1.elim (fun h => (hX1 j h).1) fun h => .inr (by omega), (hX2 j h).2⟩
    have ne2 : ∀ j, X2 j → j ≠ m.next + 1 ∧ j ≠ m.next + 4 := fun j h => by
      rcases (hX2' j h).1 with h | h
      · have := hX j h; omega
      · omega
    have p0 : m.next ≠ m.next + 1 := by omega
    refine ⟨⟨X2, (hA2.kc (kc_set (m.next + 1) _ _) fun j h e => absurd e (ne2 j h).1).kc (kc_loop (m.next + 4) _ _ _ _) fun j h e => absurd e (ne2 j h).2, fun j h => by simpa using hX2' j h⟩, ?_, (hC2.kc (kc_set (m.next + 1) _ _) (by omega)).kc (kc_loop (m.next + 4) _ _ _ _) (by omega), ⟨w0, by simp [h50]⟩, ⟨_, by simp; rfl⟩, ⟨w2, by simp [h52]⟩, (h53.kc (kc_set (m.next + 1) _ _) (by omega)).kc (kc_loop (m.next + 4) _ _ _ _) (by omega), ⟨_, by simp; rfl⟩, by simp; omega⟩
    refine KpC.cut (((((kc.mono fun j h => .inl h).trans (k9.mono fun j h => .inr (by omega))).trans (kc2.mono fun j h => ?_)).trans ((kc_set (m.next + 1) _ _).mono fun j h => .inr (by omega))).trans ((kc_loop (m.next + 4) _ _ _ _).mono fun j h => .inr (by omega)))
    rcases h with h | h
    · rcases (hX1 j h).1 with h | h
      · exact .inl (.inl h)
      · exact .inr (by omega)
    · exact .inl (.inr h)
  · rw [List.drop_length, aheadM]
    have kk : Kp m ((M1.new [AV.lst (vals l)] false).newLoop c) := (k1.trans (.new _ _ _)).newLoop c
    have p0 : m.next ≠ m.next + 3 := by omega
    have p1 : m.next + 1 ≠ m.next + 3 := by omega
    have p2 : m.next + 2 ≠ m.next + 3 := by omega
    refine ⟨⟨X, hA.kp kk, fun j h => ⟨.inl h, by have := hX j h; simp; omega⟩⟩, .of (.of kk), hC0.kp kk, ⟨_, by simp [n1, g0]; rfl⟩, ⟨_, by simp [n1, g1]; rfl⟩, ⟨_, by simp [n1, g2]; rfl⟩, ⟨by simp [n1], _, by simp [n1]; rfl⟩, ⟨_, by simp [n1]; rfl⟩, by simp [n1]⟩
  · rintro v mm ⟨rfl, ⟨X1, hA1, hX1⟩, kc, hC1, ⟨w0, h0⟩, ⟨w1, h1⟩, ⟨w2, h2⟩, h3, ⟨ver, hloop⟩, hn⟩
    rw [List.drop_zero] at hA1 hC1 h1
    have hid : (M1.new [AV.lst (vals l)] false).next = m.next + 4 := by simp [n1]
    rw [hid]
    refine ⟨_, .normal, hloop, by simp, rfl, ?_⟩
    simp [h1, h2, valA_agg]
    refine hQ _ _ _ ?_
    rw [leave_ret]
    have kl : KpC (fun j => j = m.next + 4) mm (mm.killLoop (m.next + 4)) := ⟨by simp, fun id hi hx => by simp, fun id hi hx => by
      have : id ≠ m.next + 4 := hx
      simp [this]⟩
    refine ⟨[valA (aheadM a k e l).1], by simp [aresult, valA_agg], ?_⟩
    simp only [Bool.false_eq_true, if_false, oneOf, fzr_valA]
    refine ⟨trivial, X1, (hA1.kc kl fun j h e => ?_).kc (kc_set (m.next + 2) _ _) fun j h e => ?_, fun j h => ⟨(hX1 j h).1.imp id fun h => by omega, by simpa using (hX1 j h).2⟩, KpC.cut (((kc.mono fun j h => .inl h).trans (kl.mono fun j h => .inr (by omega))).trans ((kc_set (m.next + 2) _ _).mono fun j h => .inr (by omega))), (hC1.kc kl (by omega)).kc (kc_set (m.next + 2) _ _) (by omega)⟩
    all_goals
      rcases (hX1 j h).1 with h | h
      · have := hX j h; omega
      · omega
end Go.Proofs.YtnhcmcfgemoehaaGreat

/- A list's value at a place. -/
namespace Go.Proofs.YtnhcmcfgemoehaaGreat
set_option maxRecDepth 4000
open Go.V
attribute [local simp] Nat.add_assoc

/-- A list's value at a place. -/
def refM (a : ArM) : Nat → Val → Option Val
  | 0, v => if (getM a v).1.k = 1 then some (carM a v) else none
  | n + 1, v => if (getM a v).1.k = 1 then refM a n (cdrM a v) else none
def listRefM (a : ArM) (k : Int) (v : Val) (i : Int) : Val × Int := if i < 0 ∨ 1024 ≤ i then ((0, 0), failK k 6) else match refM a i.toNat v with | some x => (x, k) | none => ((0, 0), failK k 6)
set_option maxHeartbeats 8000000 in
theorem q132 {X : Nat → Prop} {A C : Nat} {n : Int} {l : List Val} {a : ArM} {k : Int} {m : Mem} (hA : Ar X A a m) (hsm : Small a) (hp : Pairs a) (hXC : ¬ X C) (hC : has m C (clC A n l k)) (v : Val) (i : Int) : wph Tryz.prog ca (.func 132) [.ptr C 0, valA v, int i] m fun r m' => r = valA (listRefM a k v i).1 ∧ KpC (fun j => j = C) m m' ∧ has m' C (clC A n l (listRefM a k v i).2) := by
  refine wph_go Tryz.func132 rfl rfl (by simp [Tryz.f132]) (by simp [Tryz.f132]) fun Q hQ => ?_
  simp only [Tryz.f132, show ca.keepRes 132 = false from rfl, show ca.keepArgs 132 = false from rfl] at hQ ⊢
  obtain ⟨M1, hM1⟩ : ∃ M1, M1 = (m.new [int v.1, int v.2] false).new [int 0, int 0] false := ⟨_, rfl⟩
  have k1 : Kp m M1 := by rw [hM1]; simp
  have n1 : M1.next = m.next + 2 := by rw [hM1]; simp
  have g0 : M1.get m.next = some (.cells [int v.1, int v.2] false (m.clock + 1)) := by rw [hM1]; simp
  have g1 : M1.get (m.next + 1) = some (.cells [int 0, int 0] false (m.clock + 2)) := by rw [hM1]; simp
  simp
  rw [← hM1]
  clear hM1
  have fin : ∀ (s' : Sl) (m7 : Mem) (r : Val × Int) (w : Nat), s'.at 6 = .ptr (m.next + 1) 0 → m7.get (m.next + 1) = some (.cells [int r.1.1, int r.1.2] false w) → KpC (fun j => j = C) m m7 → has m7 C (clC A n l r.2) → listRefM a k v i = r → Q .ret s' m7 := by
    rintro s' m7 r w h6 hg kc hc rfl
    refine hQ _ _ _ ?_
    rw [leave_ret]
    refine ⟨[valA (listRefM a k v i).1], by simp [aresult, h6, hg, aload, partOf, valA_agg], ?_⟩
    simp only [Bool.false_eq_true, if_false, oneOf, fzr_valA]
    exact ⟨trivial, kc, hc⟩
  have fail : ∀ (m1 : Mem) (s' : Sl) (d : Option Tmp) (kk : List It) (Q' : Ex → Sl → Mem → Prop), Kp m m1 → m.next + 1 < m1.next → (∃ w, m1.get (m.next + 1) = some (.cells [int 0, int 0] false w)) → (∀ m7, KpC (fun j => j = C) m m7 → (∃ w, m7.get (m.next + 1) = some (.cells [int 0, int 0] false w)) → has m7 C (clC A n l (failK k 6)) → goP Tryz.prog ca 45 Q' (aput 45 s' d (valA (0, 0))) kk m7) → goH Tryz.prog ca 45 Q' (.func 134) [.ptr C 0, int 6] d kk s' m1 := by
    intro m1 s' d kk Q' hk hlt ⟨w, hg⟩ hgo
    refine goH_of (q134 (A := A) (n := n) (l := l) (k := k) (m := m1) (hC.kp hk) 6) ?_
    rintro _ m7 ⟨rfl, kc7, hC7⟩
    exact hgo m7 ((KpC.of (.of hk)).trans kc7) ⟨w, (kc7.get _ hlt (by have := hC.1; omega)).trans hg⟩ hC7
  have box : ∀ (m7 : Mem) (cs : List AV) (k' : Int), KpC (fun j => j = C) m m7 → has m7 C (clC A n l k') → KpC (fun j => j = C) m (m7.set (m.next + 1) cs) ∧ has (m7.set (m.next + 1) cs) C (clC A n l k') := fun m7 cs k' kc7 hC7 =>
    ⟨KpC.cut ((kc7.mono fun j h => .inl h).trans ((kc_set (m.next + 1) _ _).mono fun j h => .inr (by omega))), hC7.kc (kc_set (m.next + 1) _ _) (by have := hC.1; omega)⟩
  by_cases hi0 : i < 0
  · simp [hi0]
    refine fail M1 _ _ _ _ k1 (by omega) ⟨_, g1⟩ fun m7 kc7 ⟨w7, hg7⟩ hC7 => ?_
    simp [hg7, valA_agg]
    obtain ⟨b1, b2⟩ := box m7 [int 0, int 0] _ kc7 hC7
    exact fin _ _ ((0, 0), failK k 6) _ (by simp) (by simp; rfl) b1 b2 (by rw [listRefM, if_pos (.inl hi0)])
  by_cases hi1 : 1024 ≤ i
  · simp [hi0, hi1]
    refine fail M1 _ _ _ _ k1 (by omega) ⟨_, g1⟩ fun m7 kc7 ⟨w7, hg7⟩ hC7 => ?_
    simp [hg7, valA_agg]
    obtain ⟨b1, b2⟩ := box m7 [int 0, int 0] _ kc7 hC7
    exact fin _ _ ((0, 0), failK k 6) _ (by simp) (by simp; rfl) b1 b2 (by rw [listRefM, if_pos (.inr hi1)])
  simp [hi0, hi1]
  obtain ⟨N, rfl⟩ : ∃ N : Nat, i = N := ⟨i.toNat, by omega⟩
  have hval : listRefM a k v N = match refM a N v with | some x => (x, k) | none => ((0, 0), failK k 6) := by
    rw [listRefM, if_neg (by omega)]
    simp
  refine go_count 18 N (fun i s' m' => Kp m m' ∧ m.next + 2 ≤ m'.next ∧ (∃ w u, m'.get m.next = some (.cells [int w.1, int w.2] false u) ∧ refM a (N - i) w = refM a N v) ∧ ∃ u, m'.get (m.next + 1) = some (.cells [int 0, int 0] false u)) (by simp) (by omega) ⟨k1, by omega, ⟨v, _, g0, rfl⟩, _, g1⟩ ?_
  rintro q s' m' hq e18 ⟨hkp, hlt, ⟨w, u, h0, href⟩, u1, h1⟩ hsame hw Q' hn he
  have d0 : s'.at 0 = .ptr C 0 := (hsame 0 (by kernel_rfl)).trans (by simp)
  have d4 : s'.at 4 = .ptr m.next 0 := (hsame 4 (by kernel_rfl)).trans (by simp)
  have d6 : s'.at 6 = .ptr (m.next + 1) 0 := (hsame 6 (by kernel_rfl)).trans (by simp)
  have d17 : s'.at 17 = int N := (hsame 17 (by kernel_rfl)).trans (by simp)
  clear hsame
  have hCm := hC.kp hkp
  have q1 := q112 (hA.kp hkp) hsm hCm w
  have z0 : m.next ≠ m'.next := by omega
  have z1 : m.next + 1 ≠ m'.next := by omega
  have z2 : m'.next ≠ m.next := by omega
  have z3 : m.next + 1 ≠ m.next := by omega
  obtain ⟨M2, hM2⟩ : ∃ M2, M2 = (m'.new [int 0, int 0, .emp 0, .emp 0] false).set m'.next [int (getM a w).1.k, int (getM a w).1.n, .lst (vals (getM a w).1.a), .lst (byts (getM a w).1.s)] := ⟨_, rfl⟩
  have kM : Kp m' M2 := by rw [hM2]; simp
  have nM : M2.next = m'.next + 1 := by rw [hM2]; simp
  have gc : M2.get m'.next = some (.cells [int (getM a w).1.k, int (getM a w).1.n, .lst (vals (getM a w).1.a), .lst (byts (getM a w).1.s)] false (m'.clock + 2)) := by rw [hM2]; simp
  have gB := (kM.get m.next (by omega)).trans h0
  have gR := (kM.get (m.next + 1) (by omega)).trans h1
  have hkp2 := hkp.trans kM
  simp [e18, d17]
  refine goB_split (fun h => ?_) fun h => ?_
  · have hlt2 : q < N := by simpa using h
    have hNq : N - q = N - (q + 1) + 1 := by omega
    rw [hNq] at href
    simp [d0, d4, h0, valA_agg, q1.go, ceA]
    rw [← hM2]
    clear hM2
    by_cases hk : (getM a w).1.k = 1
    · have ea := hp.get hk
      have hx1 : aindexAddr Tryz.prog 66 (.lst (vals (getM a w).1.a)) (int 1) = some ((valA (cdrM a w)).cptr 0) := vals_at (i := 1) (by rw [ea]; rfl)
      rw [refM, if_pos hk] at href
      simp [hk, gc, hx1, d4, gB, e18, hw]
      exact hn _ _ hlt2 (by simp) ⟨hkp2.set (Nat.le_refl _) _, by simp; omega, ⟨cdrM a w, _, by simp; rfl, href⟩, _, by simp [z3, gR]; rfl⟩
    · rw [refM, if_neg hk] at href
      simp [hk, d0]
      refine fail M2 _ _ _ _ hkp2 (by omega) ⟨_, gR⟩ fun m7 kc7 ⟨w7, hg7⟩ hC7 => ?_
      simp [d6, hg7, valA_agg]
      refine he _ _ _ (by simp) ?_
      simp
      obtain ⟨b1, b2⟩ := box m7 [int 0, int 0] _ kc7 hC7
      exact fin _ _ ((0, 0), failK k 6) _ (by simp [d6]) (by simp; rfl) b1 b2 (by rw [hval, ← href])
  · have hge : q = N := by have := of_decide_eq_false h; omega
    subst hge
    rw [Nat.sub_self] at href
    simp
    refine he _ _ _ (by simp) ?_
    simp [d0, d4, h0, valA_agg, q1.go, ceA]
    rw [← hM2]
    clear hM2
    by_cases hk : (getM a w).1.k = 1
    · have ea := hp.get hk
      have hx0 : aindexAddr Tryz.prog 66 (.lst (vals (getM a w).1.a)) (int 0) = some ((valA (carM a w)).cptr 0) := vals_at (i := 0) (by rw [ea]; rfl)
      rw [refM, if_pos hk] at href
      simp [hk, gc, hx0, d6, gR]
      obtain ⟨b1, b2⟩ := box M2 [int (carM a w).1, int (carM a w).2] _ (.of (.of hkp2)) (hCm.kp kM)
      exact fin _ _ (carM a w, k) _ (by simp [d6]) (by simp; rfl) b1 b2 (by rw [hval, ← href])
    · rw [refM, if_neg hk] at href
      simp [hk, d0]
      refine fail M2 _ _ _ _ hkp2 (by omega) ⟨_, gR⟩ fun m7 kc7 ⟨w7, hg7⟩ hC7 => ?_
      simp [d6, hg7, valA_agg]
      obtain ⟨b1, b2⟩ := box m7 [int 0, int 0] _ kc7 hC7
      exact fin _ _ ((0, 0), failK k 6) _ (by simp [d6]) (by simp; rfl) b1 b2 (by rw [hval, ← href])
end Go.Proofs.YtnhcmcfgemoehaaGreat
