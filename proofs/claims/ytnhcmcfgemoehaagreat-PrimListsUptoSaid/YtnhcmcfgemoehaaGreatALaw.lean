import Derived.Test.YtnhcmcfgemoehaaGreatADo
/- The plain law of lists: arenas, without the program. -/
set_option linter.unusedSimpArgs false
set_option linter.unusedVariables false
set_option linter.unusedSectionVars false
namespace Go.Proofs.YtnhcmcfgemoehaaGreat
open Go.V

/-- One arena has become another one. -/
structure Ext (a b : ArM) : Prop where
  room : b.room = a.room
  cells : ∃ t, b.cells = a.cells ++ t
  names : ∃ t, b.names = a.names ++ t
theorem Ext.refl (a : ArM) : Ext a a := ⟨rfl, ⟨[], by simp⟩, [], by simp⟩
theorem Ext.trans {a b c : ArM} (h : Ext a b) (k : Ext b c) : Ext a c := by
  obtain ⟨h1, ⟨t1, h2⟩, ⟨s1, h3⟩⟩ := h
  obtain ⟨k1, ⟨t2, k2⟩, ⟨s2, k3⟩⟩ := k
  exact ⟨k1.trans h1, ⟨t1 ++ t2, by rw [k2, h2, List.append_assoc]⟩, s1 ++ s2, by rw [k3, h3, List.append_assoc]⟩
theorem Ext.at {a b : ArM} (h : Ext a b) {i : Nat} {c : CeM} (hc : a.cells[i]? = some c) : b.cells[i]? = some c := by
  obtain ⟨_, ⟨t, e⟩, _⟩ := h
  rw [e, List.getElem?_append_left (List.getElem?_eq_some_iff.1 hc).1, hc]
theorem Ext.len {a b : ArM} (h : Ext a b) : a.cells.length ≤ b.cells.length := by
  obtain ⟨_, ⟨t, e⟩, _⟩ := h
  rw [e]; simp
theorem Ext.nlen {a b : ArM} (h : Ext a b) : a.names.length ≤ b.names.length := by
  obtain ⟨_, _, ⟨t, e⟩⟩ := h
  rw [e]; simp
theorem below_le {n k k' : Int} (h : below n k = true) (hk : k ≤ k') : below n k' = true := by
  simp [below] at h ⊢
  omega
theorem Ext.good {a b : ArM} (h : Ext a b) {v : Val} (hv : goodM a v = true) : goodM b v = true := by
  have h1 := h.len
  have h2 := h.nlen
  unfold goodM at hv ⊢
  split
  · rename_i c; rwa [if_pos c] at hv
  rename_i c; rw [if_neg c] at hv
  split
  · rename_i c; rwa [if_pos c] at hv
  rename_i c; rw [if_neg c] at hv
  split
  · rename_i c; rwa [if_pos c] at hv
  rename_i c; rw [if_neg c] at hv
  split
  · rename_i c; rwa [if_pos c] at hv
  rename_i c; rw [if_neg c] at hv
  split
  · rename_i c; rw [if_pos c] at hv; exact below_le hv (by omega)
  rename_i c; rw [if_neg c] at hv
  split
  · rename_i c; rwa [if_pos c] at hv
  rename_i c; rw [if_neg c] at hv
  split
  · rename_i c; rw [if_pos c] at hv; exact below_le hv (by omega)
  rename_i c; rw [if_neg c] at hv
  exact hv
/-- A value that is so where only the first cells are. -/
def GoodAt (a : ArM) (i : Nat) (v : Val) : Prop := goodM a v = true ∧ (v.1 = 7 → v.2 < i)
theorem good_7 {a : ArM} {v : Val} (h : goodM a v = true) (h7 : v.1 = 7) : ∃ i : Nat, v = (7, (i : Int)) ∧ i < a.cells.length := by
  obtain ⟨k, n⟩ := v
  simp only at h7
  subst h7
  have h' : below n a.cells.length = true := by simpa [goodM] using h
  simp [below] at h'
  exact ⟨n.toNat, by rw [Int.toNat_of_nonneg h'.1], by omega⟩
theorem good_4 {a : ArM} {v : Val} (h : goodM a v = true) (h4 : v.1 = 4) : v = (4, 0) := by
  obtain ⟨k, n⟩ := v
  simp only at h4
  subst h4
  have h' : n = 0 := by simpa [goodM] using h
  rw [h']
theorem good_nil (a : ArM) : goodM a (4, 0) = true := by simp [goodM]
theorem goodAt_len {a : ArM} {v : Val} (h : goodM a v = true) : GoodAt a a.cells.length v := ⟨h, fun h7 => by
  obtain ⟨i, rfl, hi⟩ := good_7 h h7
  exact Int.ofNat_lt.2 hi⟩
theorem GoodAt.ext {a b : ArM} (h : Ext a b) {i : Nat} {v : Val} (hv : GoodAt a i v) : GoodAt b i v := ⟨h.good hv.1, hv.2⟩
/-- Each cell has what it may have, and refers to older ones. -/
def Inv (a : ArM) : Prop := ∀ i c, a.cells[i]? = some c → c.a.length ≤ 4096 ∧ c.s.length ≤ 4096 ∧ kindM c = true ∧ ∀ v ∈ c.a, GoodAt a i v
theorem Inv.small {a : ArM} (h : Inv a) : Small a := fun c hc => by
  obtain ⟨i, hi, e⟩ := List.mem_iff_getElem.1 hc
  have := h i c (by rw [List.getElem?_eq_getElem hi, e])
  exact ⟨this.1, this.2.1⟩
theorem kind_1 {c : CeM} (h : kindM c = true) (h1 : c.k = 1) : ∃ x y, c = ⟨1, 0, [x, y], []⟩ := by
  obtain ⟨k, n, l, s⟩ := c
  simp only at h1
  subst h1
  simp [kindM] at h
  obtain ⟨rfl, rfl, h3⟩ := h
  match l, h3 with
  | [x, y], _ => exact ⟨x, y, rfl⟩
theorem Inv.pairs {a : ArM} (h : Inv a) : Pairs a := fun c hc h1 => by
  obtain ⟨i, hi, e⟩ := List.mem_iff_getElem.1 hc
  obtain ⟨x, y, e⟩ := kind_1 (h i c (by rw [List.getElem?_eq_getElem hi, e])).2.2.1 h1
  exact ⟨x, y, by rw [e]⟩
/-- A cell more, or a fault. -/
theorem alloc_cases (a : ArM) (c : CeM) (ha : Inv a) : ((allocM a c).2.2 ≠ 0 ∧ (allocM a c).1 = a) ∨ ((allocM a c).2.2 = 0 ∧ (allocM a c).1 = pushM a c ∧ (allocM a c).2.1 = (7, (a.cells.length : Int)) ∧ Inv (pushM a c)) := by
  unfold allocM
  by_cases hf : fitsM a c = true
  · rw [if_pos hf]
    by_cases hr : a.room ≤ a.cells.length
    · rw [if_pos hr]; exact .inl ⟨by simp, rfl⟩
    · rw [if_neg hr]
      refine .inr ⟨rfl, rfl, rfl, fun i c' hc' => ?_⟩
      have ext : Ext a (pushM a c) := ⟨rfl, ⟨[c], rfl⟩, [], by simp [pushM]⟩
      simp only [pushM] at hc'
      by_cases hi : i < a.cells.length
      · rw [List.getElem?_append_left hi] at hc'
        obtain ⟨h1, h2, h3, h4⟩ := ha i c' hc'
        exact ⟨h1, h2, h3, fun v hv => (h4 v hv).ext ext⟩
      · have hil := (List.getElem?_eq_some_iff.1 hc').1
        simp at hil
        have e : i = a.cells.length := by omega
        subst e
        rw [List.getElem?_append_right (Nat.le_refl _)] at hc'
        simp at hc'
        subst hc'
        simp [fitsM] at hf
        exact ⟨by omega, by omega, hf.2.2.2.2, fun v hv => (goodAt_len (hf.2.2.1 _ _ hv)).ext ext⟩
  · rw [if_neg hf]; exact .inl ⟨by simp, rfl⟩
theorem ext_push (a : ArM) (c : CeM) : Ext a (pushM a c) := ⟨rfl, ⟨[c], rfl⟩, [], by simp [pushM]⟩
theorem good_push (a : ArM) (c : CeM) : goodM (pushM a c) (7, (a.cells.length : Int)) = true := by
  simp [goodM, pushM, below]
  omega
theorem fits_pair {a : ArM} {x y : Val} (hx : goodM a x = true) (hy : goodM a y = true) : fitsM a ⟨1, 0, [x, y], []⟩ = true := by simp [fitsM, kindM, hx, hy]
/-- A pair is made, where there is room. -/
theorem alloc_pair {a : ArM} {x y : Val} (hx : goodM a x = true) (hy : goodM a y = true) (hr : (a.cells.length : Int) < a.room) : allocM a ⟨1, 0, [x, y], []⟩ = (pushM a ⟨1, 0, [x, y], []⟩, (7, (a.cells.length : Int)), 0) := by
  unfold allocM
  rw [if_pos (fits_pair hx hy), if_neg (by omega)]
end Go.Proofs.YtnhcmcfgemoehaaGreat

/- Lists within an arena. -/
namespace Go.Proofs.YtnhcmcfgemoehaaGreat
open Go.V

/-- From a value, through pairs, to what is behind them. -/
def Chain (a : ArM) (e : Val) : List Val → Val → Prop
  | [], v => v = e
  | x :: l, v => ∃ (i : Nat) (w : Val), v = (7, (i : Int)) ∧ a.cells[i]? = some ⟨1, 0, [x, w], []⟩ ∧ Chain a e l w
theorem Chain.ext {a b : ArM} (h : Ext a b) {e : Val} : ∀ {l : List Val} {v : Val}, Chain a e l v → Chain b e l v
  | [], _, c => c
  | _ :: _, _, ⟨i, w, h1, h2, h3⟩ => ⟨i, w, h1, h.at h2, h3.ext h⟩
theorem Chain.app {a : ArM} {e f : Val} {r : List Val} (k : Chain a e r f) : ∀ {l : List Val} {v : Val}, Chain a f l v → Chain a e (l ++ r) v
  | [], _, c => by cases c; exact k
  | _ :: _, _, ⟨i, w, h1, h2, h3⟩ => ⟨i, w, h1, h2, Chain.app k h3⟩
theorem ix_at {a : ArM} {i : Nat} {c : CeM} (h : a.cells[i]? = some c) : ixM a (7, (i : Int)) = some i := by
  have := (List.getElem?_eq_some_iff.1 h).1
  have hg : goodM a (7, (i : Int)) = true := by simp [goodM, below]; omega
  simp [ixM, hg]
theorem get_at {a : ArM} {i : Nat} {c : CeM} (h : a.cells[i]? = some c) : getM a (7, (i : Int)) = (c, 0) := by
  simp [getM, ix_at h, List.getD_eq_getElem?_getD, h]
theorem get_no {a : ArM} {v : Val} (h : v.1 ≠ 7) : getM a v = (zeroC, 110) := by simp [getM, ixM, h]
theorem chain_list {a : ArM} : ∀ (l : List Val) (n : Nat) (v : Val), Chain a (4, 0) l v → l.length ≤ n → listM a n v = (l, 0)
  | [], n, v, h, _ => by
    have h : v = (4, 0) := h
    subst h
    rw [listM_no (by rw [get_no (by decide)]; decide)]
    rfl
  | x :: l, 0, v, _, hl => by simp at hl
  | x :: l, n + 1, v, ⟨i, w, h1, h2, h3⟩, hl => by
    subst h1
    have hg := get_at h2
    have hk : (getM a (7, (i : Int))).1.k = 1 := by rw [hg]
    have hd : cdrM a (7, (i : Int)) = w := by simp [cdrM, hg]
    have hc : carM a (7, (i : Int)) = x := by simp [carM, hg]
    rw [listM_s hk, hd, hc, chain_list l n w h3 (by simpa using hl)]
    simp
/-- A pair that a value refers to. -/
theorem pair_at {a : ArM} (ha : Inv a) {v : Val} (hk : (getM a v).1.k = 1) : ∃ i : Nat, v = (7, (i : Int)) ∧ a.cells[i]? = some ⟨1, 0, [carM a v, cdrM a v], []⟩ := by
  unfold getM at hk
  split at hk
  · rename_i i hi
    obtain ⟨rfl, c, hc⟩ := ixM_some hi
    have hg := get_at hc
    simp [List.getD_eq_getElem?_getD, hc] at hk
    obtain ⟨x, y, rfl⟩ := kind_1 (ha i c hc).2.2.1 hk
    exact ⟨i, rfl, by simp [carM, cdrM, hg, hc]⟩
  · simp [zeroC] at hk
theorem list_chain {a : ArM} (ha : Inv a) : ∀ (n : Nat) (v : Val), goodM a v = true → (listM a n v).2 = 0 → Chain a (4, 0) (listM a n v).1 v
  | n, v, hv, h => by
    by_cases hk : (getM a v).1.k = 1
    · cases n with
      | zero => rw [listM_0 hk] at h; simp at h
      | succ n =>
        rw [listM_s hk] at h ⊢
        split at h
        · rename_i h0
          rw [if_pos h0]
          obtain ⟨i, hi, hc⟩ := pair_at ha hk
          exact ⟨i, cdrM a v, hi, hc, list_chain ha n _ ((ha i _ hc).2.2.2 _ (by simp)).1 h0⟩
        · rename_i h0; exact absurd h h0
    · rw [listM_no hk] at h ⊢
      split at h
      · rename_i h4
        rw [if_pos h4]
        exact good_4 hv h4
      · simp at h
theorem chain_len {a : ArM} (ha : Inv a) {e : Val} : ∀ (l : List Val) (v : Val) (i : Nat), GoodAt a i v → Chain a e l v → l.length ≤ i
  | [], _, _, _, _ => Nat.zero_le _
  | x :: l, v, k, hv, ⟨i, w, h1, h2, h3⟩ => by
    subst h1
    have h4 := hv.2 rfl
    have := chain_len ha l w i ((ha i _ h2).2.2.2 w (by simp)) h3
    simp at h4 ⊢
    omega
theorem chain_good {a : ArM} (ha : Inv a) {e : Val} : ∀ (l : List Val) (v : Val), Chain a e l v → ∀ x ∈ l, goodM a x = true
  | y :: l, v, ⟨i, w, h1, h2, h3⟩, x, hx => by
    rcases List.mem_cons.1 hx with rfl | hx
    · exact ((ha i _ h2).2.2.2 _ (by simp)).1
    · exact chain_good ha l w h3 x hx
theorem chain_ref {a : ArM} {e : Val} : ∀ (l : List Val) (v : Val) (n : Nat) (x : Val), Chain a e l v → l[n]? = some x → refM a n v = some x
  | y :: l, v, n, x, ⟨i, w, h1, h2, h3⟩, hx => by
    subst h1
    have hg := get_at h2
    have hk : (getM a (7, (i : Int))).1.k = 1 := by rw [hg]
    have hd : cdrM a (7, (i : Int)) = w := by simp [cdrM, hg]
    have hc : carM a (7, (i : Int)) = y := by simp [carM, hg]
    cases n with
    | zero =>
      simp at hx
      rw [refM, if_pos hk, hc, hx]
    | succ n =>
      rw [refM, if_pos hk, hd]
      exact chain_ref l w n x h3 (by simpa using hx)
theorem chain_eq {a : ArM} {e : Val} : ∀ (l : List Val) (v w : Val) (n : Nat) (left : Int), Chain a e l v → Chain a e l w → 2 * (l.length : Int) + 1 ≤ left → left < n → (eqM a n left v w).1 = true ∧ left - (2 * (l.length : Int) + 1) ≤ (eqM a n left v w).2
  | _, _, _, 0, left, _, _, h1, h2 => by omega
  | [], v, w, n + 1, left, hv, hw, h1, h2 => by
    have hv : v = e := hv
    have hw : w = e := hw
    have h1 : 1 ≤ left := by simpa using h1
    rw [eqM, if_neg (by omega), if_pos (hv.trans hw.symm)]
    simp
  | x :: l, v, w, n + 1, left, ⟨i, v', q1, q2, q3⟩, ⟨j, w', r1, r2, r3⟩, h1, h2 => by
    have h1 : 2 * ((l.length : Int) + 1) + 1 ≤ left := by simpa using h1
    rw [eqM, if_neg (by omega)]
    by_cases hvw : v = w
    · rw [if_pos hvw]
      simp
      omega
    rw [if_neg hvw]
    subst q1
    subst r1
    rw [ix_at q2, ix_at r2]
    simp only [List.getD_eq_getElem?_getD, q2, r2, Option.getD_some]
    obtain ⟨n, rfl⟩ : ∃ k, n = k + 1 := ⟨n - 1, by omega⟩
    have hx : eqM a (n + 1) (left - 1) x x = (true, left - 2) := by
      rw [eqM, if_neg (by omega), if_pos rfl]
      simp only [Prod.mk.injEq, true_and]
      omega
    obtain ⟨g1, g2⟩ := chain_eq l v' w' (n + 1) (left - 2) q3 r3 (by omega) (by omega)
    simp [eqsM, hx, g1]
    omega
/-- Values laid ahead of another one. -/
theorem ahead_chain {a : ArM} (ha : Inv a) {e : Val} (he : goodM a e = true) : ∀ (l : List Val), (∀ x ∈ l, goodM a x = true) → (a.cells.length : Int) + l.length ≤ a.room → ∃ b v, aheadM a 0 e l = (v, b, 0) ∧ Ext a b ∧ Inv b ∧ b.cells.length = a.cells.length + l.length ∧ goodM b v = true ∧ Chain b e l v
  | [], _, _ => ⟨a, e, rfl, .refl a, ha, rfl, he, rfl⟩
  | x :: l, hg, hr => by
    simp at hr
    obtain ⟨b, v, h1, h2, h3, h4, h5, h6⟩ := ahead_chain ha he l (fun y hy => hg y (by simp [hy])) (by omega)
    have hxb := h2.good (hg x (by simp))
    have hal := alloc_pair (a := b) (x := x) (y := v) hxb h5 (by rw [h2.room]; omega)
    have hc := alloc_cases b ⟨1, 0, [x, v], []⟩ h3
    rw [hal] at hc
    rcases hc with ⟨h, _⟩ | ⟨_, _, _, hi⟩
    · exact absurd rfl h
    refine ⟨pushM b ⟨1, 0, [x, v], []⟩, (7, (b.cells.length : Int)), ?_, h2.trans (ext_push _ _), hi, by simp [pushM, h4]; omega, good_push _ _, b.cells.length, v, rfl, by simp [pushM], h6.ext (ext_push _ _)⟩
    rw [aheadM, h1]
    simp only [allocC]
    rw [hal]
    simp
end Go.Proofs.YtnhcmcfgemoehaaGreat

/- What a datum becomes keeps the law of arenas; what procedures of lists answer. -/
namespace Go.Proofs.YtnhcmcfgemoehaaGreat
open Go.V

theorem names_inv {a : ArM} (ha : Inv a) (s : List (List UInt8)) : Ext a ⟨a.room, a.cells, a.names ++ s⟩ ∧ Inv ⟨a.room, a.cells, a.names ++ s⟩ := by
  have e : Ext a ⟨a.room, a.cells, a.names ++ s⟩ := ⟨rfl, ⟨[], by simp⟩, s, rfl⟩
  exact ⟨e, fun i c hc => ⟨(ha i c hc).1, (ha i c hc).2.1, (ha i c hc).2.2.1, fun v hv => ((ha i c hc).2.2.2 v hv).ext e⟩⟩
/-- How many pairs there are. -/
def pairs (l : List CeM) : Nat := l.countP fun c => decide (c.k = 1)
theorem pairs_app (l r : List CeM) : pairs (l ++ r) = pairs l + pairs r := List.countP_append ..
theorem pairs_one (c : CeM) : pairs [c] = if c.k = 1 then 1 else 0 := by simp [pairs, List.countP_cons]
/-- What a step leaves: an arena, with at most so many cells more, and so many pairs; a value of it, where there is no fault. -/
def MadeP (a : ArM) (n k : Nat) (r : ArM × Val × Int) : Prop := Ext a r.1 ∧ Inv r.1 ∧ r.1.cells.length ≤ a.cells.length + n ∧ pairs r.1.cells ≤ pairs a.cells + k ∧ (r.2.2 = 0 → goodM r.1 r.2.1 = true)
theorem made_alloc {a : ArM} (ha : Inv a) (c : CeM) : MadeP a 1 (if c.k = 1 then 1 else 0) (allocM a c) := by
  rcases alloc_cases a c ha with ⟨h1, h2⟩ | ⟨h1, h2, h3, h4⟩
  · exact ⟨by rw [h2]; exact .refl a, by rw [h2]; exact ha, by rw [h2]; omega, by rw [h2]; omega, fun h => absurd h h1⟩
  · exact ⟨by rw [h2]; exact ext_push a c, by rw [h2]; exact h4, by rw [h2]; simp [pushM], by rw [h2]; simp only [pushM]; rw [pairs_app, pairs_one]; exact Nat.le_refl _, fun _ => by rw [h2, h3]; exact good_push a c⟩
theorem MadeP.then {a b : ArM} {n k n2 k2 : Nat} {r : ArM × Val × Int} (h1 : Ext a b) (h2 : b.cells.length ≤ a.cells.length + n) (h3 : pairs b.cells ≤ pairs a.cells + k) (h : MadeP b n2 k2 r) : MadeP a (n + n2) (k + k2) r := ⟨h1.trans h.1, h.2.1, by have := h.2.2.1; omega, by have := h.2.2.2.1; omega, h.2.2.2.2⟩
theorem MadeP.le {a : ArM} {n k n2 k2 : Nat} {r : ArM × Val × Int} (h : MadeP a n k r) (hn : n ≤ n2) (hk : k ≤ k2) : MadeP a n2 k2 r := ⟨h.1, h.2.1, by have := h.2.2.1; omega, by have := h.2.2.2.1; omega, h.2.2.2.2⟩
theorem made_none {a : ArM} (ha : Inv a) {n k : Nat} {v : Val} {e : Int} (h : e = 0 → goodM a v = true) : MadeP a n k (a, v, e) := ⟨.refl a, ha, Nat.le_add_right _ _, Nat.le_add_right _ _, h⟩
theorem made_sym {a : ArM} (ha : Inv a) (s : List UInt8) : MadeP a 0 0 (symM a s) := by
  unfold symM
  split
  · split
    · rename_i i hi
      refine made_none ha fun _ => ?_
      have := (List.findIdx?_eq_some_iff_getElem.1 hi).1
      simp [goodM, below]; omega
    · split
      · exact made_none ha fun h => by simp at h
      · obtain ⟨e1, e2⟩ := names_inv ha [s]
        exact ⟨e1, e2, by simp [nameM], by simp [nameM], fun _ => by simp [goodM, below, nameM]; omega⟩
  · exact made_none ha fun h => by simp at h
theorem made : ∀ (n : Nat) (d : Dat), d.size ≤ n → good d = true → ∀ a, Inv a → MadeP a (2 * d.size - 1) (d.size - 1) (makeM d a)
  | 0, d, hs, _ => by cases d; simp [Dat.size] at hs
  | n + 1, .mk K N S M L T, hs, hg => by
    intro a ha
    obtain ⟨hal, hgL, hgT⟩ := good_mk hg
    rw [Dat.size] at hs ⊢
    have ih := made n
    have pos : ∀ d : Dat, 1 ≤ d.size := fun d => by cases d; rw [Dat.size]; omega
    rw [makeM]
    split
    · rename_i h123
      refine made_none ha fun _ => ?_
      unfold alone at hal
      rcases h123 with rfl | rfl | rfl
      · simp at hal
        simp [goodM, isIn]
        omega
      · simp at hal
        simp [goodM, below]
        omega
      · simp at hal
        simp [goodM, below]
        omega
    split
    · exact (made_sym ha S).le (by omega) (by omega)
    split
    · exact (made_alloc ha _).le (by omega) (by simp)
    split
    · have hv : ∀ (l : List Dat), (∀ d ∈ l, d ∈ L) → ∀ a, Inv a → Ext a (vecM l a).1 ∧ Inv (vecM l a).1 ∧ (vecM l a).1.cells.length ≤ a.cells.length + 2 * sizes l ∧ pairs (vecM l a).1.cells ≤ pairs a.cells + sizes l := by
        intro l
        induction l with
        | nil => intro _ a ha; exact ⟨.refl a, ha, by simp [vecM], by simp [vecM]⟩
        | cons d l ihl =>
          intro hl a ha
          have hsz := size_mem (hl d (by simp))
          have hd := ih d (by omega) (goods_in hgL (hl d (by simp))) a ha
          have h1 := hd.2.2.1
          have h2 := hd.2.2.2.1
          rw [vecM, sizes]
          split
          · exact ⟨hd.1, hd.2.1, by simp only; omega, by simp only; omega⟩
          · obtain ⟨e1, e2, e3, e4⟩ := ihl (fun x hx => hl x (by simp [hx])) _ hd.2.1
            exact ⟨hd.1.trans e1, e2, by simp only; omega, by simp only; omega⟩
      obtain ⟨e1, e2, e3, e4⟩ := hv L (fun _ h => h) a ha
      split
      · rename_i hz
        exact ⟨e1, e2, by simp only; omega, by simp only; omega, fun h => absurd h hz⟩
      · exact (MadeP.then e1 e3 e4 (made_alloc e2 _)).le (by omega) (by simp)
    · have hr0 : MadeP a (2 * sizes T) (sizes T) (if K = 7 then tailM T a else (a, (4, 0), 0)) := by
        split
        · cases T with
          | nil => exact made_none ha fun _ => good_nil a
          | cons t T =>
            rw [tailM, sizes]
            rw [sizes] at hs
            exact (ih t (by omega) (goods_in hgT (by simp)) a ha).le (by omega) (by omega)
        · exact made_none ha fun _ => good_nil a
      generalize (if K = 7 then tailM T a else (a, (4, 0), 0)) = r at hr0
      have hv : ∀ (l : List Dat), (∀ d ∈ l, d ∈ L) → MadeP a (2 * sizes l + 2 * sizes T) (sizes l + sizes T) (lstM l r) := by
        intro l
        induction l with
        | nil => intro _; exact hr0.le (by simp [sizes]) (by simp [sizes])
        | cons d l ihl =>
          intro hl
          have hq := ihl (fun x hx => hl x (by simp [hx]))
          have hsz := size_mem (hl d (by simp))
          have hd := ih d (by omega) (goods_in hgL (hl d (by simp))) _ hq.2.1
          have h1 := pos d
          rw [lstM, sizes]
          split
          · exact hq.le (by omega) (by omega)
          · split
            · rename_i hz
              exact ⟨hq.1.trans hd.1, hd.2.1, by have := hd.2.2.1; have := hq.2.2.1; simp only; omega, by have := hd.2.2.2.1; have := hq.2.2.2.1; simp only; omega, fun h => absurd h hz⟩
            · exact (MadeP.then hq.1 hq.2.2.1 hq.2.2.2.1 (MadeP.then hd.1 hd.2.2.1 hd.2.2.2.1 (made_alloc hd.2.1 _))).le (by omega) (by simp; omega)
      have hL := hv L fun _ h => h
      split
      · rename_i hz
        exact ⟨hL.1, hL.2.1, by have := hL.2.2.1; simp only; omega, by have := hL.2.2.2.1; simp only; omega, fun h => absurd h hz⟩
      · exact hL.le (by omega) (by omega)
theorem made_of {a : ArM} (ha : Inv a) (d : Dat) : MadeP a (2 * d.size) d.size (ofM d a) := by
  unfold ofM
  split
  · rename_i h
    exact (made d.size d (Nat.le_refl _) (chk_good h).1 a ha).le (by omega) (by omega)
  · rename_i h
    exact made_none ha fun h2 => absurd h2 h
/-- A list has no more values than there are pairs. -/
theorem chain_pairs {a : ArM} (ha : Inv a) {e : Val} : ∀ (l : List Val) (v : Val) (i : Nat), GoodAt a i v → Chain a e l v → l.length ≤ pairs (a.cells.take i)
  | [], _, _, _, _ => Nat.zero_le _
  | x :: l, v, k, hv, ⟨i, w, h1, h2, h3⟩ => by
    subst h1
    have h4 : (i : Int) < k := hv.2 rfl
    have := chain_pairs ha l w i ((ha i _ h2).2.2.2 w (by simp)) h3
    obtain ⟨hi, he⟩ := List.getElem?_eq_some_iff.1 h2
    have e1 : a.cells.take (i + 1) = a.cells.take i ++ [⟨1, 0, [x, w], []⟩] := by rw [List.take_succ_eq_append_getElem hi, he]
    have e2 : pairs (a.cells.take (i + 1)) = pairs (a.cells.take i) + 1 := by rw [e1, pairs_app, pairs_one]; simp
    have e3 : pairs (a.cells.take (i + 1)) ≤ pairs (a.cells.take k) := by
      have : a.cells.take (i + 1) = (a.cells.take k).take (i + 1) := by rw [List.take_take]; congr 1; omega
      rw [this]
      exact (List.take_sublist _ _).countP_le ..
    simp
    omega
end Go.Proofs.YtnhcmcfgemoehaaGreat

/- The procedures of lists, called with lists. -/
namespace Go.Proofs.YtnhcmcfgemoehaaGreat
set_option maxRecDepth 4000
open Go.V

theorem row23 : (rowOf 23).1 ≠ [] ∧ (rowOf 23).2.1 = 1 ∧ (rowOf 23).2.2 = 1 := by unfold rowOf rws; simp
theorem row24 : (rowOf 24).1 ≠ [] ∧ (rowOf 24).2.1 = 0 ∧ (rowOf 24).2.2 = -1 := by unfold rowOf rws; simp
theorem row25 : (rowOf 25).1 ≠ [] ∧ (rowOf 25).2.1 = 1 ∧ (rowOf 25).2.2 = 1 := by unfold rowOf rws; simp
theorem row26 : (rowOf 26).1 ≠ [] ∧ (rowOf 26).2.1 = 2 ∧ (rowOf 26).2.2 = 2 := by unfold rowOf rws; simp
theorem equal_self {a : ArM} {v : Val} (h : goodM a v = true) : equalM a v v = true := by
  unfold equalM
  rw [h, eqM, if_neg (by decide), if_pos rfl]
  rfl
/-- A call that may be made comes to what its procedure does. -/
theorem doM_of {a : ArM} {n : Int} {l : List Val} {res : Val × ArM × Int} (h1 : (rowOf n).1 ≠ []) (h2 : ¬ 64 ≤ n) (h3 : countP n l.length) (h4 : ∀ v ∈ l, goodM a v = true) (h5 : ∀ (i : Nat) v, l[i]? = some v → goodP a n v i = true) : doM a n l res = if res.2.2 ≠ 0 then ((0, 0), res.2.1, res.2.2) else (res.1, res.2.1, 0) := by
  unfold doM
  rw [if_neg (by simp [h1, h2]), if_neg (by simpa using h3), if_neg (by simpa using fun v hv => equal_self (h4 v hv)), if_neg (by simpa using h5)]
section
variable {X : Nat → Prop} {A : Nat} {a : ArM} {m : Mem}
theorem do_of {n : Int} {l : List Val} {res : Val × ArM × Int} (hA : Ar X A a m) (ha : Inv a) (hn : n = 23 ∨ n = 24 ∨ n = 25 ∨ n = 26) (h3 : countP n l.length) (hll : l.length ≤ 4096) (h4 : ∀ v ∈ l, goodM a v = true) (h5 : ∀ (i : Nat) v, l[i]? = some v → goodP a n v i = true)
    (h : ∀ X m1 C, Ar X A a m1 → (∀ j, X j → j < m1.next) → ¬ X C → has m1 C (clC A n l 0) → wph Tryz.prog ca (.func 70) [.ptr C 0] m1 fun r m' => r = valA res.1 ∧ Cs X A C n l res.2.1 res.2.2 m1 m') :
    wph Tryz.prog ca (.func 22) [.ptr A 0, int n, .lst (vals l)] m fun v m' => v = (if res.2.2 ≠ 0 then .tup [valA (0, 0), int res.2.2] else .tup [valA res.1, int 0]) ∧ Up X A res.2.1 m m' := by
  have h1 : (rowOf n).1 ≠ [] := by
    rcases hn with rfl | rfl | rfl | rfl
    · exact row23.1
    · exact row24.1
    · exact row25.1
    · exact row26.1
  have h2 : ¬ 64 ≤ n := by omega
  have hd := doM_of (res := res) h1 h2 h3 h4 h5
  refine wph_mono (q22 (res := res) hA.cut (fun j hj => hj.2) ha.small hll fun _ _ _ _ _ m1 C hA1 hX1 hXC hC => q39 hA1 hX1 hXC hC hn fun m2 hA2 hX2 hC2 => h _ m2 C hA2 hX2 hXC hC2) ?_
  rintro v m' ⟨rfl, hu⟩
  rw [hd] at hu ⊢
  split
  · rename_i hz
    rw [if_pos hz] at hu
    exact ⟨rfl, hu.less⟩
  · rename_i hz
    rw [if_neg hz] at hu
    exact ⟨rfl, hu.less⟩
/-- How long a list is. -/
theorem do23 (hA : Ar X A a m) (ha : Inv a) {v : Val} (hv : goodM a v = true) : wph Tryz.prog ca (.func 22) [.ptr A 0, int 23, .lst [valA v]] m fun r m' => r = (if (listM a 1024 v).2 ≠ 0 then .tup [valA (0, 0), int (listM a 1024 v).2] else .tup [valA (1, ((listM a 1024 v).1.length : Int)), int 0]) ∧ Up X A a m m' :=
  do_of (l := [v]) (res := ((1, ((listM a 1024 v).1.length : Int)), a, (listM a 1024 v).2)) hA ha (.inl rfl) ⟨by rw [row23.2.1]; simp, .inr (by rw [row23.2.2]; simp)⟩ (by simp) (by simpa using hv) (fun i u hu => by simp [goodP]) fun X m1 C h1 h2 h3 h4 => q70_23 h1 h2 ha.small ha.pairs h3 h4 (v := v) rfl rfl
/-- A list turned about. -/
theorem do25 (hA : Ar X A a m) (ha : Inv a) {v : Val} (hv : goodM a v = true) {l : List Val} (hl : Chain a (4, 0) l v) (hn : l.length ≤ 1024) (hr : (a.cells.length : Int) + l.length ≤ a.room) : ∃ b w, Ext a b ∧ Inv b ∧ b.cells.length = a.cells.length + l.length ∧ goodM b w = true ∧ Chain b (4, 0) l.reverse w ∧ wph Tryz.prog ca (.func 22) [.ptr A 0, int 25, .lst [valA v]] m fun r m' => r = .tup [valA w, int 0] ∧ Up X A b m m' := by
  have hlm := chain_list l 1024 v hl hn
  obtain ⟨b, w, e1, e2, e3, e4, e5, e6⟩ := ahead_chain ha (good_nil a) l.reverse (fun x hx => chain_good ha l v hl x (by simpa using hx)) (by simpa using hr)
  refine ⟨b, w, e2, e3, by simpa using e4, e5, e6, ?_⟩
  exact do_of (l := [v]) (res := (w, b, 0)) hA ha (.inr (.inr (.inl rfl))) ⟨by rw [row25.2.1]; simp, .inr (by rw [row25.2.2]; simp)⟩ (by simp) (by simpa using hv) (fun i u hu => by simp [goodP]) fun X m1 C h1 h2 h3 h4 => q70_25 h1 h2 ha.small ha.pairs h3 h4 (v := v) rfl (by rw [hlm]; exact e1.symm)
/-- Two lists together. -/
theorem do24 (hA : Ar X A a m) (ha : Inv a) {v u : Val} (hv : goodM a v = true) (hu : goodM a u = true) {l : List Val} (hl : Chain a (4, 0) l v) (hn : l.length ≤ 1024) (hr : (a.cells.length : Int) + l.length ≤ a.room) : ∃ b w, Ext a b ∧ Inv b ∧ goodM b w = true ∧ Chain b u l w ∧ wph Tryz.prog ca (.func 22) [.ptr A 0, int 24, .lst [valA v, valA u]] m fun r m' => r = .tup [valA w, int 0] ∧ Up X A b m m' := by
  have hlm := chain_list l 1024 v hl hn
  obtain ⟨b, w, e1, e2, e3, e4, e5, e6⟩ := ahead_chain ha hu l (chain_good ha l v hl) hr
  refine ⟨b, w, e2, e3, e5, e6, ?_⟩
  exact do_of (l := [v, u]) (res := (w, b, 0)) hA ha (.inr (.inl rfl)) ⟨by rw [row24.2.1]; simp, .inl (by rw [row24.2.2]; simp)⟩ (by simp) (by simp [hv, hu]) (fun i u hu => by simp [goodP]) fun X m1 C h1 h2 h3 h4 => q70_24 h1 h2 ha.small ha.pairs h3 h4 (by simp) (by
    rw [appendM, if_neg (by simp)]
    simp [listsM, hlm, foldM, e1])
/-- A list's value at a place. -/
theorem do26 (hA : Ar X A a m) (ha : Inv a) {v e : Val} (hv : goodM a v = true) {l : List Val} (hl : Chain a e l v) {i : Nat} {x : Val} (hx : l[i]? = some x) (hi : i < 1024) : wph Tryz.prog ca (.func 22) [.ptr A 0, int 26, .lst [valA v, valA (1, (i : Int))]] m fun r m' => r = .tup [valA x, int 0] ∧ Up X A a m m' := by
  have hr := chain_ref l v i x hl hx
  have hg : goodM a (1, (i : Int)) = true := by simp [goodM, isIn]; omega
  refine do_of (l := [v, (1, (i : Int))]) (res := (x, a, 0)) hA ha (.inr (.inr (.inr rfl))) ⟨by rw [row26.2.1]; simp, .inr (by rw [row26.2.2]; simp)⟩ (by simp) (by simp [hv, hg]) (fun j u hu => ?_) fun X m1 C h1 h2 h3 h4 => q70_26 h1 h2 ha.small ha.pairs h3 h4 (v := v) (i := (1, (i : Int))) rfl rfl ?_
  · match j, hu with
    | 0, hu => simp [goodP]
    | 1, hu => simp at hu; subst hu; simp [goodP]
  · rw [listRefM, if_neg (by simp only; omega)]
    simp [hr]
end
end Go.Proofs.YtnhcmcfgemoehaaGreat
