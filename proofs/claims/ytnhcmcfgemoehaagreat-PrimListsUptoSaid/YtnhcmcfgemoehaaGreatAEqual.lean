import Derived.Test.YtnhcmcfgemoehaaGreatAOf
/- Whether two values are alike. -/
set_option linter.unusedSimpArgs false
set_option linter.unusedVariables false
set_option linter.unusedSectionVars false
namespace Go.Proofs.YtnhcmcfgemoehaaGreat
set_option maxRecDepth 4000
open Go.V
attribute [local simp] Nat.add_assoc

theorem two51 : Two Tryz.prog 51 3 2 := ⟨⟨_, _, Tryz.underlying51, by decide, by decide, rfl, rfl, rfl, rfl⟩, tagg3, tagg2, by kernel_rfl, by kernel_rfl⟩
theorem val_eq {xo yo : Operand} (v w : Val) : abin Tryz.prog .eql 51 xo yo (valA v) (valA w) = some (.sc (.bool (decide (v = w)))) := by
  have := (abin_two (xo := xo) (yo := yo) two51 (x1 := .int .i64 v.1) (y1 := .int .i64 w.1) (x2 := .int .i64 v.2) (y2 := .int .i64 w.2) (b1 := decide (v.1 = w.1)) (b2 := decide (v.2 = w.2)) (fun d => by rw [equalIn_int Tryz.underlying3]) (fun d => by rw [equalIn_int Tryz.underlying2])).1
  have e : decide (v = w) = (decide (v.1 = w.1) && decide (v.2 = w.2)) := by
    obtain ⟨a, b⟩ := v
    obtain ⟨c, d⟩ := w
    simp [Prod.ext_iff]
  rw [e]
  exact this
mutual
/-- Whether two values are alike, with so much left to look at. -/
def eqM (a : ArM) : Nat → Int → Val → Val → Bool × Int
  | 0, left, _, _ => (false, left)
  | n + 1, left, x, y =>
    if left - 1 < 0 then (false, left - 1) else if x = y then (true, left - 1) else
    match ixM a x, ixM a y with
    | some i, some j => if (a.cells.getD i zeroC).k ≠ (a.cells.getD j zeroC).k ∨ 3 < (a.cells.getD i zeroC).k ∨ (a.cells.getD i zeroC).s ≠ (a.cells.getD j zeroC).s then (false, left - 1) else
      if (a.cells.getD i zeroC).a.length ≠ (a.cells.getD j zeroC).a.length then (false, left - 1) else eqsM a n (left - 1) (a.cells.getD i zeroC).a (a.cells.getD j zeroC).a
    | _, _ => (false, left - 1)
def eqsM (a : ArM) : Nat → Int → List Val → List Val → Bool × Int
  | n, left, x :: xs, y :: ys => if (eqM a n left x y).1 = true then eqsM a n (eqM a n left x y).2 xs ys else (false, (eqM a n left x y).2)
  | _, left, _, _ => (true, left)
end
/-- No more is left than was. -/
theorem eqs_le {a : ArM} {n : Nat} (ih : ∀ left x y, 0 ≤ left → (eqM a n left x y).2 ≤ left ∧ -1 ≤ (eqM a n left x y).2 ∧ ((eqM a n left x y).1 = true → 0 ≤ (eqM a n left x y).2)) : ∀ (xs ys : List Val) (left : Int), 0 ≤ left → (eqsM a n left xs ys).2 ≤ left ∧ -1 ≤ (eqsM a n left xs ys).2 ∧ ((eqsM a n left xs ys).1 = true → 0 ≤ (eqsM a n left xs ys).2)
  | [], ys, left, h => by rw [eqsM]; exact ⟨Int.le_refl _, by omega, fun _ => h⟩; simp
  | x :: xs, [], left, h => by rw [eqsM]; exact ⟨Int.le_refl _, by omega, fun _ => h⟩; simp
  | x :: xs, y :: ys, left, h => by
    obtain ⟨h1, h2, h3⟩ := ih left x y h
    rw [eqsM]
    split
    · rename_i hc
      have := eqs_le ih xs ys (eqM a n left x y).2 (h3 hc)
      exact ⟨by omega, this.2⟩
    · exact ⟨h1, h2, by simp⟩
theorem eq_le (a : ArM) : ∀ (n : Nat) (left : Int) (x y : Val), 0 ≤ left → (eqM a n left x y).2 ≤ left ∧ -1 ≤ (eqM a n left x y).2 ∧ ((eqM a n left x y).1 = true → 0 ≤ (eqM a n left x y).2)
  | 0, left, x, y, h => by rw [eqM]; exact ⟨Int.le_refl _, by omega, by simp⟩
  | n + 1, left, x, y, h => by
    rw [eqM]
    split
    · exact ⟨by dsimp only; omega, by dsimp only; omega, by simp⟩
    split
    · exact ⟨by dsimp only; omega, by dsimp only; omega, fun _ => by dsimp only; omega⟩
    split
    · split
      · exact ⟨by dsimp only; omega, by dsimp only; omega, by simp⟩
      split
      · exact ⟨by dsimp only; omega, by dsimp only; omega, by simp⟩
      have := eqs_le (n := n) (fun l x y h => eq_le a n l x y h) (a.cells.getD ‹_› zeroC).a (a.cells.getD ‹_› zeroC).a (left - 1) (by omega)
      rename_i i j _ _ _ _
      have := eqs_le (n := n) (fun l x y h => eq_le a n l x y h) (a.cells.getD i zeroC).a (a.cells.getD j zeroC).a (left - 1) (by omega)
      exact ⟨by omega, this.2⟩
    · exact ⟨by dsimp only; omega, by dsimp only; omega, by simp⟩
theorem q76 {A L v : Nat} {left : Int} {m : Mem} (h : m.get L = some (.cells [.ptr A 0, int left] false v)) (h1 : 0 ≤ left) (h2 : left ≤ 1024) : EH Tryz.prog ca (.func 76) [.ptr L 0] m (.sc (.bool (decide (0 ≤ left - 1)))) (m.set L [.ptr A 0, int (left - 1)]) := by
  refine eh_of ?_
  refine wph_go Tryz.func76 rfl rfl (by simp [Tryz.f76]) (by simp [Tryz.f76]) fun Q hQ => ?_
  simp only [Tryz.f76, show ca.keepRes 76 = false from rfl, show ca.keepArgs 76 = false from rfl] at hQ ⊢
  have hw : IntKind.i64.wrap (left - 1) = left - 1 := IntWalk.i64_in _ (by omega)
  simp [h, hw]
  refine hQ _ _ _ ?_
  simp
theorem El.kc {m m' : Mem} {x : AV} {l : List Val} {Y : Nat → Prop} (h : El m x l) (k : KpC Y m m') (hY : ∀ j, owns x j → ¬ Y j) : El m' x l := by
  rcases h with rfl | ⟨rfl, rfl⟩ | ⟨h, id, v, f, rfl, h1, h2⟩
  · exact .inl rfl
  · exact .inr (.inl ⟨rfl, rfl⟩)
  · exact .inr (.inr ⟨h, id, v, f, rfl, Nat.lt_of_lt_of_le h1 k.next, by rw [k.get id h1 (hY id rfl)]; exact h2⟩)
theorem El.len {m m' : Mem} {x : AV} {l : List Val} {R : TypeId} (h : El m x l) : abuiltin Tryz.prog .len #[66] R [x] m' = some (int l.length, m') := by
  rcases h with rfl | ⟨rfl, rfl⟩ | ⟨_, id, v, f, rfl, _⟩
  · rw [alen_lst Tryz.underlying66, vals_length]
  · exact alen_emp Tryz.underlying66
  · rw [alen_sl Tryz.underlying66]
theorem El.at {m : Mem} {x : AV} {l : List Val} (h : El m x l) {i : Nat} {v : Val} (hv : l[i]? = some v) : ∃ p, aindexAddr Tryz.prog 66 x (int i) = some p ∧ ∀ m', (∀ j, owns x j → m'.get j = m.get j) → aload Tryz.prog 51 p m' = some (valA v) := by
  have hi := (List.getElem?_eq_some_iff.1 hv).1
  rcases h with rfl | ⟨rfl, rfl⟩ | ⟨_, id, w, f, rfl, h1, h2⟩
  · refine ⟨_, vals_at hv, fun m' _ => ?_⟩
    simp [aload, partOf_ag tagg51 tsize51, valA_agg]
  · simp at hv
  · have hv' : (vals l)[i]? = some (valA v) := by rw [vals_get, hv]; rfl
    obtain ⟨q1, q2⟩ := flat_at (vals_ok l) hv'
    refine ⟨_, aindexAddr_sl Tryz.underlying66 tsize51 hi, fun m' hm => ?_⟩
    have hg := (hm id rfl).trans h2
    simp only [aload, hg, Nat.zero_add]
    rw [partOf_ag tagg51 tsize51, if_pos q1, q2]
    rfl
theorem El.okc {m : Mem} {x : AV} {l : List Val} (h : El m x l) : x.okc = true ∧ x.cells = [x] := by
  rcases h with rfl | ⟨_, rfl⟩ | ⟨_, id, v, f, rfl, _⟩ <;> exact ⟨rfl, rfl⟩
theorem byts_back : ∀ s : List UInt8, (byts s).mapM V.byteOf = some s
  | [] => rfl
  | b :: s => by
    have ih := byts_back s
    have hb : V.byteOf (.sc (.int .u8 b.toNat)) = some b := by simp [V.byteOf]
    simp only [byts, List.map_cons, List.mapM_cons, hb] at ih ⊢
    rw [ih]
    rfl
/-- What a call of equal does. -/
def EqK (A L : Nat) (r : Bool × Int) (m : Mem) (v : AV) (m' : Mem) : Prop := v = .sc (.bool r.1) ∧ has m' L [.ptr A 0, int r.2] ∧ KpC (fun j => j = L) m m'
theorem goS_loadA {P : Program} {cfg : Cfg} {N : Nat} {Q : Ex → Sl → Mem → Prop} : True := trivial
set_option maxHeartbeats 4000000 in
theorem q78 {X : Nat → Prop} {A L : Nat} {a : ArM} {n : Nat} (ih : ∀ (left : Int) (x y : Val) (m : Mem), Ar X A a m → has m L [.ptr A 0, int left] → 0 ≤ left → left ≤ 1024 → left < n → wph Tryz.prog ca (.func 42) [.ptr L 0, valA x, valA y] m (EqK A L (eqM a n left x y) m))
    (hXL : ¬ X L) {x1 x2 : AV} {l1 l2 : List Val} {left : Int} {m : Mem} (hA : Ar X A a m) (hL : has m L [.ptr A 0, int left]) (h0 : 0 ≤ left) (h1 : left ≤ 1024) (hn0 : left < n) (e1 : El m x1 l1) (e2 : El m x2 l2) (o1 : ∀ j, owns x1 j → X j) (o2 : ∀ j, owns x2 j → X j) (hl : l1.length ≤ 4096) :
    wph Tryz.prog ca (.func 78) [x1, x2, .fn (.func 42) [.ptr L 0] []] m (EqK A L (if l1.length ≠ l2.length then (false, left) else eqsM a n left l1 l2) m) := by
  refine wph_go Tryz.func78 rfl rfl (by simp [Tryz.f78]) (by simp [Tryz.f78]) fun Q hQ => ?_
  simp only [Tryz.f78, show ca.keepRes 78 = false from rfl, show ca.keepArgs 78 = true from rfl] at hQ ⊢
  have fin : ∀ (e : Ex) (s' : Sl) (m' : Mem) (r : Bool × Int), (e = .normal ∨ e = .ret) → s'.at 6 = .sc (.bool r.1) → has m' L [.ptr A 0, int r.2] → KpC (fun j => j = L) m m' → (if l1.length ≠ l2.length then (false, left) else eqsM a n left l1 l2) = r → Q e s' m' := by
    intro e s' m' r he h6 hL' kc hr
    rw [hr] at hQ
    exact hQ _ _ _ (leave_sc he h6 ⟨rfl, hL', kc⟩)
  simp [e1.len, e2.len]
  by_cases hln : l1.length = l2.length
  rotate_left
  · have hln' : ¬ (l1.length : Int) = l2.length := by omega
    simp [hln']
    exact fin _ _ _ (false, left) (.inr rfl) (by simp) hL (.refl _ _) (if_pos hln)
  simp [hln, e1.len]
  refine go_count 17 l2.length (fun i s' m' => ∃ lf, eqsM a n left l1 l2 = eqsM a n lf (l1.drop i) (l2.drop i) ∧ 0 ≤ lf ∧ lf ≤ 1024 ∧ lf < n ∧ has m' L [.ptr A 0, int lf] ∧ KpC (fun j => j = L) m m') (by simp) (by omega) ⟨left, by simp, h0, h1, hn0, hL, .refl _ _⟩ ?_
  rintro i s' m' hi e17 ⟨lf, heq, hf0, hf1, hf2, hL', kc⟩ hsame hw Q' hn he
  have d1 : s'.at 1 = x2 := (hsame 1 (by kernel_rfl)).trans (by simp)
  have d2 : s'.at 2 = .fn (.func 42) [.ptr L 0] [] := (hsame 2 (by kernel_rfl)).trans (by simp)
  have d15 : s'.at 15 = x1 := (hsame 15 (by kernel_rfl)).trans (by simp)
  have d16 : s'.at 16 = int l2.length := (hsame 16 (by kernel_rfl)).trans (by simp)
  clear hsame
  simp [e17, d16]
  refine goB_split (fun h => ?_) fun h => ?_
  · have hlt : i < l2.length := by simpa using h
    obtain ⟨v1, hv1⟩ : ∃ v, l1[i]? = some v := ⟨_, List.getElem?_eq_getElem (by omega)⟩
    obtain ⟨v2, hv2⟩ : ∃ v, l2[i]? = some v := ⟨_, List.getElem?_eq_getElem hlt⟩
    obtain ⟨p1, a1, b1⟩ := (e1.kc kc fun j hj e => hXL (e ▸ o1 j hj)).at hv1
    obtain ⟨p2, a2, b2⟩ := (e2.kc kc fun j hj e => hXL (e ▸ o2 j hj)).at hv2
    have na1 : ∀ cs, aload Tryz.prog 51 p2 ((m'.new [int 0, int 0] false).set m'.next cs) = some (valA v2) := fun cs => b2 _ fun j hj => by
      have : j < m'.next := by
        rcases e2 with rfl | ⟨_, rfl⟩ | ⟨_, id, w, f, rfl, q, _⟩
        · exact hj.elim
        · exact hj.elim
        · have e : id = j := hj
          have := kc.next
          omega
      have hne : j ≠ m'.next := by omega
      simp [hne]
    simp [e17, d15, d1, a1, b1 m' (fun _ _ => rfl), a2, na1, d2, valA_agg]
    obtain ⟨Mc, hMc⟩ : ∃ Mc, Mc = (((m'.new [int 0, int 0] false).set m'.next [int v1.1, int v1.2]).new [int 0, int 0] false).set (m'.next + 1) [int v2.1, int v2.2] := ⟨_, rfl⟩
    have kMc : Kp m' Mc := by rw [hMc]; simp
    rw [← hMc]
    have hAc : Ar X A a Mc := (hA.kc kc fun j hj e => absurd hj (e ▸ hXL)).kp kMc
    refine goH_of (ih lf v1 v2 Mc hAc (hL'.kp kMc) hf0 hf1 hf2) ?_
    rintro _ m5 ⟨rfl, hL5, kc5⟩
    obtain ⟨b1, b2, b3⟩ := eq_le a n lf v1 v2 hf0
    have hd1 : l1.drop i = v1 :: l1.drop (i + 1) := by
      obtain ⟨h1, h2⟩ := List.getElem?_eq_some_iff.1 hv1
      rw [← h2, List.getElem_cons_drop]
    have hd2 : l2.drop i = v2 :: l2.drop (i + 1) := by
      obtain ⟨h1, h2⟩ := List.getElem?_eq_some_iff.1 hv2
      rw [← h2, List.getElem_cons_drop]
    rw [hd1, hd2, eqsM] at heq
    have kall : KpC (fun j => j = L) m m5 := (kc.trans (.of (.of kMc))).trans kc5
    cases hq : (eqM a n lf v1 v2).1 with
    | true =>
      rw [if_pos hq] at heq
      simp [e17, hw]
      exact hn _ _ hlt (by simp) ⟨_, heq, b3 hq, by omega, by omega, hL5, kall⟩
    | false =>
      rw [if_neg (by simp [hq])] at heq
      simp
      refine he _ _ _ (by simp) ?_
      simp
      exact fin _ _ _ (false, (eqM a n lf v1 v2).2) (.inr rfl) (by simp) hL5 kall (by rw [if_neg (by simp [hln]), heq])
  · have hge : i = l2.length := by have := of_decide_eq_false h; omega
    subst hge
    simp
    refine he _ _ _ (by simp) ?_
    simp
    refine fin _ _ _ (true, lf) (.inr rfl) (by simp) hL' kc ?_
    rw [if_neg (by simp [hln]), heq, List.drop_eq_nil_of_le (Nat.le_of_eq hln), eqsM]
    simp
set_option maxHeartbeats 8000000 in
theorem q42 {X : Nat → Prop} {A L : Nat} {a : ArM} (hsm : Small a) (hXL : ¬ X L) : ∀ (n : Nat) (left : Int) (x y : Val) (m : Mem), Ar X A a m → has m L [.ptr A 0, int left] → 0 ≤ left → left ≤ 1024 → left < n → wph Tryz.prog ca (.func 42) [.ptr L 0, valA x, valA y] m (EqK A L (eqM a n left x y) m)
  | 0, left, x, y, m, _, _, h0, _, h2 => by omega
  | n + 1, left, x, y, m, hA, hL, h0, h1, h2 => by
    have ih := q42 (X := X) (A := A) (L := L) hsm hXL n
    refine wph_go Tryz.func42 rfl rfl (by simp [Tryz.f42]) (by simp [Tryz.f42]) fun Q hQ => ?_
    simp only [Tryz.f42, show ca.keepRes 42 = false from rfl, show ca.keepArgs 42 = false from rfl] at hQ ⊢
    obtain ⟨hLl, wL, gL⟩ := hL
    have nL : m.next ≠ L := by omega
    have nL1 : m.next + 1 ≠ L := by omega
    have nL' : L ≠ m.next := by omega
    have nL1' : L ≠ m.next + 1 := by omega
    have k1 : Kp m ((m.new [int x.1, int x.2] false).new [int y.1, int y.2] false) := by simp
    obtain ⟨M1, hM1⟩ : ∃ M1, M1 = ((m.new [int x.1, int x.2] false).new [int y.1, int y.2] false).set L [.ptr A 0, int (left - 1)] := ⟨_, rfl⟩
    have kc1 : KpC (fun j => j = L) m M1 := by
      rw [hM1]
      exact (KpC.of (.of k1)).trans (kc_set L _ _)
    have hA1 : Ar X A a M1 := hA.kc kc1 fun j hj e => absurd hj (e ▸ hXL)
    have hL1 : has M1 L [.ptr A 0, int (left - 1)] := by rw [hM1]; exact ⟨by simp; omega, m.clock + 3, by simp⟩
    have gx : M1.get m.next = some (.cells [int x.1, int x.2] false (m.clock + 1)) := by rw [hM1]; simp [nL]
    have gy : M1.get (m.next + 1) = some (.cells [int y.1, int y.2] false (m.clock + 2)) := by rw [hM1]; simp [nL1]
    have qp := q76 (A := A) (L := L) (v := wL) (left := left) (m := (m.new [int x.1, int x.2] false).new [int y.1, int y.2] false) (by simp [nL', nL1', gL]) h0 h1
    rw [← hM1] at qp
    clear hM1
    have fin : ∀ (e : Ex) (s' : Sl) (m' : Mem) (r : Bool × Int), (e = .normal ∨ e = .ret) → s'.at 6 = .sc (.bool r.1) → has m' L [.ptr A 0, int r.2] → KpC (fun j => j = L) M1 m' → eqM a (n + 1) left x y = r → Q e s' m' := by
      intro e s' m' r he h6 hL' kc hr
      rw [hr] at hQ
      exact hQ _ _ _ (leave_sc he h6 ⟨rfl, hL', kc1.trans kc⟩)
    simp [qp.go]
    by_cases hl : left - 1 < 0
    · have hl' : ¬ 0 ≤ left - 1 := by omega
      have hl1 : ¬ 1 ≤ left := by omega
      simp [hl1]
      exact fin _ _ _ (false, left - 1) (.inr rfl) (by simp) hL1 (.refl _ _) (by rw [eqM, if_pos hl])
    have hl1 : 1 ≤ left := by omega
    simp [hl1, gx, gy, valA_agg, val_eq]
    by_cases hxy : x = y
    · simp [hxy]
      exact fin _ _ _ (true, left - 1) (.inr rfl) (by simp) hL1 (.refl _ _) (by rw [eqM, if_neg hl, if_pos hxy])
    simp [hxy]
    obtain ⟨t, M, cs, ns, xs, h, hx⟩ := id hA1
    have hcx := q77 h hx x
    have hcy := q77 h hx y
    have hL1' := hL1
    obtain ⟨_, wL1, gL1⟩ := hL1
    refine go_drawD (by kernel_rfl) ?_
    simp [gL1, gx, gy, valA_agg, hcx.go, hcy.go]
    refine goM_of (l := [(5, 9), (5, 10)]) (by kernel_rfl) (?_ : List.all _ _ = true) ?_
    · simp [metAtD, metOkD, rank, verKeptD, Region.wanted, Mem.ver, gL1, gx, gy]
    simp
    have hfalse : ∀ (s' : Sl), s'.at 6 = .sc (.bool false) → eqM a (n + 1) left x y = (false, left - 1) → Q .ret s' M1 := fun s' q1 q2 => fin _ _ _ (false, left - 1) (.inr rfl) q1 hL1' (.refl _ _) q2
    cases hix : ixM a x with
    | none =>
      have c1 : cellP a cs x = .sc (.pointer none) := by simp [cellP, hix]
      refine go_draw0 (by kernel_rfl) (by kernel_rfl) ?_
      simp [c1, nil135, undefV, undef]
      exact hfalse _ (by simp) (by rw [eqM, if_neg hl, if_neg hxy, hix])
    | some i =>
    obtain ⟨hxi, c, hc⟩ := ixM_some hix
    obtain ⟨C, vc, x1, rfl, hC, htC, hgC, hxi1, hzi, hrow⟩ := h.at hc
    have c1 : cellP a (.sl C 0 a.cells.length 4 true none) x = .ptr C (i * 4) := by simp [cellP, hix, blk]
    cases hiy : ixM a y with
    | none =>
      have c2 : cellP a (.sl C 0 a.cells.length 4 true none) y = .sc (.pointer none) := by simp [cellP, hiy]
      refine go_draw0 (by kernel_rfl) (by kernel_rfl) ?_
      simp [c1, c2, nil135, eq135, undefV, undef]
      exact hfalse _ (by simp) (by rw [eqM, if_neg hl, if_neg hxy, hix, hiy])
    | some j =>
    obtain ⟨hyj, d, hd⟩ := ixM_some hiy
    obtain ⟨C', vc', y1, hC', _, _, _, hyj1, hzj, hrow2⟩ := h.at hd
    obtain rfl : C = C' := by cases hC'; rfl
    have c2 : cellP a (.sl C 0 a.cells.length 4 true none) y = .ptr C (j * 4) := by simp [cellP, hiy, blk]
    obtain ⟨f1, f2⟩ := flat_at (zip_ok a.cells xs) hzi
    obtain ⟨g1, g2⟩ := flat_at (zip_ok a.cells xs) hzj
    have hgi : a.cells.getD i zeroC = c := by simp [List.getD_eq_getElem?_getD, hc]
    have hgj : a.cells.getD j zeroC = d := by simp [List.getD_eq_getElem?_getD, hd]
    have part : ∀ {k : Nat} {r : AV} (q : Nat) (T : TypeId) (w : AV), k * 4 + 4 ≤ (flat (List.zipWith rowA a.cells xs)).length → ((flat (List.zipWith rowA a.cells xs)).drop (k * 4)).take 4 = r.cells → r.cells[q]? = some w → (flat (List.zipWith rowA a.cells xs))[k * 4 + q]? = some w := by
      intro k r q T w h1 h2 h3
      have hq : q < 4 := by
        have := (List.getElem?_eq_some_iff.1 h3).1
        rw [← h2] at this
        simp at this
        omega
      rw [← h2, List.getElem?_take_of_lt hq, List.getElem?_drop] at h3
      exact h3
    have px0 := part 0 3 (int c.k) f1 f2 rfl
    have px2 := part 2 3 x1 f1 f2 rfl
    have px3 := part 3 3 (.lst (byts c.s)) f1 f2 rfl
    have py0 := part 0 3 (int d.k) g1 g2 rfl
    have py2 := part 2 3 y1 g1 g2 rfl
    have py3 := part 3 3 (.lst (byts d.s)) g1 g2 rfl
    simp only [Nat.add_zero] at px0 py0
    have heqM : eqM a (n + 1) left x y = (if c.k ≠ d.k ∨ 3 < c.k ∨ c.s ≠ d.s then (false, left - 1) else if c.a.length ≠ d.a.length then (false, left - 1) else eqsM a n (left - 1) c.a d.a) := by rw [eqM, if_neg hl, if_neg hxy, hix, hiy]; simp only [hgi, hgj]
    refine go_draw0 (by kernel_rfl) (by kernel_rfl) ?_
    by_cases hk : c.k = d.k
    rotate_left
    · simp [c1, c2, eq135, hgC, px0, py0, px3, py3, hk, undefV, undef]
      exact hfalse _ (by simp) (by rw [heqM, if_pos (.inl hk)])
    by_cases hk3 : 3 < c.k
    · have hk3' : 3 < d.k := by omega
      simp [c1, c2, eq135, hgC, px0, py0, px3, py3, hk, hk3', undefV, undef]
      exact hfalse _ (by simp) (by rw [heqM, if_pos (.inr (.inl hk3))])
    have hk3' : ¬ 3 < d.k := by omega
    have hby : ∀ s : List UInt8, aconvert Tryz.prog 76 9 (.lst (byts s)) = some (.sc (.string ⟨⟨s⟩⟩)) := fun s => aconvert_bs Tryz.underlying76 Tryz.underlying9 Tryz.underlying5 (byts_back s)
    by_cases hs : c.s = d.s
    rotate_left
    · simp [c1, c2, eq135, hgC, px0, py0, px3, py3, hk, hk3', hby, hs]
      exact hfalse _ (by simp) (by rw [heqM, if_pos (.inr (.inr hs))])
    · simp [c1, c2, eq135, hgC, px0, py0, px3, py3, hk, hk3', hby, hs]
      refine go_draw0 (by kernel_rfl) (by kernel_rfl) ?_
      have ox := (El.of hrow).okc
      have oy := (El.of hrow2).okc
      have ownX : ∀ {z : AV} {k : Nat} {l : List Val}, Has t (4 + k) 2 true (.emp 1) M1 z (vals l) → ∀ j, owns z j → X j := by
        intro z k l hh j hj
        rcases hh with ⟨_, rfl⟩ | ⟨_, id, w, rfl, _, ht, _⟩
        · exact hj.elim
        · have e : id = j := hj
          subst e
          exact (hx _ (by rw [ht]; simp)).1
      simp [hgC, px2, py2]
      refine goH_of (q78 (n := n) (fun left x y m => ih left x y m) hXL hA1 hL1' (by omega) (by omega) (by omega) (.of hrow) (.of hrow2) (ownX hrow) (ownX hrow2) (hsm c (List.mem_of_getElem? hc)).1) ?_
      rintro _ m5 ⟨rfl, hL5, kc5⟩
      simp
      exact fin _ _ _ _ (.inr rfl) (by simp) hL5 kc5 (by rw [heqM, if_neg (by simp [hk, hk3', hs])])
end Go.Proofs.YtnhcmcfgemoehaaGreat

/- Whether two values of an arena are alike; an arena that goes its own way. -/
namespace Go.Proofs.YtnhcmcfgemoehaaGreat
set_option maxRecDepth 4000
open Go.V
attribute [local simp] Nat.add_assoc

def equalM (a : ArM) (x y : Val) : Bool := goodM a x && (goodM a y && (eqM a 1025 1024 x y).1)
set_option maxHeartbeats 4000000 in
theorem q24 {X : Nat → Prop} {A : Nat} {a : ArM} {m : Mem} (hA : Ar X A a m) (hsm : Small a) (x y : Val) : EH Tryz.prog ca (.func 24) [.ptr A 0, valA x, valA y] m (.sc (.bool (equalM a x y))) m := by
  refine eh_run Tryz.func24 rfl rfl rfl rfl (args1 := [.ptr A 0, valA x, valA y]) (m1 := m) (by simp [fzvs]) (by simp) (by simp [Tryz.f24]) (by simp [Tryz.f24]) ?_
  have k1 : Kp m ((m.new [int x.1, int x.2] false).new [int y.1, int y.2] false) := by simp
  have q1 := q34 (hA.kp k1)
  have q2 := q41 (hA.kp k1) x
  have q3 := q41 (hA.kp k1) y
  simp only [Tryz.f24, show ca.keepRes 24 = false from rfl]
  unfold equalM
  cases hgx : goodM a x with
  | false =>
    rw [hgx] at q2
    simp [q1.go, valA_agg, q2.go, undefV, undef]
  | true =>
  rw [hgx] at q2
  cases hgy : goodM a y with
  | false =>
    rw [hgy] at q3
    simp [q1.go, valA_agg, q2.go, q3.go]
  | true =>
  rw [hgy] at q3
  simp [q1.go, valA_agg, q2.go, q3.go, abuild, placesOf, fillAt]
  refine goH_of (q42 (X := fun j => X j ∧ j < m.next) (A := A) (L := m.next + 2) (a := a) hsm (fun h => by omega) 1025 1024 x y _ (hA.cut.kp (by simp)) ⟨by simp, m.clock + 3, by simp⟩ (by omega) (by omega) (by omega)) ?_
  rintro _ m5 ⟨rfl, hL5, kc5⟩
  simp
  exact kpc_kp kc5 (by simp) fun j h => by omega
end Go.Proofs.YtnhcmcfgemoehaaGreat
