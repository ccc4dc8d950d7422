import Derived.Test.YtjiijacibpgciaaGreatTSpec
/- A row is built. -/
set_option linter.unusedSimpArgs false
set_option linter.unusedVariables false
set_option linter.unusedSectionVars false
namespace Go.Proofs.YtjiijacibpgciaaGreat
set_option maxRecDepth 4000
open Go.V
attribute [local simp] Nat.add_assoc

theorem flat_put (w : Nat) : ∀ (ys : List AV) (k : Nat) (y : AV), okAll w ys = true → k < ys.length → y.cells.length = w → flat (ys.set k y) = (flat ys).take (k * w) ++ (y.cells ++ (flat ys).drop (k * w + w))
  | [], k, y, _, h, _ => by simp at h
  | a :: ys, 0, y, ho, _, hy => by
    rw [okAll_cons] at ho
    simp at ho
    have t2 : (a.cells ++ flat ys).drop w = flat ys := by rw [← ho.1.2]; simp
    simp only [List.set_cons_zero, flat_cons, Nat.zero_mul, List.take_zero, List.nil_append, Nat.zero_add, t2]
  | a :: ys, k + 1, y, ho, h, hy => by
    rw [okAll_cons] at ho
    simp at ho h
    have ih := flat_put w ys k y ho.2 h hy
    simp only [List.set_cons_succ, flat_cons]
    have e1 : (k + 1) * w = a.cells.length + k * w := by rw [ho.1.2, Nat.succ_mul]; omega
    have e2 : a.cells.length + k * w + w = a.cells.length + (k * w + w) := by omega
    have t1 : (a.cells ++ flat ys).take (a.cells.length + k * w) = a.cells ++ (flat ys).take (k * w) := by rw [List.take_append, List.take_of_length_le (Nat.le_add_right _ _)]; simp
    have t2 : (a.cells ++ flat ys).drop (a.cells.length + (k * w + w)) = (flat ys).drop (k * w + w) := by simp [List.drop_append]
    rw [ih, e1, e2, t1, t2, List.append_assoc]
set_option maxHeartbeats 8000000 in
theorem t39 (R : Dat → Prop) (B : Nat) (mark : Int) (d : Dat) (hd : d.fits)
    (h19 : ∀ (got : List Got) (left bad : Int) (m : Mem), gfits got → okGs R got → got.length < 2 ^ 21 → has m B (bld mark left bad) → wph Tryz.prog cw (.func 19) [.ptr B 0, enc d, .lst (encGs got)] m (DatK R B mark bad d m))
    (got : List Got) (hgot : gfits got) (hok : okGs R got) (hl : got.length < 2 ^ 21) (left bad : Int) (m : Mem) (hB : has m B (bld mark left bad)) :
    wph Tryz.prog cw (.func 39) [.ptr B 0, enc d, .lst (encGs got)] m (RowK R B mark bad m) := by
  obtain ⟨bl, bv, be⟩ := hB
  refine wph_go Tryz.func39 rfl rfl (by simp [Tryz.f39]) (by simp [Tryz.f39]) fun Q hQ => ?_
  simp only [Tryz.f39, show cw.keepRes 39 = false from rfl, show cw.keepArgs 39 = false from rfl] at hQ ⊢
  simp [fzvs]
  simp [amakeMap_none tmap99]
  refine goH_eh (e30 d _) ?_
  simp
  refine go_range (f := 69) (a := []) (b := [.ptr (m.next + 7) 0]) (by simp) (by kernel_rfl) ?_
  simp only [List.nil_append, List.singleton_append]
  generalize hcd : LCode.mk _ _ _ _ _ = c
  have T : Tells (RowJ (m.next + 8) B m.next (m.next + 2) (m.next + 3) (m.next + 4) (m.next + 5) (m.next + 6) mark left bad got c) (fun ys => (rfold got ys).isSome) (m.next + 8) := by
    refine ⟨fun l F m m' h k => rowJ_keep h k, fun l F m h => rowJ_lt h, ?_⟩
    rintro l F m1 x hJ hgo hx
    have hlt := rowJ_lt hJ
    obtain ⟨rfl, h1, ⟨b3l, b3v, b3e⟩, ⟨gl, gv, ge⟩, ⟨ml, mv, me⟩, h5, ⟨rl, rv, re⟩, h7⟩ := hJ
    obtain ⟨⟨many, ks⟩, hst⟩ : ∃ st, rfold got l = some st := by
      rcases hgo with rfl | h
      · exact ⟨_, rfl⟩
      · exact Option.isSome_iff_exists.1 h
    rw [hst] at h7
    obtain ⟨⟨Bl, Bv, Be⟩, ⟨nl, nv, ne⟩, ⟨kl, hset, hkl⟩, ver, hloop⟩ := h7
    refine wph_round hloop (by rw [← hcd]; rfl) ?_
    have c1 := congrArg LCode.assign hcd
    have c2 := congrArg LCode.body hcd
    have c3 := congrArg LCode.N hcd
    have c4 := congrArg LCode.s hcd
    have c5 := congrArg LCode.ps hcd
    dsimp only at c1 c2 c3 c4 c5
    simp only [← c1, ← c2, ← c3, ← c4, ← c5]
    have n1 : m.next ≠ m1.next := by omega
    have n2 : m.next + 2 ≠ m1.next := by omega
    have n3 : m.next + 3 ≠ m1.next := by omega
    have n4 : m.next + 4 ≠ m1.next := by omega
    have n6 : m.next + 6 ≠ m1.next := by omega
    have nB : B ≠ m1.next := by omega
    have zl : 6 ≤ zeroCells.length := by decide
    have zd : List.drop 6 zeroCells = [] := rfl
    have hsn : rfold got (l ++ [x]) = rstep got (many, ks) x := by rw [rfold_snoc, hst]; rfl
    simp [Sl.puts, hloop, b3e, ge, me, re, ne, Be, n1, n2, n3, n4, n6, nB, zl, zd, (t34 got x hgot hl hx).go, hsn]
    let FF : Nat → Prop := fun i => i = m.next + 8 ∨ i = B ∨ i = m.next ∨ i = m.next + 2 ∨ i = m.next + 3 ∨ i = m.next + 4 ∨ i = m.next + 5 ∨ i = m.next + 6
    have same : rstep got (many, ks) x = some (many, ks) → ∃ F', RowJ (m.next + 8) B m.next (m.next + 2) (m.next + 3) (m.next + 4) (m.next + 5) (m.next + 6) mark left bad got c (l ++ [x]) F' ((((m1.new zeroCells false).set m1.next (enc x).cells).setLoop (m.next + 8) .busy none c).setLoop (m.next + 8) .ready none c) ∧ (∀ i, F' i → FF i ∨ m1.next ≤ i) ∧ KpC FF m1 ((((m1.new zeroCells false).set m1.next (enc x).cells).setLoop (m.next + 8) .busy none c).setLoop (m.next + 8) .ready none c) := by
      intro hr
      refine ⟨_, ⟨rfl, by simp; omega, ⟨by simp; omega, b3v, by simp [n1, b3e]⟩, ⟨by simp; omega, gv, by simp [n2, ge]⟩, ⟨by simp; omega, mv, by simp [n6, me]⟩, by simp; omega, ⟨by simp; omega, rv, by simp [n3, re]⟩, ?_⟩, fun i hi => .inl hi, by simp, fun id hi hx => ?_, fun id hi hx => ?_⟩
      · rw [hsn, hr]
        exact ⟨⟨by simp; omega, Bv, by simp [nB, Be]⟩, ⟨by simp; omega, nv, by simp [n4, ne]⟩, ⟨kl, hset.keep (by simp), hkl⟩, m1.clock + 4, by simp⟩
      · have : id ≠ m1.next := by omega
        simp [this]
      · have : id ≠ m.next + 8 := fun e => hx (.inl e)
        simp [this]
    rcases plc_in got x with h | ⟨i, h, hi⟩
    · have hr : rstep got (many, ks) x = some (many, ks) := by simp [rstep, h]
      simp [h, hr, undefV, undef]
      exact same hr
    · obtain ⟨g, hg⟩ : ∃ g, got[i]? = some g := ⟨_, List.getElem?_eq_getElem hi⟩
      have hg' : (encGs got)[i]? = some (encG g) := by rw [encGs_get, hg]; rfl
      have h0 : (0 : Int) ≤ i := by omega
      have h0' : ¬ ((i : Int) < 0) := by omega
      by_cases hdp : g.deep = 0
      · have hr : rstep got (many, ks) x = some (many, ks) := by simp [rstep, h, hg, hdp, h0']
        simp [h, h0, h0', hr, ge, n2, aindexAddr_lst Tryz.underlying26 tsize44 hg' (encG_cells_length g), encG_cells, hdp]
        exact same hr
      · simp [h, h0, h0', ge, n2, aindexAddr_lst Tryz.underlying26 tsize44 hg' (encG_cells_length g), encG_cells, hdp]
        refine go_draw0 (by kernel_rfl) (by kernel_rfl) ?_
        by_cases hm : 0 ≤ many ∧ many ≠ g.subs.length
        · have hr : rstep got (many, ks) x = none := by simp [rstep, h, hg, hdp, h0', hm]
          have p1 : B ≠ m.next + 3 := by omega
          have p2 : m.next ≠ B := by omega
          have p3 : m.next + 2 ≠ B := by omega
          have p4 : m.next + 6 ≠ B := by omega
          have p5 : m.next + 4 ≠ B := by omega
          have p6 : m.next + 3 ≠ B := by omega
          simp [hm.1, hm.2, hr, ge, ne, n2, n4, b3e, n1, nB, Be, re, n3, p1, p6, aindexAddr_lst Tryz.underlying26 tsize44 hg' (encG_cells_length g), encG_cells]
          refine ⟨_, ⟨rfl, by simp; omega, ⟨by simp; omega, b3v, by simp [n1, b3e, p2]⟩, ⟨by simp; omega, gv, by simp [n2, ge, p3]⟩, ⟨by simp; omega, mv, by simp [n6, me, p4]⟩, by simp; omega, ⟨by simp; omega, m1.clock + 5, by simp⟩, ?_⟩, fun i hi => .inl hi, by simp, fun id hi hx => ?_, fun id hi hx => ?_⟩
          · rw [hsn, hr]
            exact ⟨⟨by simp; omega, m1.clock + 4, by simp [p1]⟩, ⟨many, by simp; omega, nv, by simp [n4, p5, ne]⟩, m1.clock + 6, by simp⟩
          · have a1 : id ≠ m1.next := by omega
            have a2 : id ≠ B := fun e => hx (.inr (.inl e))
            have a3 : id ≠ m.next + 3 := fun e => hx (by omega)
            simp [a1, a2, a3]
          · have a1 : id ≠ m.next + 8 := fun e => hx (.inl e)
            simp [a1]
        · have hr : rstep got (many, ks) x = some ((g.subs.length : Int), (i : Int) :: ks) := by simp [rstep, h, hg, hdp, h0', hm]
          obtain ⟨es, ck, hput, kl', hset', hkl'⟩ := SetOk.put (P := Tryz.prog) tmap99 Tryz.underlying3 (hset.keep (m' := ((((m1.new zeroCells false).set m1.next (enc x).cells).setLoop (m.next + 8) .busy none c).set (m.next + 4) [int g.subs.length])) (by simp)) i
          have q1 : B ≠ m.next + 4 := by omega
          have upd : ∃ F', RowJ (m.next + 8) B m.next (m.next + 2) (m.next + 3) (m.next + 4) (m.next + 5) (m.next + 6) mark left bad got c (l ++ [x]) F' ((((((m1.new zeroCells false).set m1.next (enc x).cells).setLoop (m.next + 8) .busy none c).set (m.next + 4) [int g.subs.length]).setMap (m.next + 5) es ck).setLoop (m.next + 8) .ready none c) ∧ (∀ i, F' i → FF i ∨ m1.next ≤ i) ∧ KpC FF m1 ((((((m1.new zeroCells false).set m1.next (enc x).cells).setLoop (m.next + 8) .busy none c).set (m.next + 4) [int g.subs.length]).setMap (m.next + 5) es ck).setLoop (m.next + 8) .ready none c) := by
            refine ⟨_, ⟨rfl, by simp; omega, ⟨by simp; omega, b3v, by simp [n1, b3e]⟩, ⟨by simp; omega, gv, by simp [n2, ge]⟩, ⟨by simp; omega, mv, by simp [n6, me]⟩, by simp; omega, ⟨by simp; omega, rv, by simp [n3, re]⟩, ?_⟩, fun i hi => .inl hi, by simp, fun id hi hx => ?_, fun id hi hx => ?_⟩
            · rw [hsn, hr]
              exact ⟨⟨by simp; omega, Bv, by simp [nB, Be, q1]⟩, ⟨by simp; omega, m1.clock + 4, by simp⟩, ⟨kl', hset'.keep (by simp), fun y => by rw [hkl' y, hkl y]; simp⟩, m1.clock + 6, by simp⟩
            · have a1 : id ≠ m1.next := by omega
              have a2 : id ≠ m.next + 4 := fun e => hx (by simp only [FF]; omega)
              simp [a1, a2]
            · have a1 : id ≠ m.next + 8 := fun e => hx (.inl e)
              have a2 : id ≠ m.next + 5 := fun e => hx (by simp only [FF]; omega)
              simp [a1, a2]
          by_cases hm0 : 0 ≤ many
          · have hm1 : many = g.subs.length := Classical.byContradiction fun q => hm ⟨hm0, q⟩
            subst hm1
            simp [hr, ge, ne, n2, n4, me, n6, aindexAddr_lst Tryz.underlying26 tsize44 hg' (encG_cells_length g), encG_cells, hput]
            exact upd
          · simp [hm0, hr, ge, ne, n2, n4, me, n6, aindexAddr_lst Tryz.underlying26 tsize44 hg' (encG_cells_length g), encG_cells, hput, undefV, undef]
            exact upd
  have k0 : Kp m ((((((((((m.new [AV.ptr B 0] false).new (enc d).cells false).new [AV.lst (encGs got)] false).new [AV.emp 0] false).new [AV.sc (Value.int IntKind.i64 0)] false).set (m.next + 4) [AV.sc (Value.int IntKind.i64 (-1))]).newMap.new [AV.sc (Value.map none)] false).set (m.next + 6) [AV.mp (m.next + 5)]).new (enc d).cells false).newLoop c) := by simp
  refine wph_mono (all52 T d hd (fun i => i = m.next + 8 ∨ i = B ∨ i = m.next ∨ i = m.next + 2 ∨ i = m.next + 3 ∨ i = m.next + 4 ∨ i = m.next + 5 ∨ i = m.next + 6) _ ⟨rfl, by simp, ⟨by simp, _, by simp; rfl⟩, ⟨by simp, _, by simp; rfl⟩, ⟨by simp, _, by simp; rfl⟩, by simp, ⟨by simp, _, by simp; rfl⟩, ?_⟩ ⟨by simp, _, by simp; rfl⟩ (by omega)) ?_
  · have p0 : rfold got [] = some (-1, []) := rfl
    have q1 : B ≠ m.next := by omega
    have q2 : B ≠ m.next + 1 := by omega
    have q3 : B ≠ m.next + 2 := by omega
    have q4 : B ≠ m.next + 3 := by omega
    have q5 : B ≠ m.next + 4 := by omega
    have q6 : B ≠ m.next + 5 := by omega
    have q7 : B ≠ m.next + 6 := by omega
    have q8 : B ≠ m.next + 7 := by omega
    rw [p0]
    exact ⟨⟨by simp; omega, bv, by simp [*]⟩, ⟨by simp, _, by simp; rfl⟩, ⟨[], ⟨_, by simp; rfl, by simp, by simp⟩, by simp⟩, _, by simp; rfl⟩
  rintro v m2 ⟨⟨F', hJ, h8⟩, h9⟩
  generalize (vis (fun ys => (rfold got ys).isSome) [] (if chk d = 0 then pre d else [])).1 = zs at hJ
  obtain ⟨rfl, h1, ⟨b3l, b3v, b3e⟩, ⟨gl, gv, ge⟩, ⟨ml, mv, me⟩, h5, ⟨rl, rv, re⟩, h7⟩ := hJ
  have hb9 := h9.next
  simp at hb9
  have kc2 : KpC (fun i => i = B) m (m2.killLoop (m.next + 8)) := by
    have a1 : KpC (fun i => i = B ∨ m.next ≤ i) m m2 := (KpC.of (.of k0)).trans (h9.mono fun i h => by omega)
    have a2 : KpC (fun i => i = B ∨ m.next ≤ i) m2 (m2.killLoop (m.next + 8)) := by
      refine ⟨by simp, fun id hi hx => by simp, fun id hi hx => ?_⟩
      have : id ≠ m.next + 8 := fun e => hx (by omega)
      simp [this]
    exact (a1.trans a2).cut
  obtain ⟨M2, hM2⟩ : ∃ M2, M2 = m2.killLoop (m.next + 8) := ⟨_, rfl⟩
  have hgM : ∀ i, M2.get i = m2.get i := fun i => by rw [hM2]; simp
  have hnM : M2.next = m2.next := by rw [hM2]; simp
  have hmM : M2.map (m.next + 5) = m2.map (m.next + 5) := by rw [hM2]; simp
  rw [← hM2] at kc2
  cases hst : rfold got zs with
  | none =>
    rw [hst] at h7
    obtain ⟨⟨Bl, Bv, Be⟩, ⟨k, nl, nv, ne⟩, ver, hloop⟩ := h7
    refine ⟨_, .ret, by simpa using hloop, by simp, rfl, ?_⟩
    simp [← hM2]
    refine hQ _ _ _ ?_
    simp [hgM, re]
    exact ⟨[], 62, by simp [encs], by simp, trivial, by simp, kc2, ⟨left, by omega, Bv, by rw [hgM]; exact Be⟩, by omega⟩
  | some st =>
    rw [hst] at h7
    obtain ⟨⟨Bl, Bv, Be⟩, ⟨nl, nv, ne⟩, ⟨kl, hset, hkl⟩, ver, hloop⟩ := h7
    have hinv := rfold_inv hst
    refine ⟨_, .normal, by simpa using hloop, by simp, rfl, ?_⟩
    have dn : m.next + 1 < ((((((((((m.new [AV.ptr B 0] false).new (enc d).cells false).new [AV.lst (encGs got)] false).new [AV.emp 0] false).new [AV.sc (Value.int IntKind.i64 0)] false).set (m.next + 4) [AV.sc (Value.int IntKind.i64 (-1))]).newMap.new [AV.sc (Value.map none)] false).set (m.next + 6) [AV.mp (m.next + 5)]).new (enc d).cells false).newLoop c).next := by simp
    have de : M2.get (m.next + 1) = some (.cells (enc d).cells false (m.clock + 2)) := by
      rw [hgM, h9.get _ dn (by omega)]
      simp
    obtain ⟨n, hmx, hn30, hks⟩ : ∃ n : Nat, max st.1 0 = (n : Int) ∧ n ≤ 30 ∧ ∀ k ∈ st.2, ∃ (j : Nat) (g : Got), k = j ∧ got[j]? = some g ∧ g.subs.length = n := by
      by_cases hneg : st.1 < 0
      · have := hinv.1.1 hneg
        exact ⟨0, by omega, by omega, fun k hk => by rw [this] at hk; simp at hk⟩
      · refine ⟨st.1.toNat, by omega, ?_, fun k hk => ?_⟩
        · cases hc : st.2 with
          | nil => exact absurd (hinv.1.2 hc) hneg
          | cons k ks =>
            obtain ⟨j, g, e1, e2, e3⟩ := hinv.2 k (by simp [hc])
            have := (okG_i (okGs_mem hok (List.mem_of_getElem? e2))).2.2.1
            omega
        · obtain ⟨j, g, e1, e2, e3⟩ := hinv.2 k hk
          exact ⟨j, g, e1, e2, by omega⟩
    have hset2 : SetOk M2 (m.next + 5) kl := hset.keep hmM
    simp [← hM2, hgM, ne, amax2, hmx]
    have fin : ∀ (m' : Mem) (v : AV) (ys : List Dat) (bad1 left1 : Int), KpC (fun i => i = B) M2 m' → Acc M2 m' 6 true (encs ys) v → ys.length ≤ 30 → fitss ys → (bad1 = 0 → ∀ z ∈ ys, AllSym R z) → has m' B (bld mark left1 bad1) → (bad1 = 0 → bad = 0) →
        RowK R B mark bad m (fzr (m'.set (m.next + 3) [v]) v).1 (fzr (m'.set (m.next + 3) [v]) v).2 := by
      intro m' v ys bad1 left1 kc3 hacc hylen hyfit hysym hB3 hbad1
      have lvF : Lv M2 (m'.set (m.next + 3) [v]) 6 true (encs ys) v := (Ow.lv (.inl hacc)).keep (kc_set (m.next + 3) [v] m') fun j hj h => by have := (acc_lt hacc j hj).1; omega
      obtain ⟨m4, q1, q2⟩ := lvF.fz rfl (encs_row ys) (okAll_encs _)
      have hfr : fzr (m'.set (m.next + 3) [v]) v = fz1 (m'.set (m.next + 3) [v]) v := by
        rcases hacc with ⟨_, e⟩ | ⟨_, _, _, e, _⟩ <;> rw [e] <;> rfl
      rw [hfr, q1]
      have kcT : KpC (fun i => i = B) m m4 := (((kc2.mono fun j h => .inl h).trans (kc3.mono fun j h => .inl h)).trans ((kc_set (m.next + 3) [v] m').mono fun j h => .inr (by omega)) |>.trans (q2.mono fun j h => .inr (by have := (acc_lt hacc j h).1; omega)) : KpC (fun i => i = B ∨ m.next ≤ i) m m4).cut
      exact ⟨ys, bad1, rfl, hylen, hyfit, hysym, kcT, ⟨left1, ((hB3.kc (kc_set (m.next + 3) [v] m') (by omega)).kc q2 fun h => by have := (acc_lt hacc _ h).1; omega)⟩, hbad1⟩
    refine go_count 57 n (fun i s' m' => KpC (fun i => i = B) M2 m' ∧ ∃ (ys : List Dat) (bad1 left1 : Int), Acc M2 m' 6 true (encs ys) (s'.at 11) ∧ ys.length = i ∧ fitss ys ∧ (bad1 = 0 → ∀ z ∈ ys, AllSym R z) ∧ has m' B (bld mark left1 bad1) ∧ (bad1 = 0 → bad = 0)) (by simp) (by omega) ⟨.refl _ _, [], bad, left, .inl ⟨by simp [encs], by simp⟩, rfl, trivial, fun _ _ h => by simp at h, ⟨by omega, Bv, by rw [hgM]; exact Be⟩, id⟩ ?_
    rintro i s m3 hi e57 ⟨kc3, ys, bad1, left1, hacc, hylen, hyfit, hysym, hB3, hbad1⟩ hsame hw Q' hn he
    have e3 : s.at 3 = .ptr m.next 0 := (hsame 3 (by kernel_rfl)).trans (by simp)
    have e4 : s.at 4 = .ptr (m.next + 1) 0 := (hsame 4 (by kernel_rfl)).trans (by simp)
    have e5 : s.at 5 = .ptr (m.next + 2) 0 := (hsame 5 (by kernel_rfl)).trans (by simp)
    have e6 : s.at 6 = .ptr (m.next + 3) 0 := (hsame 6 (by kernel_rfl)).trans (by simp)
    have e8 : s.at 8 = .ptr (m.next + 6) 0 := (hsame 8 (by kernel_rfl)).trans (by simp)
    have e56 : s.at 56 = int n := (hsame 56 (by kernel_rfl)).trans (by simp)
    clear hsame
    have gg3 : ∀ id, id < M2.next → id ≠ B → m3.get id = m2.get id := fun id h1 h2 => (kc3.get id h1 h2).trans (hgM id)
    have x1 := gg3 m.next (by omega) (by omega)
    have x2 := gg3 (m.next + 2) (by omega) (by omega)
    have x3 := gg3 (m.next + 3) (by omega) (by omega)
    have x4 := gg3 (m.next + 6) (by omega) (by omega)
    have x5 := kc3.get (m.next + 1) (by omega) (by omega)
    have x6 := (kc3.x (m.next + 5) (by omega) (by omega)).2
    rw [b3e] at x1
    rw [ge] at x2
    rw [re] at x3
    rw [me] at x4
    rw [de] at x5
    simp [e57, e56]
    refine goB_split (fun h => ?_) fun h => ?_
    · have hlt : i < n := by simpa using h
      simp [e57, e5, x2]
      obtain ⟨v', M4, e53, k4, hv'⟩ := t53 got hl m3
      refine goH_eh e53 ?_
      have hlen := fun m' R => hv'.lv.len (T := 26) (m' := m') (R := R) Tryz.underlying26
      simp [hlen]
      have n4 := k4.next
      have hB4 := hB3.kp k4
      have in4 : ∀ id, id < M2.next → id ≠ B → M4.get id = m3.get id := fun id h1 h2 => k4.get id (Nat.lt_of_lt_of_le h1 kc3.next)
      have hv'lt := hv'.lv.lt
      refine go_count 64 got.length (fun _ s' m' => KpC (owns v') M4 m' ∧ ∃ es : List Got, es.length = got.length ∧ gfits es ∧ okGs R es ∧ Ow m3 m' 14 true (encGs es) v') (by simp) (by omega) ⟨.refl _ _, got, rfl, hgot, hok, hv'⟩ ?_
      rintro k s5 m5 hk e64 ⟨kc5, es, hel, hef, heo, hev⟩ hsame hw5 Q5 hn5 he5
      have f5 : s5.at 5 = .ptr (m.next + 2) 0 := (hsame 5 (by kernel_rfl)).trans (by simp [e5])
      have f8 : s5.at 8 = .ptr (m.next + 6) 0 := (hsame 8 (by kernel_rfl)).trans (by simp [e8])
      have f12 : s5.at 12 = int i := (hsame 12 (by kernel_rfl)).trans (by simp)
      have f13 : s5.at 13 = v' := (hsame 13 (by kernel_rfl)).trans (by simp)
      have f63 : s5.at 63 = int got.length := (hsame 63 (by kernel_rfl)).trans (by simp)
      have f3 : s5.at 3 = .ptr m.next 0 := (hsame 3 (by kernel_rfl)).trans (by simp [e3])
      have f4 : s5.at 4 = .ptr (m.next + 1) 0 := (hsame 4 (by kernel_rfl)).trans (by simp [e4])
      have f6 : s5.at 6 = .ptr (m.next + 3) 0 := (hsame 6 (by kernel_rfl)).trans (by simp [e6])
      have f56 : s5.at 56 = int n := (hsame 56 (by kernel_rfl)).trans (by simp [e56])
      have f57 : s5.at 57 = int i := (hsame 57 (by kernel_rfl)).trans (by simp [e57])
      have f11 : s5.at 11 = s.at 11 := (hsame 11 (by kernel_rfl)).trans (by simp)
      clear hsame
      have nown : ∀ id, id < M2.next → ¬ owns v' id := fun id h1 h2 => by have := (hv'lt id h2).1; have := kc3.next; omega
      have in5 : ∀ id, id < M2.next → id ≠ B → m5.get id = m3.get id := fun id h1 h2 => (kc5.get id (by have := kc3.next; omega) (nown id h1)).trans (in4 id h1 h2)
      have y1 := (in5 m.next (by omega) (by omega)).trans x1
      have y2 := (in5 (m.next + 2) (by omega) (by omega)).trans x2
      have y4 := (in5 (m.next + 6) (by omega) (by omega)).trans x4
      have y5 := (in5 (m.next + 1) (by omega) (by omega)).trans x5
      have hmid : m5.map (m.next + 5) = M2.map (m.next + 5) := ((kc5.x (m.next + 5) (by have := kc3.next; omega) (nown _ (by omega))).2.trans (k4.x (m.next + 5) (by have := kc3.next; omega)).2).trans x6
      have hlook := SetOk.look (P := Tryz.prog) tmap99 Tryz.underlying3 tzero4 (hset2.keep hmid) (k : Int)
      simp [e64, f63]
      refine goB_split (fun h => ?_) fun h => ?_
      · have hklt : k < got.length := by simpa using h
        simp [e64, f8, y4, hlook]
        refine goB_split (fun h => ?_) fun h => ?_
        · have hkin : (k : Int) ∈ st.2 := (hkl _).1 (of_decide_eq_true h)
          obtain ⟨j, g, ej, hg, hgl⟩ := hks _ hkin
          obtain rfl : k = j := by omega
          obtain ⟨y, hy⟩ : ∃ y, g.subs[i]? = some y := ⟨_, List.getElem?_eq_getElem (by omega)⟩
          have hgm := List.mem_of_getElem? hg
          have hym := List.mem_of_getElem? hy
          have hg' : (encGs got)[k]? = some (encG g) := by rw [encGs_get, hg]; rfl
          have hy' : (encGs g.subs)[i]? = some (encG y) := by rw [encGs_get, hy]; rfl
          rcases hev with (⟨e1, _⟩ | ⟨_, id, w, ev, i1, i2, i3⟩) | ⟨e1, _⟩
          · exfalso; have := congrArg List.length e1; rw [encGs_length] at this; have t0 : es.length = 0 := this; omega
          · simp at ev
            have hix := aindexAddr_sl (P := Tryz.prog) (q := .i64) (ag := true) (c := none) (id := id) (off := 0) (len := es.length) (i := k) Tryz.underlying26 tsize44 (by omega)
            simp at hix
            simp [f13, ev, e64, f5, y2, f12, aindexAddr_lst Tryz.underlying26 tsize44 hg' (encG_cells_length g), encG_cells, aindexAddr_lst Tryz.underlying26 tsize44 hy' (encG_cells_length y), hix, i3]
            have hfl : (flat (encGs es)).length = es.length * 14 := by rw [flat_length (okAll_encGs _)]; simp
            have hle : k * 14 + 14 ≤ (flat (encGs es)).length := by rw [hfl]; omega
            simp [hle, e64, hw5]
            have hput : encGs (es.set k y) = (encGs es).set k (encG y) := by simp [encGs_map, List.map_set]
            have hflat : flat (encGs (es.set k y)) = List.take (k * 14) (flat (encGs es)) ++ (gcs y.id y.deep y.dat (.lst (encGs y.subs)) ++ List.drop (k * 14 + 14) (flat (encGs es))) := by
              rw [hput, flat_put 14 (encGs es) k (encG y) (okAll_encGs _) (by simp; omega) (by simp), encG_cells]
            have hyf := gfits_mem (Got.fits_i (gfits_mem hgot hgm)).2.2.2.2 hym
            have hyo := okGs_mem (okG_i (okGs_mem hok hgm)).2.2.2 hym
            refine hn5 _ _ hklt (by simp) ⟨kc5.trans ((kc_set id _ _).mono fun j hj => by rw [ev, hj]; rfl), es.set k y, by simpa using hel, gfits_of fun q hq => ?_, okGs_of fun q hq => ?_, .inl (.inr ⟨?_, id, m5.clock + 1, by simp [ev], i1, by simp; exact i2, ?_⟩)⟩
            · rcases List.mem_or_eq_of_mem_set hq with hq | rfl
              · exact gfits_mem hef hq
              · exact hyf
            · rcases List.mem_or_eq_of_mem_set hq with hq | rfl
              · exact okGs_mem heo hq
              · exact hyo
            · intro e
              have := congrArg List.length e
              rw [encGs_length] at this
              have t0 : (es.set k y).length = 0 := this
              simp at t0
              rw [t0] at hel
              simp at hel
              omega
            · rw [hflat]; simp
          · exfalso; have := congrArg List.length e1; rw [encGs_length] at this; have t0 : es.length = 0 := this; omega
        · simp [e64, hw5]
          exact hn5 _ _ hklt (by simp) ⟨kc5, es, hel, hef, heo, hev⟩
      · simp
        refine he5 _ _ _ (by simp) ?_
        simp [f3, y1, f4, y5, f13]
        obtain ⟨m6, z1, z2⟩ := hev.lv.fz rfl (fun q hq => by rw [encGs_map] at hq; obtain ⟨q', _, rfl⟩ := List.mem_map.1 hq; simp) (okAll_encGs es)
        have hfv : fzv m5 v' = fz1 m5 v' := by
          rcases hev with (⟨_, e⟩ | ⟨_, _, _, e, _⟩) | ⟨_, e⟩ <;> rw [e] <;> rfl
        have hz0 : fzvs m5 [.ptr B 0, enc d, v'] = ([.ptr B 0, enc d, .lst (encGs es)], m6) := by simp [fzvs, hfv, z1]
        have hB5 : has m5 B (bld mark left1 bad1) := hB4.kc kc5 (nown B (by omega))
        have hB6 : has m6 B (bld mark left1 bad1) := hB5.kc z2 (nown B (by omega))
        refine goH_of (wph_fz Tryz.func19 rfl rfl rfl hz0 (by simp [fzvs]) (h19 es left1 bad1 m6 hef heo (by omega) hB6)) ?_
        rintro v m7 ⟨r, bad2, rfl, hrf, hrs, _, kc7, ⟨left2, hB7⟩, hbad2⟩
        have hd11 : ∀ j, owns (s.at 11) j → ¬ owns v' j := fun j h1 h2 => by have := (acc_lt hacc j h1).2; have := (hv'lt j h2).1; omega
        have hd11B : ∀ j, owns (s.at 11) j → ¬ j = B := fun j h1 h2 => by have := (acc_lt hacc j h1).1; omega
        have hacc7 : Acc M2 m7 6 true (encs ys) (s.at 11) := acc_keptC (acc_keptC (acc_keptC (hacc.kp k4) kc5 hd11) z2 hd11) kc7 hd11B
        have kcM7 : KpC (fun i => i = B ∨ M2.next ≤ i) M2 m7 := (((kc3.mono fun j h => .inl h).trans (.of (.of k4))).trans (kc5.mono fun j h => .inr (by have := (hv'lt j h).1; have := kc3.next; omega)) |>.trans (z2.mono fun j h => .inr (by have := (hv'lt j h).1; have := kc3.next; omega))).trans (kc7.mono fun j h => .inl h)
        have in7 : ∀ id, id < M2.next → id ≠ B → m7.get id = m3.get id := fun id h1 h2 => (kcM7.get id h1 (by omega)).trans (kc3.get id h1 h2).symm
        have w1 := (in7 m.next (by omega) (by omega)).trans x1
        have hn7 := kcM7.next
        have hsrc := src_one (m := m7.new (enc r).cells false) (id := m7.next) (c := some 1) (k := 6) (ag := true) (x := enc r) (w := m7.clock + 1) (f := false) rfl (by simp) (by simp) (by simp)
        obtain ⟨v2, m8, p1, p2, p3, p4⟩ := acc_any (m := m7.new (enc r).cells false) (zs := [enc r]) (hacc7.kp (.new _ _ _)) (by simp; omega) (okAll_encs _) el23 (by simp [okAll_cons, okAll_nil]) (by simp [fzx, fzvs]) (by simp; omega)
        have kcM8 : KpC (fun i => i = B ∨ M2.next ≤ i) M2 m8 := (kcM7.trans (.of (.of (.new m7 (enc r).cells false)))).trans (p3.mono fun j h => .inr (by have := (acc_lt hacc j h).1; omega))
        obtain ⟨Bl8, Bv8, Be8⟩ := (hB7.kp (.new m7 (enc r).cells false)).kc p3 (fun h => by have := (acc_lt hacc _ h).1; omega)
        have w8 : m8.get m.next = some (.cells [.ptr B 0] false b3v) := (kcM8.get m.next (by omega) (by omega)).trans ((hgM _).trans b3e)
        have kc8 : KpC (fun i => i = B) M2 m8 := ⟨kcM8.next, fun id h1 h2 => kcM8.get id h1 (by omega), fun id h1 h2 => kcM8.x id h1 (by omega)⟩
        have hys : encs (ys ++ [r]) = encs ys ++ [enc r] := by simp [encs_map]
        have hA : ∀ (s8 : Sl), s8.at 11 = v2 → (KpC (fun i => i = B) M2 m8 ∧ ∃ (ys : List Dat) (bad1 left1 : Int), Acc M2 m8 6 true (encs ys) (s8.at 11) ∧ ys.length = i + 1 ∧ fitss ys ∧ (bad1 = 0 → ∀ z ∈ ys, AllSym R z) ∧ has m8 B (bld mark left1 bad1) ∧ (bad1 = 0 → bad = 0)) := by
          intro s8 h8
          refine ⟨kc8, ys ++ [r], bad2, left2, by rw [h8, hys]; exact p2, by simp [hylen], fitss_all fun q hq => ?_, fun hb q hq => ?_, ⟨Bl8, Bv8, Be8⟩, fun hb => hbad1 (hbad2 hb)⟩
          · rcases List.mem_append.1 hq with hq | hq
            · exact fits_mem hyfit hq
            · simp at hq; rw [hq]; exact hrf
          · rcases List.mem_append.1 hq with hq | hq
            · exact hysym (hbad2 hb) q hq
            · simp at hq; rw [hq]; exact hrs hb
        simp [abuildSlice, zeros, fillAt, abuiltin, hsrc, p1, f3, f11, w8, Be8]
        by_cases hb2 : bad2 = 0
        · simp [hb2, f57, hw]
          exact hn _ _ hlt (by simp) (hA _ (by simp))
        · simp [hb2]
          refine he _ _ _ (by simp) ?_
          have w6 : m8.get (m.next + 3) = some (.cells [.emp 0] false rv) := (kcM8.get (m.next + 3) (by omega) (by omega)).trans ((hgM _).trans re)
          simp [f6, w6, p2.okc]
          refine hQ _ _ _ ?_
          simp [f6]
          obtain ⟨_, ys2, bad3, left3, a1, a2, a3, a4, a5, a6⟩ := hA (Sl.set .nil 11 v2) (by simp)
          simp at a1
          exact fin _ _ ys2 bad3 left3 kc8 a1 (by omega) a3 a4 a5 a6
    · have hge : i = n := by have := of_decide_eq_false h; omega
      subst hge
      simp
      refine he _ _ _ (by simp) ?_
      simp [e6, x3, hacc.okc]
      refine hQ _ _ _ ?_
      simp [e6]
      exact fin _ _ ys bad1 left1 kc3 hacc (by omega) hyfit hysym hB3 hbad1
end Go.Proofs.YtjiijacibpgciaaGreat
