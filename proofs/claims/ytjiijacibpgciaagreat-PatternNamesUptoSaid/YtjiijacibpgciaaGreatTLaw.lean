import Derived.Test.YtjiijacibpgciaaGreatTPlain
/- PatternNames: the law's own text. -/
set_option linter.unusedSimpArgs false
set_option linter.unusedVariables false
set_option linter.unusedSectionVars false
namespace Go.Proofs.YtjiijacibpgciaaGreat
set_option maxRecDepth 4000
open Go.V
attribute [local simp] Nat.add_assoc

theorem t4 (m : Mem) : EH Tryz.prog cw (.func 4) [] m (.sc (.bool true)) m := eh_hook (h := rowH rows4) rfl rfl
theorem fz_one {d : Dat} {m : Mem} {id v : Nat} (h : m.get id = some (.cells (enc d).cells false v)) : fzvs m [.sl id 0 1 6 true (some 1)] = ([.lst (encs [d])], m.mark id (flat (encs [d])) v) := by
  have hz := fz1_row (m := m) (id := id) (k := 6) (ag := true) (cap := some 1) (ys := encs [d]) (v := v) (f := false) rfl (by simpa [encs, flat_cons, flat_nil] using h) (encs_row _) (okAll_encs _)
  simp [encs] at hz
  simp [fzvs, fzv, encs, hz]
/-- A list appended to nil. -/
theorem app_l0 (M : List Int) (hM : M.length < 2 ^ 21) (m : Mem) : ∃ q : AV × Mem, abuiltin Tryz.prog .append #[22, 22] 22 [.emp 0, .lst (M.map int)] m = some q ∧ Acc m q.2 1 false (M.map int) q.1 ∧ Kp m q.2 := by
  cases M with
  | nil => exact ⟨(.emp 0, m), by
      have := aapp_none (m := m) (s := .emp 0) el22 (.inl ⟨_, rfl⟩)
      rw [List.map_nil, abuiltin_app Tryz.underlying22]
      exact this, .inl ⟨rfl, rfl⟩, .refl _⟩
  | cons x M =>
    have e := aapp_emp (m := m) (n := 0) (m' := m) (ys := int x :: M.map int) (ys' := int x :: M.map int) (by omega) el22 (by simp) (by simp [okAll_cons]) (by simp [fzvs]) (by simp at hM ⊢; omega)
    exact ⟨_, by
      rw [List.map_cons, abuiltin_app Tryz.underlying22]
      exact e, .inr ⟨by simp, m.next, m.clock + 1, by simp, by omega, by simp, by simp⟩, by simp⟩

/-- An append to a slice of one's own, of what is a list from then on. -/
theorem acc_appX {X : Nat → Prop} {m0 m m2 : Mem} {T : TypeId} {k : Nat} {ag : Bool} {ys zs zs' : List AV} {v : AV} (h : Acc m0 m k ag ys v) (h0 : m0.next ≤ m.next) (hy : okAll k ys = true) (el : ElemOf Tryz.prog T k ag) (hz : zs ≠ []) (ho : okAll k zs = true) (hf : fzx Tryz.prog T m zs = (zs', m2)) (kc : KpC X m m2) (hx : ∀ j, owns v j → ¬ X j) (hb : ys.length + zs.length ≤ 2 ^ 26) :
    ∃ v' m3, aappend Tryz.prog T v none (some zs) m = some (v', m3) ∧ Acc m0 m3 k ag (ys ++ zs') v' ∧ KpC (fun j => owns v j ∨ X j) m m3 := by
  have hlen : zs'.length = zs.length := by rw [← fzx_length Tryz.prog T zs m, hf]
  have hz' : zs' ≠ [] := fun e => hz (List.eq_nil_of_length_eq_zero (by rw [← hlen, e]; rfl))
  have n2 := kc.next
  rcases h with ⟨rfl, rfl⟩ | ⟨h, id, w, rfl, h2, h3, h4⟩
  · have e := aapp_emp (n := 0) (by omega) el hz ho hf (by simp at hb; omega)
    refine ⟨_, _, e, .inr ⟨by simpa using hz', m2.next, m2.clock + 1, by simp [hlen], by omega, by simp, by simp⟩, (kc.mono fun j h => .inr h).trans (.of (.of (.new _ _ _)))⟩
  · have h5 : m2.get id = some (.cells (flat ys) false w) := by rw [kc.get id h3 (hx id rfl)]; exact h4
    refine ⟨_, _, aapp_row el hz ho hf h5 (flat_length hy) hb, .inr ⟨by simp [h], m2.next, m2.clock + 1, by simp [hlen], by omega, by simp, by simp [flat_append]⟩, (kc.mono fun j h => .inr h).trans ⟨by simp, fun j hj hn => ?_, fun j hj hn => by simp⟩⟩
    have a1 : j ≠ m2.next := by omega
    have a2 : j ≠ id := fun e => hn (.inl e.symm)
    simp [a1, a2, Ne.symm a2]
theorem flat_at {k : Nat} : ∀ {ys : List AV} {j : Nat} {y : AV}, okAll k ys = true → ys[j]? = some y → j * k + k ≤ (flat ys).length ∧ ((flat ys).drop (j * k)).take k = y.cells
  | [], j, y, _, h => by simp at h
  | a :: ys, 0, y, ho, h => by
    rw [okAll_cons] at ho
    simp at ho h
    subst h
    rw [flat_cons]
    refine ⟨by simp; omega, ?_⟩
    simp only [Nat.zero_mul, List.drop_zero]
    rw [List.take_append_of_le_length (by omega), List.take_of_length_le (by omega)]
  | a :: ys, j + 1, y, ho, h => by
    rw [okAll_cons] at ho
    simp at ho h
    obtain ⟨h1, h2⟩ := flat_at ho.2 h
    rw [flat_cons]
    have e : (j + 1) * k = a.cells.length + j * k := by rw [ho.1.2, Nat.succ_mul]; omega
    rw [e]
    refine ⟨by rw [List.length_append]; omega, ?_⟩
    rw [List.drop_append, List.drop_eq_nil_of_le (by omega), List.nil_append, show a.cells.length + j * k - a.cells.length = j * k by omega, h2]
theorem lfs_fits : ∀ (n : Nat) (l : List Got), gsizes l < n → gfits l → ∀ y ∈ lfs l, y.fits
  | 0, _, h, _, _, _ => by omega
  | n + 1, l, h, hf, y, hy => by
    induction l with
    | nil => simp [lfs] at hy
    | cons g l ih =>
      rw [gsizes] at h
      rw [lfs, List.mem_append, lf_eq, List.mem_append] at hy
      have hgf := Got.fits_i (gfits_mem hf (by simp : g ∈ g :: l))
      rcases hy with (hy | hy) | hy
      · split at hy
        · exact fits_mem (nodes_fits hgf.2.1) (List.mem_filter.1 hy).1
        · simp at hy
      · exact lfs_fits n g.subs (by cases g; simp only [Got.size, Got.subs] at h ⊢; omega) hgf.2.2.2.2 y hy
      · exact ih (by omega) (gfits_of fun x hx => gfits_mem hf (by simp [hx])) hy
theorem mkd_fits {x : Dat} {mark : Int} (hg : good x = true) (hf : x.fits) : (mkd mark x).fits := by
  by_cases h : x.k = 5 ∧ mark ≠ 0
  · obtain ⟨S, M, rfl⟩ := sym_mk h.1 hg
    obtain ⟨ha, _⟩ := good_mk hg
    simp [alone] at ha
    rw [mkd, if_pos ⟨rfl, h.2⟩, Dat.fits]
    have ft := alone_fits hf
    exact ⟨⟨by omega, ft.s, by simp; omega, by simp, by simp⟩, trivial, trivial⟩
  · have : mkd mark x = x := by cases x; simp only [Dat.k] at h; rw [mkd, if_neg h]
    rw [this]; exact hf
set_option maxHeartbeats 8000000 in
theorem t3 (tmpl : Dat) (ht : tmpl.fits) (got : List Got) (hgot : gfits got) (hl : got.length < 2 ^ 21) (mark : Int) (m : Mem) : EH Tryz.prog cw (.func 3) [enc tmpl, .lst (encGs got), int mark] m (.sc (.bool true)) m := by
  refine eh_run Tryz.func3 rfl rfl rfl rfl (args1 := [enc tmpl, .lst (encGs got), int mark]) (m1 := m) (by simp [fzvs]) (by simp) (by simp [Tryz.f3]) (by simp [Tryz.f3]) ?_
  simp [Tryz.f3, show cw.keepRes 3 = false from rfl, (t4 _).go, abuildSlice, zeros, fillAt]
  obtain ⟨_, ⟨b, rfl⟩, e5⟩ := t5 [tmpl] (by simp) (by simp [fitss, ht]) (((m.new (enc tmpl).cells false).new (enc tmpl).cells false).mark (m.next + 1) (flat (encs [tmpl])) (m.clock + 2))
  refine goH_eh (eh_fz Tryz.func5 rfl rfl rfl (fz_one (d := tmpl) (v := m.clock + 2) (by simp)) (by simp [fzvs]) e5) ?_
  cases b with
  | false =>
    simp [(t4 _).go, undefV, undef]
  | true =>
  simp
  obtain ⟨_, ⟨b2, rfl, hb2⟩, e6⟩ := t6 (gsizes got) got (Nat.le_refl _) hl hgot 5 (((m.new (enc tmpl).cells false).new (enc tmpl).cells false).mark (m.next + 1) (flat (encs [tmpl])) (m.clock + 2))
  refine goH_eh e6 ?_
  cases b2 with
  | false =>
    simp [(t4 _).go, undefV, undef]
  | true =>
  obtain ⟨h30, hsh⟩ := hb2 rfl
  simp
  obtain ⟨M1, hM1⟩ : ∃ M1, M1 = (((m.new (enc tmpl).cells false).new (enc tmpl).cells false).mark (m.next + 1) (flat (encs [tmpl])) (m.clock + 2)) := ⟨_, rfl⟩
  have k1 : Kp m M1 := by rw [hM1]; simp
  rw [← hM1]
  have hok : mayPs got → okGs (RR (mayL got tmpl mark)) got := fun h => okGs_may got h hsh fun y hy => by simp [mayL, hy]
  have hTm : 0 ≤ mark → chk tmpl = 0 → Tmp (RR (mayL got tmpl mark)) mark tmpl := fun h1 h2 => tmp_may h1 h2 fun y hy => List.mem_append.2 (.inr hy)
  obtain ⟨_, ⟨d, e, rfl, hdf, hde⟩, e7⟩ := t7 (RR (mayL got tmpl mark)) tmpl ht got hgot hl mark hok hTm M1
  refine goH_eh e7 ?_
  have g0 : M1.get m.next = some (.cells (enc tmpl).cells false (m.clock + 1)) := by rw [hM1]; simp
  have n1 : M1.next = m.next + 2 := by rw [hM1]; simp
  by_cases he0 : e = 0
  rotate_left
  · simp [he0]
    exact k1.trans (by simp)
  subst he0
  obtain ⟨hmk, hcd, hsy, hmay, hgs⟩ := hde rfl
  have zl : 6 ≤ zeroCells.length := by decide
  have zd : List.drop 6 zeroCells = [] := rfl
  simp [zl, zd]
  obtain ⟨M2, hM2⟩ : ∃ M2, M2 = (M1.new zeroCells false).set M1.next (enc d).cells := ⟨_, rfl⟩
  have k2 : Kp M1 M2 := by rw [hM2]; simp
  have n2 : M2.next = m.next + 3 := by rw [hM2]; simp [n1]
  have g7 : M2.get (m.next + 2) = some (.cells (enc d).cells false (M1.clock + 2)) := by rw [hM2, ← n1]; simp
  have g3 := (k2.get m.next (by omega)).trans g0
  have hgl := lfs_len got
  rw [← hM2]
  refine goH_of (t8 (gsizes got + 1) got (by omega) hl hgot [] (.emp 0) M2 M2 (by simp; omega) (.inl ⟨by simp [encs], rfl⟩) (Nat.le_refl _)) ?_
  rintro w0 M3 ⟨hac0, kc3, _⟩
  have k3 : Kp M2 M3 := kpc_kp kc3 (.refl _) (fun j h => h.elim)
  have ok0 := hac0.okc
  rw [List.nil_append] at hac0
  have g33 := (k3.get m.next (by omega)).trans g3
  have hnt := nodes_len tmpl
  simp [g33, (cw_gives (g28 tmpl ht)).go]
  refine go_count 45 (nodes tmpl).length (fun j s2 m2 => ∃ w, s2.at 9 = w ∧ Acc M2 m2 6 true (encs (lfs got ++ ((nodes tmpl).take j).map (mkd mark))) w ∧ Kp M2 m2) (by simp) (by omega) ⟨w0, by simp, by simpa using hac0, k3⟩ ?_
  rintro j s2 m2 hj e45 ⟨w, f9, hac, kp2⟩ hsame hwj Q2 hn2 he2
  have f2 : s2.at 2 = int mark := (hsame 2 (by kernel_rfl)).trans (by simp)
  have f7 : s2.at 7 = .ptr (m.next + 2) 0 := (hsame 7 (by kernel_rfl)).trans (by simp [n1])
  have f43 : s2.at 43 = .lst (encs (nodes tmpl)) := (hsame 43 (by kernel_rfl)).trans (by simp)
  have f44 : s2.at 44 = int (nodes tmpl).length := (hsame 44 (by kernel_rfl)).trans (by simp)
  clear hsame
  simp [e45, f44]
  refine goB_split (fun h => ?_) fun h => ?_
  · have hlt : j < (nodes tmpl).length := by simpa using h
    obtain ⟨x, hx⟩ : ∃ x, (nodes tmpl)[j]? = some x := ⟨_, List.getElem?_eq_getElem hlt⟩
    have hx' : (encs (nodes tmpl))[j]? = some (enc x) := by rw [encs_get, hx]; rfl
    have hix := aindexAddr_lst (P := Tryz.prog) (q := .i64) Tryz.underlying23 tsize25 hx' (enc_cells_length x)
    have htk : ((nodes tmpl).take (j + 1)).map (mkd mark) = ((nodes tmpl).take j).map (mkd mark) ++ [mkd mark x] := by
      obtain ⟨h1, h2⟩ := List.getElem?_eq_some_iff.1 hx
      rw [List.take_succ_eq_append_getElem h1, h2, List.map_append]
      rfl
    have hxf := fits_mem (nodes_fits ht) (List.mem_of_getElem? hx)
    simp [e45, f43, hix, zl, zd]
    obtain ⟨X, hX⟩ : ∃ X, X = (m2.new zeroCells false).set m2.next (enc x).cells := ⟨_, rfl⟩
    have kX : Kp m2 X := by rw [hX]; simp
    have gX : X.get m2.next = some (.cells (enc x).cells false (m2.clock + 2)) := by rw [hX]; simp
    have c0 : ∀ h : 0 < (enc x).cells.length, (enc x).cells[0]'h = int x.k := by cases x; intro h; simp [enc, Dat.k, AV.cells]
    rw [← hX]
    have hcl : (lfs got ++ ((nodes tmpl).take j).map (mkd mark)).length ≤ 2 ^ 25 := by
      rw [List.length_append, List.length_map, List.length_take]
      omega
    have nX := kX.next
    have n2' := kp2.next
    by_cases hun : x.k = 5 ∧ mark ≠ 0
    · obtain ⟨K, N, S, M, L, T⟩ := x
      obtain ⟨rfl, hm0⟩ := hun
      have hM : M.length < 2 ^ 21 := (alone_fits hxf).m
      obtain ⟨⟨v1, q⟩, hq1, hq2, hq3⟩ := app_l0 M hM X
      dsimp only at hq1 hq2 hq3
      rw [abuiltin_app Tryz.underlying22] at hq1
      have nq := hq3.next
      have gq := (hq3.get m2.next (by rw [hX]; simp)).trans gX
      simp only [enc] at gX gq c0
      have hsr1 := src_one (m := q.new [int mark] false) (id := q.next) (c := some 1) (k := 1) (ag := false) (x := int mark) (w := q.clock + 1) (f := false) rfl (by simp) (by simp) (by simp)
      obtain ⟨v2, m4, r1, r2, r3⟩ := acc_appX (T := 22) (m := q.new [int mark] false) (X := fun _ => False) (zs := [int mark]) (zs' := [int mark]) (m2 := q.new [int mark] false) (hq2.kp (.new _ _ _)) (by simp; omega) (okAll_ints _) el22 (by simp) (by simp [okAll_cons, okAll_nil]) (by simp [fzx, fzvs]) (.refl _ _) (fun _ _ h => h) (by simp; omega)
      simp [enc, f2, hm0, gX]
      refine go_draw_of (by kernel_rfl) ?_
      have n0 : m2.next < X.next := by rw [hX]; simp
      have g4 := (r3.get m2.next (by simp; omega) (fun h => h.elim (fun h => by have := (acc_lt hq2 _ h).1; omega) id)).trans (by simp [show m2.next ≠ q.next by omega]; exact gq)
      have ov := r2.okc
      have nq2 : m2.next ≠ q.next := by omega
      have n4 := r3.next
      simp at n4
      let D5 : List AV := [int 5, int 0, .sc (.string ⟨⟨S⟩⟩), v2, .emp 0, .emp 0]
      obtain ⟨m5, hm5⟩ : ∃ m5, m5 = m4.set m2.next D5 := ⟨_, rfl⟩
      have g5 : m5.get m2.next = some (.cells D5 false (m4.clock + 1)) := by rw [hm5]; simp
      have n5 : m5.next = m4.next := by rw [hm5]; simp
      have kq : KpC (fun i => m2.next ≤ i) m2 m4 := ((KpC.of (.of kX)).trans ((KpC.of (.of hq3)).trans (.of (.of (.new _ _ _))))).trans (r3.mono fun j h => h.elim (fun h => by have := (acc_lt hq2 _ h).1; omega) False.elim)
      have k5 : Kp m2 m5 := by
        rw [hm5]
        exact kpc_kp (kq.trans ((kc_set m2.next D5 m4).mono fun j h => by omega)) (.refl _) fun j h => h
      have r25 : Acc X m5 1 false (M.map int ++ [int mark]) v2 := by
        rw [hm5]
        exact acc_keptC r2 (kc_set m2.next D5 m4) fun j h e => by have := (acc_lt r2 j h).1; omega
      have hM1 : M.map int ++ [int mark] = (M ++ [mark]).map int := by simp
      rw [hM1] at r25
      have lv2 := fun j h => acc_lt r25 j h
      have hmkd : mkd mark (.mk 5 N S M L T) = .mk 5 0 S (M ++ [mark]) [] [] := by rw [mkd, if_pos ⟨rfl, hm0⟩]
      obtain ⟨m6, z1, z2⟩ := (Ow.lv (.inl r25)).fz rfl (ints_row (M ++ [mark])) (okAll_ints _)
      have n6 := z2.next
      let E : Dat := .mk 5 0 S (M ++ [mark]) [] []
      have hac6 : Acc M2 m6 6 true (encs (lfs got ++ ((nodes tmpl).take j).map (mkd mark))) w := acc_keptC (hac.kp k5) z2 fun j h1 h2 => by
        have := (acc_lt hac j h1).2
        have := (lv2 j h2).1
        omega
      have hsrc := src_one (m := m6.new (enc E).cells false) (id := m6.next) (c := some 1) (k := 6) (ag := true) (x := enc E) (w := m6.clock + 1) (f := false) rfl (by simp) (by simp) (by simp)
      obtain ⟨v3, m3, p1, p2, p3, p4⟩ := acc_any (T := 23) (m := m6.new (enc E).cells false) (zs := [enc E]) (hac6.kp (.new _ _ _)) (by simp; omega) (okAll_encs _) el23 (by simp [okAll_cons, okAll_nil]) (by simp [fzx, fzvs]) (by simp only [encs_length, List.length_singleton]; omega)
      simp [enc, f2, hm0, gX, hq1, abuildSlice, zeros, fillAt, abuiltin, hsr1, r1, abuild, placesOf, ov, g4, zeroCells]
      refine goM_of (l := [(1, 4), (1, 6), (3, 6), (1, 7), (6, 6)]) (by kernel_rfl) (?_ : List.all _ _ = true) ?_
      · simp [metAt, metOk, rank, objOf, verKept, Region.wanted, Mem.ver, gX, gq, g4, quietAt, quiet, noSl, f2, nq2]
      simp only [D5] at hm5 g5
      simp only [E, enc, encs] at hsrc p1
      rw [← hm5]
      simp [f9, g5, abuildSlice, zeros, fillAt, abuiltin, ov, z1]
      simp at hsrc p1
      simp [hsrc, p1, e45, hwj]
      refine hn2 _ _ hlt (by simp) ⟨v3, by simp, ?_, ?_⟩
      · have e1 : encs (lfs got ++ (((nodes tmpl).take j).map (mkd mark) ++ [mkd mark (.mk 5 N S M L T)])) = encs (lfs got ++ ((nodes tmpl).take j).map (mkd mark)) ++ [enc (mkd mark (.mk 5 N S M L T))] := by simp [encs_map]
        rw [htk, e1, hmkd]
        exact p2
      · have kp6 : Kp M2 m6 := kpc_kp z2 (kp2.trans k5) fun j h => by have := (lv2 j h).1; omega
        exact kpc_kp p3 (kp6.trans (.new _ _ _)) fun j h => (acc_lt hac j h).1
    · have hmk : mkd mark x = x := by
        cases x
        simp only [Dat.k] at hun
        rw [mkd, if_neg hun]
      rw [hmk] at htk
      have hsrc := src_one (m := X.new (enc x).cells false) (id := X.next) (c := some 1) (k := 6) (ag := true) (x := enc x) (w := X.clock + 1) (f := false) rfl (by simp) (by simp) (by simp)
      obtain ⟨v3, m3, p1, p2, p3, p4⟩ := acc_any (T := 23) (m := X.new (enc x).cells false) (zs := [enc x]) ((hac.kp kX).kp (.new _ _ _)) (by simp; omega) (okAll_encs _) el23 (by simp [okAll_cons, okAll_nil]) (by simp [fzx, fzvs]) (by simp only [encs_length, List.length_singleton]; omega)
      have hcs : ¬ x.k = 5 ∨ (x.k = 5 ∧ mark = 0) := by
        by_cases h5 : x.k = 5
        · exact .inr ⟨h5, Classical.byContradiction fun h => hun ⟨h5, h⟩⟩
        · exact .inl h5
      have fin : ∀ s3, s3.at 45 = int (j + 1 : Nat) → s3.at 9 = v3 → Q2 .normal s3 m3 := fun s3 q1 q2 => by
        refine hn2 _ _ hlt q1 ⟨v3, q2, ?_, ?_⟩
        · have e1 : encs (lfs got ++ (((nodes tmpl).take j).map (mkd mark) ++ [x])) = encs (lfs got ++ ((nodes tmpl).take j).map (mkd mark)) ++ [enc x] := by simp [encs_map]
          rw [htk, e1]
          exact p2
        · exact kpc_kp p3 ((kp2.trans kX).trans (.new _ _ _)) fun j h => (acc_lt hac j h).1
      rcases hcs with h5 | ⟨h5, h6⟩
      · simp [c0, h5, f9, gX, abuildSlice, zeros, fillAt, abuiltin, hsrc, p1, e45, hwj, undefV, undef]
        exact fin _ (by simp) (by simp)
      · simp [c0, h5, h6, f2, f9, gX, abuildSlice, zeros, fillAt, abuiltin, hsrc, p1, e45, hwj, undefV, undef]
        exact fin _ (by simp) (by simp)
  · have hge : j = (nodes tmpl).length := by have := of_decide_eq_false h; omega
    subst hge
    simp
    refine he2 _ _ _ (by simp) ?_
    clear hn2 he2
    rw [List.take_length] at hac
    have g77 := (kp2.get (m.next + 2) (by omega)).trans g7
    simp [f7, g77, (cw_gives (g28 d hdf)).go]
    have hall := built_may hcd hsy
    obtain ⟨may, hmay2⟩ : ∃ may, may = mayL got tmpl mark := ⟨_, rfl⟩
    have hml : may.length ≤ 2 ^ 25 := by
      rw [hmay2, mayL, List.length_append, List.length_map]
      omega
    have hac' : Acc M2 m2 6 true (encs may) w := by rw [hmay2]; exact hac
    rw [← hmay2] at hall
    have hmf : ∀ y ∈ may, y.fits := by
      intro y hy
      rw [hmay2, mayL, List.mem_append] at hy
      rcases hy with hy | hy
      · exact lfs_fits _ got (Nat.lt_succ_self _) hgot y hy
      · obtain ⟨x, hx, rfl⟩ := List.mem_map.1 hy
        by_cases hct : chk tmpl = 0
        · refine mkd_fits (good_pre _ (chk_good hct).1 _ ?_) (fits_mem (nodes_fits ht) hx)
          rw [← nodes_pre hct]; exact hx
        · rw [nodes, if_neg hct] at hx; simp at hx
    clear hac
    have hnd := nodes_len d
    refine go_count 73 (nodes d).length (fun i s3 m3 => Kp m2 m3) (by simp) (by omega) (.refl _) ?_
    rintro i s3 m3 hi e73 kp3 hsame hwi Q3 hn3 he3
    have h9 : s3.at 9 = w := (hsame 9 (by kernel_rfl)).trans (by simp [f9])
    have h71 : s3.at 71 = .lst (encs (nodes d)) := (hsame 71 (by kernel_rfl)).trans (by simp)
    have h72 : s3.at 72 = int (nodes d).length := (hsame 72 (by kernel_rfl)).trans (by simp)
    clear hsame
    simp [e73, h72]
    refine goB_split (fun h => ?_) fun h => ?_
    · have hlt : i < (nodes d).length := by simpa using h
      obtain ⟨x, hx⟩ : ∃ x, (nodes d)[i]? = some x := ⟨_, List.getElem?_eq_getElem hlt⟩
      have hx' : (encs (nodes d))[i]? = some (enc x) := by rw [encs_get, hx]; rfl
      have hix := aindexAddr_lst (P := Tryz.prog) (q := .i64) Tryz.underlying23 tsize25 hx' (enc_cells_length x)
      have hxf := fits_mem (nodes_fits hdf) (List.mem_of_getElem? hx)
      have hac3 := hac'.kp kp3
      have hlen := (Ow.lv (.inl hac3)).len (R := 3) (m' := (m3.new zeroCells false).set m3.next (enc x).cells) Tryz.underlying23
      have c0 : ∀ h : 0 < (enc x).cells.length, (enc x).cells[0]'h = int x.k := by cases x; intro h; simp [enc, Dat.k, AV.cells]
      simp [e73, h71, h9, hix, zl, zd, c0, hlen]
      obtain ⟨X, hX⟩ : ∃ X, X = (m3.new zeroCells false).set m3.next (enc x).cells := ⟨_, rfl⟩
      have kX : Kp m3 X := by rw [hX]; simp
      have gX : X.get m3.next = some (.cells (enc x).cells false (m3.clock + 2)) := by rw [hX]; simp
      rw [← hX]
      have n3 := kX.next
      refine go_count 82 may.length (fun j s4 m4 => Kp X m4 ∧ s4.at 14 = .sc (.bool (!decide (x.k = 5) || (may.take j).any (sam x)))) (by simp) (by omega) ⟨.refl _, by simp⟩ ?_
      rintro j s4 m4 hj e82 ⟨kp4, h14⟩ hsame hwj Q4 hn4 he4
      have i13 : s4.at 13 = .ptr m3.next 0 := (hsame 13 (by kernel_rfl)).trans (by simp)
      have i73 : s4.at 73 = int i := (hsame 73 (by kernel_rfl)).trans (by simp [e73])
      have i80 : s4.at 80 = w := (hsame 80 (by kernel_rfl)).trans (by simp)
      have i81 : s4.at 81 = int may.length := (hsame 81 (by kernel_rfl)).trans (by simp)
      clear hsame
      have g13 := (kp4.get m3.next (by rw [hX]; simp)).trans gX
      have n4 := kp4.next
      have n34 : m3.next < X.next := by rw [hX]; simp
      simp [e82, i81]
      refine goB_split (fun h => ?_) fun h => ?_
      · have hltj : j < may.length := by simpa using h
        obtain ⟨y, hy⟩ : ∃ y, may[j]? = some y := ⟨_, List.getElem?_eq_getElem hltj⟩
        have hyf := hmf y (List.mem_of_getElem? hy)
        have hy' : (encs may)[j]? = some (enc y) := by rw [encs_get, hy]; rfl
        have htk : (may.take (j + 1)).any (sam x) = ((may.take j).any (sam x) || sam x y) := by
          obtain ⟨h1, h2⟩ := List.getElem?_eq_some_iff.1 hy
          rw [List.take_succ_eq_append_getElem h1, h2, List.any_append]
          simp
        rcases (hac3.kp kX).kp kp4 with ⟨h1, _⟩ | ⟨_, id, w2, hv, h2, h3, h4⟩
        · have : may.length = 0 := by have := congrArg List.length h1; simpa using this
          omega
        obtain ⟨q1, q2⟩ := flat_at (okAll_encs may) hy'
        have hix2 := aindexAddr_sl (P := Tryz.prog) (q := .i64) (ag := true) (c := none) (id := id) (off := 0) (len := may.length) (i := j) Tryz.underlying23 tsize25 hltj
        have nid : id ≠ m4.next := by omega
        have n14 : m3.next ≠ m4.next := by omega
        simp at hv
        generalize hb0 : (!decide (x.k = 5) || (may.take j).any (sam x)) = b0 at h14
        have hnx : (!decide (x.k = 5) || (may.take (j + 1)).any (sam x)) = (b0 || sam x y) := by rw [htk, ← hb0, Bool.or_assoc]
        have fin : ∀ s5 m5, s5.at 82 = int (j + 1 : Nat) → s5.at 14 = .sc (.bool (b0 || sam x y)) → Kp m4 m5 → Q4 .normal s5 m5 := fun s5 m5 a1 a2 a3 => hn4 _ _ hltj a1 ⟨kp4.trans a3, by rw [hnx]; exact a2⟩
        cases b0 with
        | true =>
          simp [e82, i80, hv, hix2, h4, q1, q2, nid, n14, i13, g13, h14, zl, zd, hwj, undefV, undef]
          exact fin _ _ (by simp) (by simp) (by simp)
        | false =>
          simp [e82, i80, hv, hix2, h4, q1, q2, nid, n14, i13, g13, h14, zl, zd, (cw_gives (g26 x y hxf hyf)).go, hwj]
          exact fin _ _ (by simp) (by simp) (by simp)
      · simp
        refine he4 _ _ _ (by simp) ?_
        have hge : j = may.length := by have := of_decide_eq_false h; omega
        subst hge
        rw [List.take_length] at h14
        have h14' : s4.at 14 = .sc (.bool true) := by
          rw [h14]
          by_cases h5 : x.k = 5
          · obtain ⟨y, hy, hs⟩ := hall x (List.mem_of_getElem? hx) h5
            have : may.any (sam x) = true := List.any_eq_true.2 ⟨y, hy, hs⟩
            simp [this]
          · simp [h5]
        simp [h14', i73, hwi]
        exact hn3 _ _ hlt (by simp) (kp3.trans (kX.trans kp4))
    · simp
      refine he3 _ _ _ (by simp) ?_
      simp
      exact ((k1.trans k2).trans kp2).trans kp3
end Go.Proofs.YtjiijacibpgciaaGreat
