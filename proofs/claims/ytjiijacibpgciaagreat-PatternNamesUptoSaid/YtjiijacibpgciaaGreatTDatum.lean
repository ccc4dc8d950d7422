import Derived.Test.YtjiijacibpgciaaGreatTRow
/- A template's part is built. -/
set_option linter.unusedSimpArgs false
set_option linter.unusedVariables false
set_option linter.unusedSectionVars false
namespace Go.Proofs.YtjiijacibpgciaaGreat
set_option maxRecDepth 4000
open Go.V
attribute [local simp] Nat.add_assoc

theorem Bk.refl {B : Nat} {mark left bad : Int} {m : Mem} (h : has m B (bld mark left bad)) : Bk B mark bad bad m m := ⟨.refl _ _, ⟨left, h⟩, id⟩
theorem kp_bk {B : Nat} {mark bad bad' : Int} {m m1 m2 : Mem} (h : Bk B mark bad bad' m1 m2) (k : Kp m m1) : Bk B mark bad bad' m m2 := ⟨(KpC.of (.of k)).trans h.1, h.2.1, h.2.2⟩
theorem bk_kp {B : Nat} {mark bad bad' : Int} {m m1 m2 : Mem} (h : Bk B mark bad bad' m m1) (k : Kp m1 m2) : Bk B mark bad bad' m m2 := ⟨h.1.trans (KpC.of (.of k)), h.2.1.imp fun l q => q.kp k, h.2.2⟩
theorem pre_zero {R : Dat → Prop} : AllSym R (.mk 0 0 [] [] [] []) := AllSym.mk (by simp) (by simp) (by simp)
theorem size_ls {d : Dat} (h : d.size ≤ 4096) : d.ls.length ≤ 4096 := by
  obtain ⟨K, N, S, M, L, T⟩ := d
  rw [Dat.size] at h
  have key : ∀ l : List Dat, l.length ≤ sizes l := by
    intro l
    induction l with
    | nil => simp [sizes]
    | cons x l ih =>
      have : 1 ≤ x.size := by cases x; rw [Dat.size]; omega
      rw [sizes, List.length_cons]; omega
  have := key L
  simp only [Dat.ls]
  omega
theorem AllSym.ls {R : Dat → Prop} {K N : Int} {S : List UInt8} {M : List Int} {L T : List Dat} (h : AllSym R (.mk K N S M L T)) : (∀ x ∈ L, AllSym R x) ∧ ∀ x ∈ T, AllSym R x := by
  have key : ∀ (l : List Dat), (∀ y ∈ pres l, y.k = 5 → R y) → ∀ x ∈ l, AllSym R x := by
    intro l
    induction l with
    | nil => intro _ x hx; simp at hx
    | cons y l ih =>
      intro h x hx
      rw [pres] at h
      rcases List.mem_cons.1 hx with rfl | hx
      · exact fun z hz => h z (by simp [hz])
      · exact ih (fun z hz => h z (by simp [hz])) x hx
  refine ⟨key L fun y hy => h y ?_, key T fun y hy => h y ?_⟩ <;> (rw [pre]; simp [hy])
theorem pres_mem : ∀ {l : List Dat} {x y : Dat}, x ∈ l → y ∈ pre x → y ∈ pres l
  | z :: l, x, y, hx, hy => by
    rw [pres, List.mem_append]
    rcases List.mem_cons.1 hx with rfl | hx
    · exact .inl hy
    · exact .inr (pres_mem hx hy)
theorem goods_mem : ∀ {l : List Dat} {x : Dat}, goods l = true → x ∈ l → good x = true
  | z :: l, x, h, hx => by
    rw [goods] at h
    simp at h
    rcases List.mem_cons.1 hx with rfl | hx
    · exact h.1
    · exact goods_mem h.2 hx
theorem tmp_sub {R : Dat → Prop} {mark : Int} {K N : Int} {S : List UInt8} {M : List Int} {L T : List Dat} (h : Tmp R mark (.mk K N S M L T)) {x : Dat} (hx : x ∈ L ∨ x ∈ T) : Tmp R mark x := by
  obtain ⟨h1, h2, h3⟩ := h
  obtain ⟨_, gL, gT⟩ := good_mk h1
  rw [Dat.size] at h2
  rcases hx with hx | hx
  · exact ⟨goods_mem gL hx, by have := size_mem hx; omega, fun y hy => h3 y (by rw [pre]; simp [pres_mem hx hy])⟩
  · exact ⟨goods_mem gT hx, by have := size_mem hx; omega, fun y hy => h3 y (by rw [pre]; simp [pres_mem hx hy])⟩
theorem alone_7 {N : Int} {S : List UInt8} {M : List Int} {L T : List Dat} (h : alone (.mk 7 N S M L T) = true) : ∃ t, T = [t] ∧ ¬ Kind67 t := by
  rcases T with _ | ⟨t, _ | ⟨t2, T2⟩⟩
  · simp [alone] at h
  · refine ⟨t, rfl, ?_⟩
    obtain ⟨K', N', S', M', L', T'⟩ := t
    simp [alone, Dat.K] at h
    simp [Kind67, Dat.k]
    exact ⟨of_decide_eq_true h.2.1, of_decide_eq_true h.2.2⟩
  · simp [alone] at h
theorem alone_T {K N : Int} {S : List UInt8} {M : List Int} {L T : List Dat} (h7 : K ≠ 7) (h : alone (.mk K N S M L T) = true) : T = [] := by
  by_cases h1 : K = 1
  · simp [alone, h1] at h; exact h.2
  by_cases h2 : K = 2
  · simp [alone, h2] at h; exact h.2
  by_cases h3 : K = 3
  · simp [alone, h3] at h; exact h.2
  by_cases h4 : K = 4
  · simp [alone, h4] at h; exact h.2
  by_cases h5 : K = 5
  · simp [alone, h5] at h; exact h.2
  by_cases h6 : K = 6 ∨ K = 8
  · simp [alone, h1, h2, h3, h4, h5, h6] at h; exact h.2
  · simp [alone, h1, h2, h3, h4, h5, h6, h7] at h
/-- What a list with a tail is. -/
theorem jn_ok {R : Dat → Prop} {N : Int} {S : List UInt8} {M : List Int} {L T0 : List Dat} {t : Dat} (hf : Fits 7 N S M T0 T0) (hL : fitss L) (hl : L.length ≤ 122880) (ht : t.fits) (hk : Kind67 t → t.ls.length ≤ 4096) : (jn 7 N S M L t).fits ∧ (AllSym R t → (∀ x ∈ L, AllSym R x) → AllSym R (jn 7 N S M L t)) := by
  obtain ⟨K', N', S', M', L', T'⟩ := t
  have ft := alone_fits ht
  have ht0 := ht
  rw [Dat.fits] at ht
  simp only [jn]
  split
  · rename_i h
    have := hk h
    simp only [Dat.ls] at this
    have app : fitss (L ++ L') := fitss_all fun x hx => by
      rcases List.mem_append.1 hx with hx | hx
      · exact fits_mem hL hx
      · exact fits_mem ht.2.1 hx
    refine ⟨?_, fun h1 h2 => AllSym.mk (fun e => by omega) (fun x hx => ?_) h1.ls.2⟩
    · rw [Dat.fits]
      exact ⟨⟨hf.n, hf.s, hf.m, by simp; omega, ft.t⟩, app, ht.2.2⟩
    · rcases List.mem_append.1 hx with hx | hx
      · exact h2 x hx
      · exact h1.ls.1 x hx
  · split
    · exact ⟨ht0, fun h1 _ => h1⟩
    · refine ⟨?_, fun h1 h2 => AllSym.mk (fun e => by omega) h2 (fun x hx => ?_)⟩
      · rw [Dat.fits]
        exact ⟨⟨hf.n, hf.s, hf.m, by omega, by simp⟩, hL, by rw [fitss]; exact ⟨ht0, trivial⟩⟩
      · simp at hx; rw [hx]; exact h1
/-- What is asked of what was got at a place. -/
theorem got_datK {R : Dat → Prop} {g : Got} (h : okG R g) : AllSym R g.dat ∧ g.dat.ls.length ≤ 4096 := by
  obtain ⟨h1, h2, _⟩ := okG_i h
  by_cases h0 : g.deep = 0
  · obtain ⟨a, b⟩ := h1 h0
    exact ⟨b, size_ls (chk_good a).2.1⟩
  · rw [h2 h0]
    exact ⟨pre_zero, by simp [Dat.ls]⟩
theorem ow_app {m0 m : Mem} {T : TypeId} {k : Nat} {ag : Bool} {ys zs : List AV} {v : AV} (h : Ow m0 m k ag ys v) (h0 : m0.next ≤ m.next) (hy : okAll k ys = true) (el : ElemOf Tryz.prog T k ag) (hz : zs ≠ []) (ho : okAll k zs = true) (hf : fzx Tryz.prog T m zs = (zs, m)) (hb : ys.length + zs.length ≤ 2 ^ 26) :
    ∃ v' m3, aappend Tryz.prog T v none (some zs) m = some (v', m3) ∧ Acc m0 m3 k ag (ys ++ zs) v' ∧ KpC (owns v) m m3 ∧ (∀ j, owns v' j → owns v j ∨ m.next ≤ j) := by
  rcases h with h | ⟨rfl, rfl⟩
  · exact acc_any h h0 hy el ho hf hb
  · refine ⟨_, _, aapp_emp (by omega) el hz ho hf (by simp at hb; omega), .inr ⟨by simpa using hz, m.next, m.clock + 1, by simp, h0, by simp, by simp⟩, .of (.of (.new _ _ _)), ?_⟩
    rintro j rfl
    exact .inr (Nat.le_refl _)
set_option maxHeartbeats 8000000 in
theorem t19 (R : Dat → Prop) (B : Nat) (mark : Int) : ∀ (n : Nat) (d : Dat), d.size ≤ n → d.fits → Tmp R mark d → ∀ (got : List Got) (left bad : Int) (m : Mem), gfits got → okGs R got → got.length < 2 ^ 21 → has m B (bld mark left bad) → wph Tryz.prog cw (.func 19) [.ptr B 0, enc d, .lst (encGs got)] m (DatK R B mark bad d m)
  | 0, d, hs, _, _ => by cases d; simp [Dat.size] at hs
  | n + 1, d, hs, hf, hT => by
    intro got left bad m hgot hok hl hB
    have ih := t19 R B mark n
    obtain ⟨bl, bv, be⟩ := hB
    refine wph_go Tryz.func19 rfl rfl (by simp [Tryz.f19]) (by simp [Tryz.f19]) fun Q hQ => ?_
    simp only [Tryz.f19, show cw.keepRes 19 = false from rfl, show cw.keepArgs 19 = false from rfl] at hQ ⊢
    have bn : B ≠ m.next := by omega
    have bn1 : B ≠ m.next + 1 := by omega
    have bn' : m.next ≠ B := by omega
    have bn1' : m.next + 1 ≠ B := by omega
    have zl : 6 ≤ zeroCells.length := by decide
    have zd : List.drop 6 zeroCells = [] := rfl
    have hB1 : has ((m.new (enc d).cells false).new zeroCells false) B (bld mark left bad) := ⟨by simp; omega, bv, by simp [bn, bn1, be]⟩
    have done : ∀ (s' : Sl) (m' : Mem) (r : Dat) (w : Nat) (bad' : Int), s'.at 6 = .ptr (m.next + 1) 0 → m'.get (m.next + 1) = some (.cells (enc r).cells false w) → r.fits → (bad' = 0 → AllSym R r) → (Kind67 r → Kind67 d ∨ r.ls.length ≤ 4096) → Bk B mark bad bad' m m' → Q .ret s' m' := by
      intro s' m' r w bad' h6 hg h1 h2 h3 h4
      refine hQ _ _ _ ?_
      simp [h6, hg]
      exact ⟨r, bad', rfl, h1, h2, h3, h4⟩
    have done2 : ∀ (e : Ex) (s' : Sl) (F : Mem) (K2 N2 : Int) (S2 : List UInt8) (M2 : List Int) (L2 T2 : List Dat) (xM xL xT : AV) (w : Nat) (bad' : Int), (e = .normal ∨ e = .ret) → s'.at 6 = .ptr (m.next + 1) 0 → F.get (m.next + 1) = some (.cells [int K2, int N2, .sc (.string ⟨⟨S2⟩⟩), xM, xL, xT] false w) → Lv m F 1 false (M2.map int) xM → Lv m F 6 true (encs L2) xL → Lv m F 6 true (encs T2) xT →
        (∀ j, owns xM j → ¬ owns xL j) → (∀ j, owns xM j → ¬ owns xT j) → (∀ j, owns xL j → ¬ owns xT j) → (Dat.mk K2 N2 S2 M2 L2 T2).fits → (bad' = 0 → AllSym R (.mk K2 N2 S2 M2 L2 T2)) → (Kind67 (.mk K2 N2 S2 M2 L2 T2) → Kind67 d ∨ L2.length ≤ 4096) → Bk B mark bad bad' m F → Q e s' F := by
      intro e s' F K2 N2 S2 M2 L2 T2 xM xL xT w bad' hex h6 hg lM lL lT d1 d2 d3 h1 h2 h3 ⟨h4, ⟨left', h5⟩, h7⟩
      refine hQ _ _ _ ?_
      obtain ⟨m', z, kz⟩ := fz_dat (K := K2) (N := N2) (S := S2) lM lL lT d1 d2 d3
      have oM := lM.okc
      have oL := lL.okc
      have oT := lT.okc
      refine ⟨hex, [.agg [int K2, int N2, .sc (.string ⟨⟨S2⟩⟩), xM, xL, xT]], by simp [h6, hg, oM, oL, oT], ?_⟩
      all_goals
        simp [fzr_agg]
        simp [fzv, fzs] at z
        obtain ⟨z1, z2⟩ := z
        rw [z1, z2]
        have own_ge : ∀ j, (owns xM j ∨ owns xL j ∨ owns xT j) → m.next ≤ j := fun j h => by
          rcases h with h | h | h
          · exact (lM.lt j h).1
          · exact (lL.lt j h).1
          · exact (lT.lt j h).1
        exact ⟨.mk K2 N2 S2 M2 L2 T2, bad', rfl, h1, h2, h3, ((h4.mono (fun j h => .inl h : ∀ j, j = B → (j = B ∨ m.next ≤ j))).trans (kz.mono fun j h => .inr (own_ge j h))).cut, ⟨left', h5.kc kz fun h => by have := own_ge B h; omega⟩, h7⟩
    simp [fzvs, be, bn, bn1]
    by_cases hb0 : bad = 0
    rotate_left
    · simp [hb0, zl, zd]
      refine done _ _ d (m.clock + 3) bad (by simp) (by simp) hf (fun h => absurd h hb0) .inl ?_
      exact bk_kp (Bk.refl ⟨bl, bv, be⟩) (by simp)
    subst hb0
    simp [(t34 got d hgot hl hf).go]
    rcases plc_in got d with h | ⟨i, h, hi⟩
    rotate_left
    · obtain ⟨g, hg⟩ : ∃ g, got[i]? = some g := ⟨_, List.getElem?_eq_getElem hi⟩
      have hgm := List.mem_of_getElem? hg
      have hg' : (encGs got)[i]? = some (encG g) := by rw [encGs_get, hg]; rfl
      have h0 : (0 : Int) ≤ i := by omega
      have hgf := Got.fits_i (gfits_mem hgot hgm)
      simp [h, h0, aindexAddr_lst Tryz.underlying26 tsize44 hg' (encG_cells_length g), encG_cells, (cw_gives (g16 g.dat hgf.2.1)).go]
      refine goH_of (t35b B mark left 0 _ _ hB1) ?_
      rintro v m2 ⟨rfl, bad', hbk⟩
      have r1 := hbk.1.get (m.next + 1) (by simp) bn1'
      simp at r1
      simp [aindexAddr_lst Tryz.underlying26 tsize44 hg' (encG_cells_length g), encG_cells, r1, zl, zd]
      have hq := got_datK (okGs_mem hok hgm)
      refine done _ _ g.dat (m2.clock + 1) bad' (by simp) (by simp) hgf.2.1 (fun _ => hq.1) (fun _ => .inr hq.2) ?_
      have hk := kp_bk hbk (m := m) (by simp)
      exact ⟨(hk.1.mono (fun j h => .inl h : ∀ j, j = B → (j = B ∨ m.next ≤ j))).trans ((kc_set (m.next + 1) _ _).mono fun j h => .inr (by omega)) |>.cut, hk.2.1.imp fun l q => q.kc (kc_set _ _ _) bn1, hk.2.2⟩
    simp [h]
    refine goH_of (t35b B mark left 0 1 _ hB1) ?_
    rintro v m2 ⟨rfl, bad1, hbk⟩
    obtain ⟨K, N, S, M, L, T⟩ := d
    have ft := alone_fits hf
    obtain ⟨hgd, hsz, hsy⟩ := hT
    obtain ⟨hal, hgL, hgT⟩ := good_mk hgd
    rw [Dat.fits] at hf
    rw [Dat.size] at hs hsz
    have r0 := hbk.1.get m.next (by simp) bn'
    have r1 := hbk.1.get (m.next + 1) (by simp) bn1'
    simp at r1
    simp [enc] at r0
    have hn2 := hbk.1.next
    simp at hn2
    have hk2 := kp_bk hbk (m := m) (by simp)
    obtain ⟨left1, hB2⟩ := hbk.2.1
    simp
    refine go_drawD (by kernel_rfl) ?_
    simp [r0]
    obtain ⟨v', m3, e37, k3, hv'⟩ := t37 M ft.m m2
    refine goH_eh e37 ?_
    have q0 : m3.get m.next = some (.cells [int K, int N, .sc (.string ⟨⟨S⟩⟩), .lst (M.map int), .lst (encs L), .lst (encs T)] false (m.clock + 1)) := (k3.get _ (by omega)).trans r0
    have q1 : m3.get (m.next + 1) = some (.cells zeroCells false (m.clock + 2)) := (k3.get _ (by omega)).trans r1
    have ov := hv'.lv.okc
    have lv' := hv'.lv.lt
    have hn3 := k3.next
    simp [ov, abuild, placesOf, fillAt]
    have n03 : m.next ≠ m3.next := by omega
    refine goM_of (l := [(1, 8), (3, 8), (5, 8), (1, 10), (3, 10), (5, 10), (7, 10)]) (by kernel_rfl) (?_ : List.all _ _ = true) ?_
    · simp [metAtD, metOkD, rank, verKeptD, Region.wanted, Mem.ver, r0, q0, n03]
    obtain ⟨m4, hm4⟩ : ∃ m4, m4 = (m3.new zeroCells false).set m3.next [int K, int N, .sc (.string ⟨⟨S⟩⟩), v', .emp 0, .emp 0] := ⟨_, rfl⟩
    have k4 : Kp m3 m4 := by rw [hm4]; simp
    have nx4 : m4.next = m3.next + 1 := by rw [hm4]; simp
    have b8 : m4.get m3.next = some (.cells [int K, int N, .sc (.string ⟨⟨S⟩⟩), v', .emp 0, .emp 0] false (m3.clock + 2)) := by rw [hm4]; simp
    obtain ⟨Bl4, Bv4, Be4⟩ := (hB2.kp k3).kp k4
    have q04 := (k4.get m.next (by omega)).trans q0
    have zd6 : List.drop 6 zeroCells = [] := rfl
    have zd4 : List.drop 4 zeroCells = [.emp 0, .emp 0] := rfl
    simp [zd4]
    rw [← hm4]
    have cutA : ∀ (s' : Sl) (m' : Mem), True := fun _ _ => trivial
    by_cases hk5 : K = 5
    · subst hk5
      obtain ⟨eL, eT, hM16⟩ : L = [] ∧ T = [] ∧ M.length ≤ 16 := by
        simp [alone] at hal
        exact ⟨hal.1.2, hal.2, by omega⟩
      have fin5 : ∀ (X : Mem) (M' : List Int) (xM : AV), KpC (fun i => i = B ∨ m.next ≤ i) m X → has X B (bld mark left1 bad1) → Lv m X 1 false (M'.map int) xM → (∀ j, owns xM j → m.next + 2 ≤ j) → R (.mk 5 N S M' [] []) → M'.length ≤ 17 → ∀ s', s'.at 6 = .ptr (m.next + 1) 0 → Q .ret s' (X.set (m.next + 1) [int 5, int N, .sc (.string ⟨⟨S⟩⟩), xM, .emp 0, .emp 0]) := by
        intro X M' xM h1 h2 h3 h4 h5 h6 s' h7
        have kcs := kc_set (m.next + 1) [int 5, int N, .sc (.string ⟨⟨S⟩⟩), xM, .emp 0, .emp 0] X
        have hnX := h1.next
        refine done2 .ret s' _ 5 N S M' [] [] xM (.emp 0) (.emp 0) (X.clock + 1) bad1 (.inr rfl) h7 (by simp) (h3.keep kcs fun j hj h => by have := h4 j hj; omega) (.inl ⟨0, by omega, by simp [encs], rfl⟩) (.inl ⟨0, by omega, by simp [encs], rfl⟩) (fun j _ h => h) (fun j _ h => h) (fun j h _ => h) ?_ (fun _ => AllSym.mk (fun _ => h5) (by simp) (by simp)) (fun h => by rcases h with h | h <;> simp [Dat.k] at h) ⟨(h1.trans (kcs.mono fun j h => .inr (by omega))).cut, ⟨left1, h2.kc kcs (by omega)⟩, fun _ => rfl⟩
        rw [Dat.fits]
        exact ⟨⟨ft.n, ft.s, by omega, by simp, by simp⟩, trivial, trivial⟩
      have hR := hsy (.mk 5 N S M L T) (by rw [pre]; simp) rfl 5 N S M (by rw [eL, eT])
      by_cases hmk : 0 < mark
      · simp [n03, q0, Be4, hmk]
        refine go_drawD (by kernel_rfl) ?_
        have nB4 : B ≠ m4.next := by omega
        have n34 : m3.next ≠ m4.next := by omega
        have hsrc := src_one (m := m4.new [int mark] false) (id := m4.next) (c := some 1) (k := 1) (ag := false) (x := int mark) (w := m4.clock + 1) (f := false) rfl (by simp) (by simp) (by simp)
        obtain ⟨v2, m5, p1, p2, p3, p4⟩ := ow_app (T := 22) (m := m4.new [int mark] false) (zs := [int mark]) ((hv'.kp k4).kp (.new _ _ _)) (by simp; omega) (okAll_ints _) el22 (List.cons_ne_nil _ _) (by simp [okAll_cons, okAll_nil]) (by simp [fzx, fzvs]) (by have := ft.m; simp; omega)
        have b85 : m5.get m3.next = some (.cells [int 5, int N, .sc (.string ⟨⟨S⟩⟩), v', .emp 0, .emp 0] false (m3.clock + 2)) := (p3.get m3.next (by simp; omega) (fun h => by have := (lv' _ h).2; omega)).trans (by simp [n34, b8])
        simp [b8, Be4, nB4, n34, abuildSlice, zeros, fillAt, abuiltin, hsrc, p1, b85, p2.okc]
        refine goM_of (l := [(1, 6)]) (by kernel_rfl) (?_ : List.all _ _ = true) ?_
        · simp [metAtD, metOkD, rank, verKeptD, Region.wanted, Mem.ver, b8, n34]
        simp [b85, p2.okc]
        obtain ⟨m6, hm6⟩ : ∃ m6, m6 = m5.set m3.next [int 5, int N, .sc (.string ⟨⟨S⟩⟩), v2, .emp 0, .emp 0] := ⟨_, rfl⟩
        have nx5 := p3.next
        simp at nx5
        have n03' : m.next ≠ m3.next := n03
        have g50 : m5.get m.next = some (.cells [int 5, int N, .sc (.string ⟨⟨S⟩⟩), .lst (M.map int), .lst (encs L), .lst (encs T)] false (m.clock + 1)) := (p3.get m.next (by simp; omega) (fun h => by have := (lv' _ h).1; omega)).trans (by simp [show m.next ≠ m4.next by omega, q04])
        have g60 : m6.get m.next = some (.cells [int 5, int N, .sc (.string ⟨⟨S⟩⟩), .lst (M.map int), .lst (encs L), .lst (encs T)] false (m.clock + 1)) := by rw [hm6]; simp [n03, g50]
        have g68 : m6.get m3.next = some (.cells [int 5, int N, .sc (.string ⟨⟨S⟩⟩), v2, .emp 0, .emp 0] false (m5.clock + 1)) := by rw [hm6]; simp
        have g51 : m5.get (m.next + 1) = some (.cells zeroCells false (m.clock + 2)) := (p3.get (m.next + 1) (by simp; omega) (fun h => by have := (lv' _ h).1; omega)).trans (by simp [show m.next + 1 ≠ m4.next by omega]; exact (k4.get (m.next + 1) (by omega)).trans q1)
        have g61 : m6.get (m.next + 1) = some (.cells zeroCells false (m.clock + 2)) := by rw [hm6]; simp [show m.next + 1 ≠ m3.next by omega, g51]
        rw [← hm6]
        subst eL eT
        simp [n03, g50, encs]
        obtain ⟨_, ⟨its, ok, rfl, hin, hlen⟩, e38⟩ := t38 [] (by simp) m6
        obtain rfl : its = [] := List.eq_nil_of_length_eq_zero (by simpa using hlen)
        simp [encs] at e38
        refine goH_eh e38 ?_
        simp
        refine go_count 78 0 (fun i s' m' => m' = m6) (by simp) (by omega) rfl ?_
        rintro i s' m' hi e78 rfl hsame hw Q' hn he
        obtain rfl : i = 0 := by omega
        have e4 : s'.at 4 = .ptr m.next 0 := (hsame 4 (by kernel_rfl)).trans (by simp)
        have e6 : s'.at 6 = .ptr (m.next + 1) 0 := (hsame 6 (by kernel_rfl)).trans (by simp)
        have e8 : s'.at 8 = .ptr m3.next 0 := (hsame 8 (by kernel_rfl)).trans (by simp)
        have e77 : s'.at 77 = int 0 := (hsame 77 (by kernel_rfl)).trans (by simp)
        clear hsame
        simp [e78, e77]
        refine he _ _ _ (by simp) ?_
        clear hn he
        simp [e4, g60, encs]
        refine go_count 113 0 (fun i s2 m2 => m2 = m') (by simp) (by omega) rfl ?_
        rintro i s2 m2' hi2 e113 rfl hsame hw Q2 hn he
        obtain rfl : i = 0 := by omega
        have f6 : s2.at 6 = .ptr (m.next + 1) 0 := (hsame 6 (by kernel_rfl)).trans (by simp [e6])
        have f8 : s2.at 8 = .ptr m3.next 0 := (hsame 8 (by kernel_rfl)).trans (by simp [e8])
        have f112 : s2.at 112 = int 0 := (hsame 112 (by kernel_rfl)).trans (by simp)
        clear hsame
        simp [e113, f112]
        refine he _ _ _ (by simp) ?_
        simp [f8, f6, g68, g61, p2.okc, zd6]
        rw [if_pos hmk] at hR
        refine fin5 _ (M ++ [mark]) v2 ?_ ?_ ?_ ?_ hR (by simp; omega) _ ?_
        · rw [hm6]
          exact ((((hk2.1.mono fun j h => .inl h).trans (.of (.of (k3.trans k4)))).trans (.of (.of (.new _ _ _)))).trans (p3.mono fun j h => .inr (by have := (lv' j h).1; omega))).trans ((kc_set _ _ _).mono fun j h => .inr (by omega))
        · rw [hm6]
          exact (((show has m4 B (bld mark left1 bad1) from ⟨Bl4, Bv4, Be4⟩).kp (.new _ _ _)).kc p3 (fun h => by have := (lv' _ h).1; omega)).kc (kc_set _ _ _) (by omega)
        · rw [hm6, List.map_append]
          exact ((Ow.lv (.inl p2)).keep (kc_set _ _ _) fun j hj h => by
            rcases p4 j hj with q | q
            · have := (lv' j q).2; omega
            · simp at q; omega).back (by omega)
        · intro j hj
          rcases p4 j hj with q | q
          · have := (lv' j q).1; omega
          · simp at q; omega
        · simp [f6]
      · simp [n03, q0, Be4, hmk]
        have g41 : m4.get (m.next + 1) = some (.cells zeroCells false (m.clock + 2)) := (k4.get (m.next + 1) (by omega)).trans q1
        subst eL eT
        simp [q04, encs]
        obtain ⟨_, ⟨its, ok, rfl, hin, hlen⟩, e38⟩ := t38 [] (by simp) m4
        obtain rfl : its = [] := List.eq_nil_of_length_eq_zero (by simpa using hlen)
        simp [encs] at e38
        refine goH_eh e38 ?_
        simp
        refine go_count 78 0 (fun i s' m' => m' = m4) (by simp) (by omega) rfl ?_
        rintro i s' m' hi e78 rfl hsame hw Q' hn he
        obtain rfl : i = 0 := by omega
        have e4 : s'.at 4 = .ptr m.next 0 := (hsame 4 (by kernel_rfl)).trans (by simp)
        have e6 : s'.at 6 = .ptr (m.next + 1) 0 := (hsame 6 (by kernel_rfl)).trans (by simp)
        have e8 : s'.at 8 = .ptr m3.next 0 := (hsame 8 (by kernel_rfl)).trans (by simp)
        have e77 : s'.at 77 = int 0 := (hsame 77 (by kernel_rfl)).trans (by simp)
        clear hsame
        simp [e78, e77]
        refine he _ _ _ (by simp) ?_
        clear hn he
        simp [e4, q04, encs]
        refine go_count 113 0 (fun i s2 m2 => m2 = m') (by simp) (by omega) rfl ?_
        rintro i s2 m2' hi2 e113 rfl hsame hw Q2 hn he
        obtain rfl : i = 0 := by omega
        have f6 : s2.at 6 = .ptr (m.next + 1) 0 := (hsame 6 (by kernel_rfl)).trans (by simp [e6])
        have f8 : s2.at 8 = .ptr m3.next 0 := (hsame 8 (by kernel_rfl)).trans (by simp [e8])
        have f112 : s2.at 112 = int 0 := (hsame 112 (by kernel_rfl)).trans (by simp)
        clear hsame
        simp [e113, f112]
        refine he _ _ _ (by simp) ?_
        simp [f8, f6, b8, g41, ov, zd6]
        rw [if_neg hmk] at hR
        refine fin5 _ M v' ?_ ⟨Bl4, Bv4, Be4⟩ ((hv'.kp k4).lv.back (by omega)) (fun j h => by have := (lv' j h).1; omega) hR (by omega) _ (by simp [f6])
        exact (hk2.1.mono fun j h => .inl h).trans (.of (.of (k3.trans k4)))
    · simp [n03, q0, hk5, undefV, undef]
      have fitd : Fits K N S M L T := ft
      simp [q04]
      obtain ⟨_, ⟨its, ok, rfl, hin, hlen⟩, e38⟩ := t38 L ft.l m4
      refine goH_eh e38 ?_
      simp
      have hL4 : L.length ≤ 4096 := size_ls (d := .mk K N S M L T) (by rw [Dat.size]; omega)
      have finL : ∀ (Y : Mem) (ys : List Dat) (xL : AV) (bad2 left2 : Int), KpC (fun i => i = B ∨ m.next ≤ i) m Y → has Y B (bld mark left2 bad2) → Lv m Y 1 false (M.map int) v' → Lv m Y 6 true (encs ys) xL → (∀ j, owns xL j → m3.next ≤ j) → fitss ys → ys.length ≤ 122880 → (bad2 = 0 → ∀ y ∈ ys, AllSym R y) → ∀ (e : Ex) (s' : Sl), (e = .normal ∨ e = .ret) → s'.at 6 = .ptr (m.next + 1) 0 → Q e s' (Y.set (m.next + 1) [int K, int N, .sc (.string ⟨⟨S⟩⟩), v', xL, .emp 0]) := by
        intro Y ys xL bad2 left2 h1 h2 h3 h4 h5 h6 h6l h7 e s' he h8
        have kcs := kc_set (m.next + 1) [int K, int N, .sc (.string ⟨⟨S⟩⟩), v', xL, .emp 0] Y
        have hnY := h1.next
        refine done2 e s' _ K N S M ys [] v' xL (.emp 0) (Y.clock + 1) bad2 he h8 (by simp) (h3.keep kcs fun j hj h => by have := lv' j hj; omega) (h4.keep kcs fun j hj h => by have := h5 j hj; omega) (.inl ⟨0, by omega, by simp [encs], rfl⟩) (fun j h q => by have := lv' j h; have := h5 j q; omega) (fun j _ h => h) (fun j _ h => h) ?_ (fun hb => AllSym.mk (fun e => absurd e hk5) (h7 hb) (by simp)) (fun h => .inl h) ⟨(h1.trans (kcs.mono fun j h => .inr (by omega))).cut, ⟨left2, h2.kc kcs (by omega)⟩, fun _ => rfl⟩
        rw [Dat.fits]
        exact ⟨⟨ft.n, ft.s, ft.m, by omega, by simp⟩, h6, trivial⟩
      -- the memory behind so many items
      let It78 : Nat → Sl → Mem → Prop := fun i s' m' => KpC (fun i => i = B ∨ m3.next ≤ i) m4 m' ∧ ∃ (ys : List Dat) (bad2 left2 : Int) (xL : AV) (w : Nat), m'.get m3.next = some (.cells [int K, int N, .sc (.string ⟨⟨S⟩⟩), v', xL, .emp 0] false w) ∧ Acc m4 m' 6 true (encs ys) xL ∧ ys.length ≤ 30 * i ∧ fitss ys ∧ (bad2 = 0 → ∀ y ∈ ys, AllSym R y) ∧ has m' B (bld mark left2 bad2)
      refine go_count 78 its.length It78 (by simp) (by have := ft.l; omega) ⟨.refl _ _, [], bad1, left1, .emp 0, _, b8, .inl ⟨by simp [encs], rfl⟩, by simp, trivial, fun _ _ h => by simp at h, ⟨Bl4, Bv4, Be4⟩⟩ ?_
      rintro i s' m' hi e78 ⟨kc5, ys, bad2, left2, xL, w, g8, hacc, hyl, hyf, hys, ⟨Bl5, Bv5, Be5⟩⟩ hsame hw Q' hn he
      have e0 : s'.at 0 = .ptr B 0 := (hsame 0 (by kernel_rfl)).trans (by simp)
      have e2 : s'.at 2 = .lst (encGs got) := (hsame 2 (by kernel_rfl)).trans (by simp)
      have e4 : s'.at 4 = .ptr m.next 0 := (hsame 4 (by kernel_rfl)).trans (by simp)
      have e6 : s'.at 6 = .ptr (m.next + 1) 0 := (hsame 6 (by kernel_rfl)).trans (by simp)
      have e8 : s'.at 8 = .ptr m3.next 0 := (hsame 8 (by kernel_rfl)).trans (by simp)
      have e76 : s'.at 76 = .lst (encIs its) := (hsame 76 (by kernel_rfl)).trans (by simp)
      have e77 : s'.at 77 = int its.length := (hsame 77 (by kernel_rfl)).trans (by simp)
      clear hsame
      have gd5 : m'.get m.next = some (.cells [int K, int N, .sc (.string ⟨⟨S⟩⟩), .lst (M.map int), .lst (encs L), .lst (encs T)] false (m.clock + 1)) := (kc5.get m.next (by omega) (by omega)).trans q04
      have gr5 : m'.get (m.next + 1) = some (.cells zeroCells false (m.clock + 2)) := (kc5.get (m.next + 1) (by omega) (by omega)).trans ((k4.get (m.next + 1) (by omega)).trans q1)
      have nx5 := kc5.next
      have ox := hacc.okc
      have lacc := fun j h => acc_lt hacc j h
      have lM5 : Lv m m' 1 false (M.map int) v' := ((hv'.kp k4).lv.keep kc5 fun j hj h => by have := lv' j hj; omega).back (by omega)
      have kcm5 : KpC (fun i => i = B ∨ m.next ≤ i) m m' := ((hk2.1.mono fun j h => .inl h).trans (.of (.of (k3.trans k4)))).trans (kc5.mono fun j h => by omega)
      simp [e78, e77]
      refine goB_split (fun h => ?_) fun h => ?_
      · have hlt : i < its.length := by simpa using h
        obtain ⟨x, hx⟩ : ∃ x, its[i]? = some x := ⟨_, List.getElem?_eq_getElem hlt⟩
        have hxL := hin x (List.mem_of_getElem? hx)
        have hx' : (encIs its)[i]? = some (encI x) := by rw [encIs_get, hx]; rfl
        have hszx := size_mem hxL
        have hxf := fits_mem hf.2.1 hxL
        have hxT := tmp_sub ⟨hgd, by rw [Dat.size]; exact hsz, hsy⟩ (.inl hxL)
        have n5 : B ≠ m'.next := by omega
        have n58 : m3.next ≠ m'.next := by omega
        obtain ⟨X, hX⟩ : ∃ X, X = (m'.new [AV.sc (Value.int IntKind.i64 0), AV.sc (Value.int IntKind.i64 0), AV.sc (Value.string ⟨⟨[]⟩⟩), AV.emp 0, AV.emp 0, AV.emp 0, AV.sc (Value.bool false)] false).set m'.next (encI x).cells := ⟨_, rfl⟩
        have kX : Kp m' X := by rw [hX]; simp
        have gX12 : X.get m'.next = some (.cells (encI x).cells false (m'.clock + 2)) := by rw [hX]; simp
        have gX8 := (kX.get m3.next (by omega)).trans g8
        obtain ⟨BlX, BvX, BeX⟩ := (show has m' B (bld mark left2 bad2) from ⟨Bl5, Bv5, Be5⟩).kp kX
        have nX := kX.next
        have nX1 : m'.next < X.next := by rw [hX]; simp
        simp [e78, e76, aindexAddr_lst Tryz.underlying73 tsize77 hx' (encI_cells_length x), e0, Be5, n5]
        by_cases hb2 : bad2 = 0
        rotate_left
        · have n51 : m.next + 1 ≠ m'.next := by omega
          simp [hb2, e8, e6, g8, n58, n51, gr5, ov, ox, zd6]
          refine he _ _ _ (by simp) ?_
          simp
          rw [← hX]
          exact finL X ys xL bad2 left2 (kcm5.trans (.of (.of kX))) ⟨BlX, BvX, BeX⟩ (lM5.keep (X := fun _ => False) (.of (.of kX)) fun _ _ h => h) (((Ow.lv (.inl hacc)).back (m0 := m) (by omega)).keep (X := fun _ => False) (.of (.of kX)) fun _ _ h => h) (fun j h => by have := (lacc j h).1; omega) hyf (by omega) hys .ret _ (.inr rfl) (by simp [e6])
        · cases hrow : x.2 with
          | true =>
            simp [hb2, hrow]
            rw [← hX]
            refine go_drawD (by kernel_rfl) ?_
            simp [e8, gX8, e0, gX12, e2]
            refine goH_of (t39 R B mark x.1 hxf (ih x.1 (by omega) hxf hxT) got hgot hok hl left2 bad2 X ⟨BlX, BvX, BeX⟩) ?_
            rintro v m7 ⟨zs, bad3, rfl, hz30, hzf, hzs, kc7, ⟨left3, hB7⟩, hb3⟩
            have hacc7 : Acc m4 m7 6 true (encs ys) xL := acc_keptC (hacc.kp kX) kc7 fun j hj h => by have := (lacc j hj).1; omega
            have g78 := (kc7.get m3.next (by omega) (by omega)).trans gX8
            have n7 := kc7.next
            obtain ⟨v2, m8, p1, p2, p3, p4⟩ := acc_any (T := 23) (zs := encs zs) hacc7 (by omega) (okAll_encs _) el23 (okAll_encs _) (by simp [fzx]) (by simp; omega)
            have g88 := (p3.get m3.next (by omega) (fun h => by have := (lacc _ h).1; omega)).trans g78
            have hsrc : ∀ m, srcOf m (.lst (encs zs)) = some (encs zs) := fun m => rfl
            have n8 := p3.next
            simp [abuiltin, hsrc, p1, e8, g88, p2.okc]
            refine goM_of (l := [(1, 6)]) (by kernel_rfl) (?_ : List.all _ _ = true) ?_
            · simp [metAtD, metOkD, rank, verKeptD, Region.wanted, Mem.ver, gX8, g78]
            simp [e8, g88, p2.okc, e78, hw]
            have hys2 : encs (ys ++ zs) = encs ys ++ encs zs := by simp [encs_map]
            have kc8 : KpC (fun i => i = B ∨ m3.next ≤ i) m4 m8 := ((kc5.trans (.of (.of kX))).trans (kc7.mono fun j h => .inl h)).trans (p3.mono fun j h => .inr (by have := (lacc j h).1; omega))
            refine hn _ _ hlt (by simp) ⟨kc8.trans ((kc_set _ _ _).mono fun j h => .inr (by omega)), ys ++ zs, bad3, left3, v2, m8.clock + 1, by simp, ?_, by simp; omega, fitss_all fun y hy => ?_, fun hb y hy => ?_, (hB7.kc p3 fun h => by have := (lacc _ h).1; omega).kc (kc_set _ _ _) (by omega)⟩
            · rw [hys2]
              refine acc_keptC p2 (kc_set _ _ _) fun j hj h => ?_
              rcases p4 j hj with q | q
              · have := (lacc j q).1; omega
              · omega
            · rcases List.mem_append.1 hy with hy | hy
              · exact fits_mem hyf hy
              · exact fits_mem hzf hy
            · rcases List.mem_append.1 hy with hy | hy
              · exact hys (hb3 hb) y hy
              · exact hzs hb y hy
          | false =>
            simp [hb2, hrow]
            rw [← hX]
            refine go_drawD (by kernel_rfl) ?_
            simp [e8, gX8, e0, gX12, e2]
            refine goH_of (ih x.1 (by omega) hxf hxT got left2 bad2 X hgot hok hl ⟨BlX, BvX, BeX⟩) ?_
            rintro v m7 ⟨r, bad3, rfl, hrf, hrs, _, kc7, ⟨left3, hB7⟩, hb3⟩
            have hacc7 : Acc m4 m7 6 true (encs ys) xL := acc_keptC (hacc.kp kX) kc7 fun j hj h => by have := (lacc j hj).1; omega
            have g78 := (kc7.get m3.next (by omega) (by omega)).trans gX8
            have n7 := kc7.next
            have n37 : m3.next ≠ m7.next := by omega
            have hsrc := src_one (m := m7.new (enc r).cells false) (id := m7.next) (c := some 1) (k := 6) (ag := true) (x := enc r) (w := m7.clock + 1) (f := false) rfl (by simp) (by simp) (by simp)
            obtain ⟨v2, m8, p1, p2, p3, p4⟩ := acc_any (T := 23) (m := m7.new (enc r).cells false) (zs := [enc r]) (hacc7.kp (.new _ _ _)) (by simp; omega) (okAll_encs _) el23 (by simp [okAll_cons, okAll_nil]) (by simp [fzx, fzvs]) (by simp; omega)
            have n8 := p3.next
            simp at n8
            have g88 : m8.get m3.next = _ := (p3.get m3.next (by simp; omega) (fun h => by have := (lacc _ h).1; omega)).trans (by simp [n37]; exact g78)
            simp [abuildSlice, zeros, fillAt, abuiltin, hsrc, p1, e8, g88, p2.okc]
            refine goM_of (l := [(1, 6), (1, 7)]) (by kernel_rfl) (?_ : List.all _ _ = true) ?_
            · simp [metAtD, metOkD, rank, verKeptD, Region.wanted, Mem.ver, gX8, g78, n37]
            simp [e8, g88, p2.okc, e78, hw]
            have hys2 : encs (ys ++ [r]) = encs ys ++ [enc r] := by simp [encs_map]
            have kc8 : KpC (fun i => i = B ∨ m3.next ≤ i) m4 m8 := (((kc5.trans (.of (.of kX))).trans (kc7.mono fun j h => .inl h)).trans (.of (.of (.new m7 (enc r).cells false)))).trans (p3.mono fun j h => .inr (by have := (lacc j h).1; omega))
            refine hn _ _ hlt (by simp) ⟨kc8.trans ((kc_set _ _ _).mono fun j h => .inr (by omega)), ys ++ [r], bad3, left3, v2, m8.clock + 1, by simp, ?_, by simp; omega, fitss_all fun y hy => ?_, fun hb y hy => ?_, ((hB7.kp (.new _ _ _)).kc p3 fun h => by have := (lacc _ h).1; omega).kc (kc_set _ _ _) (by omega)⟩
            · rw [hys2]
              refine acc_keptC p2 (kc_set _ _ _) fun j hj h => ?_
              rcases p4 j hj with q | q
              · have := (lacc j q).1; omega
              · simp at q; omega
            · rcases List.mem_append.1 hy with hy | hy
              · exact fits_mem hyf hy
              · simp at hy; rw [hy]; exact hrf
            · rcases List.mem_append.1 hy with hy | hy
              · exact hys (hb3 hb) y hy
              · simp at hy; rw [hy]; exact hrs hb
      · have hge : i = its.length := by have := of_decide_eq_false h; omega
        subst hge
        simp
        refine he _ _ _ (by simp) ?_
        clear hn he
        have hTc : T = [] ∨ (K = 7 ∧ ∃ t, T = [t] ∧ ¬ Kind67 t) := by
          by_cases h7 : K = 7
          · subst h7
            exact .inr ⟨rfl, alone_7 hal⟩
          · exact .inl (alone_T h7 hal)
        have ylen : ys.length ≤ 122880 := by omega
        simp [e4, gd5]
        have accm := (Ow.lv (.inl hacc)).back (m0 := m) (by omega)
        have own8 : ∀ j, owns xL j → m3.next ≤ j := fun j h => by have := (lacc j h).1; omega
        rcases hTc with rfl | ⟨rfl, t, rfl, ht67⟩
        · refine go_count 113 0 (fun i s2 m2 => m2 = m') (by simp [encs]) (by omega) rfl ?_
          rintro i s2 m2' hi2 e113 rfl hsame hw Q2 hn he
          obtain rfl : i = 0 := by omega
          have f6 : s2.at 6 = .ptr (m.next + 1) 0 := (hsame 6 (by kernel_rfl)).trans (by simp [e6])
          have f8 : s2.at 8 = .ptr m3.next 0 := (hsame 8 (by kernel_rfl)).trans (by simp [e8])
          have f112 : s2.at 112 = int 0 := (hsame 112 (by kernel_rfl)).trans (by simp)
          clear hsame
          simp [e113, f112]
          refine he _ _ _ (by simp) ?_
          simp [f8, f6, g8, gr5, ov, ox, zd6]
          exact finL _ ys xL bad2 left2 kcm5 ⟨Bl5, Bv5, Be5⟩ lM5 accm own8 hyf ylen hys .ret _ (.inr rfl) (by simp [f6])
        · have htf : t.fits := fits_mem hf.2.2 (by simp)
          have htT := tmp_sub ⟨hgd, by rw [Dat.size]; exact hsz, hsy⟩ (.inr (by simp : t ∈ [t]))
          have hszt := size_mem (by simp : t ∈ [t])
          refine go_count 113 1 (fun i s2 m2 => (i = 0 → m2 = m') ∧ (i = 1 → ∃ (r : Dat) (w bad3 left3 : _), m2.get m3.next = some (.cells (enc r).cells false w) ∧ KpC (fun i => i = B ∨ m.next + 2 ≤ i) m4 m2 ∧ r.fits ∧ ((bad3 : Int) = 0 → AllSym R r) ∧ has m2 B (bld mark left3 bad3))) (by simp) (by omega) ⟨fun _ => rfl, fun h => by omega⟩ ?_
          rintro i s2 m2' hi2 e113 ⟨hA0, hA1⟩ hsame hw Q2 hn he
          have f0 : s2.at 0 = .ptr B 0 := (hsame 0 (by kernel_rfl)).trans (by simp [e0])
          have f2 : s2.at 2 = .lst (encGs got) := (hsame 2 (by kernel_rfl)).trans (by simp [e2])
          have f6 : s2.at 6 = .ptr (m.next + 1) 0 := (hsame 6 (by kernel_rfl)).trans (by simp [e6])
          have f8 : s2.at 8 = .ptr m3.next 0 := (hsame 8 (by kernel_rfl)).trans (by simp [e8])
          have f111 : s2.at 111 = .lst [enc t] := (hsame 111 (by kernel_rfl)).trans (by simp [encs])
          have f112 : s2.at 112 = int 1 := (hsame 112 (by kernel_rfl)).trans (by simp)
          clear hsame
          have hi01 : i = 0 ∨ i = 1 := by omega
          rcases hi01 with rfl | rfl
          · obtain rfl := hA0 rfl
            clear hA0 hA1
            have nt : m3.next ≠ m2'.next := by omega
            obtain ⟨X, hX⟩ : ∃ X, X = (m2'.new zeroCells false).set m2'.next (enc t).cells := ⟨_, rfl⟩
            have kX : Kp m2' X := by rw [hX]; simp
            have gX14 : X.get m2'.next = some (.cells (enc t).cells false (m2'.clock + 2)) := by rw [hX]; simp
            have gX8 := (kX.get m3.next (by omega)).trans g8
            have hBX := (show has m2' B (bld mark left2 bad2) from ⟨Bl5, Bv5, Be5⟩).kp kX
            have nX1 : m2'.next < X.next := by rw [hX]; simp
            simp [e113, f112, f111, aindexAddr_lst0 Tryz.underlying23 tsize25 (enc_cells_length t)]
            rw [← hX]
            refine go_drawD (by kernel_rfl) ?_
            simp [f8, gX8, f0, gX14, f2]
            refine goH_of (ih t (by simp [sizes] at hszt hs; omega) htf htT got left2 bad2 X hgot hok hl hBX) ?_
            rintro v m7 ⟨r, bad3, rfl, hrf, hrs, hrk, kc7, ⟨left3, hB7⟩, hb3⟩
            simp
            have n7 := kc7.next
            have kXF := KpC.of (X := fun _ => False) (.of kX)
            have hacc7 : Acc m m7 6 true (encs ys) xL := by
              have := acc_keptC (hacc.kp kX) kc7 fun j hj h => by have := (lacc j hj).1; omega
              rcases this with q | ⟨q, id, w, q1, q2, q3⟩
              · exact .inl q
              · exact .inr ⟨q, id, w, q1, by omega, q3⟩
            have lM7 : Lv m m7 1 false (M.map int) v' := (lM5.keep kXF fun _ _ h => h).keep kc7 fun j hj h => by have := lv' j hj; omega
            have g78 := (kc7.get m3.next (by omega) (by omega)).trans gX8
            refine goH_of (t40 (m0 := m) (K := 7) (N := N) (S := S) (M := M) r hrf (by omega) lM7 hacc7 (by omega) (fun j h q => by have := lv' j h; have := own8 j q; omega)) ?_
            rintro v m8 ⟨rfl, kc8⟩
            have n8 := kc8.next
            have g88 := (kc8.get m3.next (by omega) (fun h => by
              rcases h with h | h
              · have := lv' _ h; omega
              · have := (lacc _ h).1; omega)).trans g78
            have hk6 : Kind67 r → r.ls.length ≤ 4096 := fun h => (hrk h).resolve_left ht67
            obtain ⟨jf, js⟩ := jn_ok (R := R) (T0 := []) (N := N) (S := S) (M := M) ⟨ft.n, ft.s, ft.m, by simp, by simp⟩ hyf ylen hrf hk6
            simp [f8, g88]
            refine goM_of (l := [(0, 4)]) (by kernel_rfl) (?_ : List.all _ _ = true) ?_
            · simp [metAtD, metOkD, rank, verKeptD, Region.wanted, Mem.ver, gX8, g78]
            have w1 : IntKind.i64.wrap 1 = 1 := by decide
            simp [e113, w1]
            refine hn _ _ (by omega) (by simp) ⟨fun h => by omega, fun _ => ⟨jn 7 N S M ys r, m8.clock + 1, bad3, left3, by simp, ?_, jf, fun hb => js (hrs hb) (hys (hb3 hb)), (hB7.kc kc8 (fun h => by
              rcases h with h | h
              · have := lv' _ h; omega
              · have := (lacc _ h).1; omega)).kc (kc_set _ _ _) (by omega)⟩⟩
            exact (((((kc5.mono fun j h => by omega).trans (.of (.of kX))).trans (kc7.mono fun j h => .inl h)).trans (kc8.mono fun j h => .inr (by
              rcases h with h | h
              · have := lv' _ h; omega
              · have := own8 _ h; omega))).trans ((kc_set _ _ _).mono fun j h => .inr (by omega)))
          · obtain ⟨r, w3, bad3, left3, g83, kc3, hrf, hrs, hB3⟩ := hA1 rfl
            simp [e113, f112]
            refine he _ _ _ (by simp) ?_
            have gr3 := (kc3.get (m.next + 1) (by omega) (by omega)).trans ((k4.get (m.next + 1) (by omega)).trans q1)
            simp [f8, f6, g83, gr3, zd6]
            have kcm3 : KpC (fun i => i = B ∨ m.next ≤ i) m m2' := ((hk2.1.mono fun j h => .inl h).trans (.of (.of (k3.trans k4)))).trans (kc3.mono fun j h => by omega)
            exact done _ _ r (m2'.clock + 1) bad3 (by simp [f6]) (by simp) hrf hrs (fun h => .inl (.inr rfl)) ⟨(kcm3.trans ((kc_set (m.next + 1) _ _).mono fun j h => .inr (by omega))).cut, ⟨left3, hB3.kc (kc_set _ _ _) (by omega)⟩, fun _ => rfl⟩
end Go.Proofs.YtjiijacibpgciaaGreat
