import Derived.Test.YtipmoeclkamciaaYLive
import Derived.Test.YtipmoeclkamciaaYLaw5
import Derived.Test.YtipmoeclkamciaaYDeep
import Derived.Test.YtipmoeclkamciaaYPlain
/- DatumSame: the walk, and the plain law. -/
set_option linter.unusedSimpArgs false
set_option linter.unusedVariables false
set_option linter.unusedSectionVars false
namespace Go.Proofs.Ytipmoeclkamciaa
open Go.V
attribute [local simp] Nat.add_assoc

noncomputable def cs : Cfg := ⟨fun _ => false, fun _ => false, fun f => if f == 8 then none else if f == 25 then some (roH (limH Try.prog cf 25)) else if f == 33 then some (limH Try.prog cl 33) else some (limH Try.prog cf f), fun f => if f == 8 then 1 else 0⟩
theorem told_cs (f : FuncId) (h : List AV → Mem → Option (AV × Mem)) (e : cs.hook f = some h) : ByHand Try.prog f h := by
  unfold cs at e
  dsimp only at e
  split at e
  · cases e
  · split at e
    · rename_i h1 h2
      have h2 : f = 25 := by simpa using h2
      subst h2
      cases e
      exact told_ro (told_lim follows_mixed told_cf' 25)
    · split at e
      · rename_i h1 h2 h3
        have h3 : f = 33 := by simpa using h3
        subst h3
        cases e
        exact told_lim follows_mixed told_cl 33
      · cases e; exact told_lim follows_mixed told_cf' f
theorem hookss (B : Nat) (W : World) : Hooks Try.prog B W cs := hooks_of told_cs
theorem cs_gives {f : FuncId} {args : List AV} {r : AV} (h : Gives Try.prog cf f args r) (hf : cs.hook f = some (limH Try.prog cf f) := by rfl) : Gives Try.prog cs f args r := fun m0 args0 m hz => eh_hook hf (lim_eq (h m0 args0 m hz))
theorem abin_xor (t : TypeId) (x y : Operand) (a b : Int) : ∃ c : Int, abin Try.prog .xor t x y (int a) (int b) = some (int c) := by
  simp only [abin, plain, eqGuard, binOp, Op.intBits]
  exact ⟨_, rfl⟩
/-- One that may be written is looked at. -/
theorem ro25 {x y : Dat} (hx : x.fits) (hy : y.fits) {v : AV} {m : Mem} (hz : (fzvs m [v, enc y]).1 = [enc x, enc y]) : EH Try.prog cs (.func 25) [v, enc y] m (.sc (.bool (ali x y))) m := by
  refine eh_hook rfl ?_
  unfold roH
  rw [hz]
  have h1 : limH Try.prog cf 25 [enc x, enc y] Mem.empty = some (.sc (.bool (ali x y)), Mem.empty) := lim_eq (g25 x y hx hy _ _ _ (by simp [fzvs]))
  simp [AV.bels, h1, AV.out]

theorem live_fz {m m1 m' : Mem} {K N : Int} {S : List UInt8} {M : List Int} {L T : List Dat} {vM vL vT : AV} (hM : M = [] ∧ vM = .emp 1 ∨ Acc m m' 1 false (M.map int) vM) (hL : Acc m m' 6 true (encs L) vL) (hT : Acc m m' 6 true (encs T) vT) (d1 : ∀ j, owns vM j → ¬ owns vL j) (d2 : ∀ j, owns vM j → ¬ owns vT j) (d3 : ∀ j, owns vL j → ¬ owns vT j) (y : Dat) :
    (fzvs m' [.agg [int K, int N, .sc (.string ⟨⟨S⟩⟩), vM, vL, vT], enc y]).1 = [enc (.mk K N S M L T), enc y] := by
  have h1 : ∃ m4, fz1 m' vM = (.lst (M.map int), m4) ∧ KpX (owns vM) m' m4 := by
    rcases hM with ⟨rfl, rfl⟩ | h
    · exact ⟨m', by simp, KpX.refl _ _⟩
    · exact acc_fzX h rfl (fun y hy => by obtain ⟨x, _, rfl⟩ := List.mem_map.1 hy; simp) (okAll_ints _)
  obtain ⟨m4, f1, k1⟩ := h1
  have B2 := acc_keptX hL k1 (fun j hj e => d1 j e hj)
  have B3 := acc_keptX hT k1 (fun j hj e => d2 j e hj)
  obtain ⟨m5, f2, k2⟩ := acc_fzX B2 rfl (fun y hy => by rw [encs_map] at hy; obtain ⟨x, _, rfl⟩ := List.mem_map.1 hy; simp) (okAll_encs _)
  have C3 := acc_keptX B3 k2 (fun j hj e => d3 j e hj)
  obtain ⟨m6, f3, k3⟩ := acc_fzX C3 rfl (fun y hy => by rw [encs_map] at hy; obtain ⟨x, _, rfl⟩ := List.mem_map.1 hy; simp) (okAll_encs _)
  simp [fzvs, fzs, f1, f2, f3, enc]

theorem zero_fits8 : Dat.zero.fits := by
  unfold Dat.zero
  rw [Dat.fits]
  exact ⟨⟨by omega, by simp, by simp, by simp, by simp⟩, trivial, trivial⟩
theorem pln_fits8 {d : Dat} (h : d.fits) : (pln d).fits := by
  unfold pln
  split
  · exact plain_fits d h
  · exact zero_fits8
theorem pln_or (a : Dat) : chk (pln a) = 0 ∨ pln a = .zero := by
  by_cases h : chk a = 0
  · exact .inl (pln_chk h).2.1
  · exact .inr (if_neg h)
theorem cln_or (a : Dat) : chk (cln a) = 0 ∨ cln a = .zero := by
  unfold cln
  split
  · exact .inl ‹_›
  · exact .inr rfl
theorem cln_fits {a : Dat} (h : a.fits) : (cln a).fits := by
  unfold cln
  split
  · exact h
  · exact zero_fits8
set_option maxHeartbeats 8000000 in
theorem g8 (a b : Dat) (ha : a.fits) (hb : b.fits) : Gives Try.prog cs 8 [enc a, enc b] (.sc (.bool true)) := by
  refine gives_run Try.func8 rfl rfl rfl rfl (by simp) (by simp [Try.f8]) (by simp [Try.f8]) fun m => ?_
  simp only [Try.f8, show cs.keepRes 8 = false from rfl]
  simp only [toArray_mk, append_app, List.cons_append, List.nil_append]
  simp [(cs_gives g10).go, (cs_gives (g11 a)).go]
  cases h1 : sml a with
  | false => simp [(cs_gives g10).go]
  | true =>
    simp [(cs_gives (g11 b)).go]
    cases h2 : sml b with
    | false => simp [(cs_gives g10).go]
    | true =>
      simp [(cs_gives (g32 a ha)).go]
      refine goH_of (wph_lim (live33 a ha _) rfl) ?_
      rintro v m1 hlv
      have hcf := cln_fits ha
      have hali : ali (cln a) (cln a) = true := ali_ok (cln_or a)
      obtain ⟨c, hc⟩ : ∃ c, c = cln a := ⟨_, rfl⟩
      rw [← hc] at hlv hcf hali
      obtain ⟨K, N, S, M, L, T⟩ := c
      obtain ⟨kp, vM, vL, vT, rfl, hM, hL, hT, d1, d2, d3⟩ := hlv
      have hMo : vM.okc = true ∧ vM.cells = [vM] := by
        rcases hM with ⟨_, rfl⟩ | h
        · exact ⟨rfl, rfl⟩
        · exact h.okc
      have hLo := hL.okc
      have hTo := hT.okc
      have n1 := kp.next
      simp at n1
      have b0 := kp.get m.next (by simp <;> omega)
      have b1 := kp.get (m.next + 1) (by simp <;> omega)
      have b2 := kp.get (m.next + 2) (by simp)
      simp at b0 b1 b2
      have zl : 6 ≤ zeroCells.length := by decide
      have zd : List.drop 6 zeroCells = [] := rfl
      have ownM : ∀ j, owns vM j → m.next + 3 ≤ j ∧ j < m1.next := by
        intro j hj
        rcases hM with ⟨_, rfl⟩ | h
        · exact hj.elim
        · simpa using acc_lt h j hj
      have ownL : ∀ j, owns vL j → m.next + 3 ≤ j ∧ j < m1.next := by
        intro j hj
        simpa using acc_lt hL j hj
      have ck : (enc a).cells.length = 6 := by simp
      simp [hMo, hLo, hTo, zl, zd]
      -- behind the copy
      obtain ⟨m2, hm2⟩ : ∃ m2, m2 = (m1.new zeroCells false).set m1.next [int K, int N, .sc (.string ⟨⟨S⟩⟩), vM, vL, vT] := ⟨_, rfl⟩
      have k2 : Kp m1 m2 := by rw [hm2]; exact (Kp.new _ _ _).set (Nat.le_refl _) _
      have n2 : m2.next = m1.next + 1 := by rw [hm2]; rfl
      have g6 : has m2 m1.next [int K, int N, .sc (.string ⟨⟨S⟩⟩), vM, vL, vT] := by rw [hm2]; exact ⟨by simp, m1.clock + 2, by simp⟩
      rw [← hm2]
      clear hm2
      have c0 := k2.get m.next (by omega)
      have c1 := k2.get (m.next + 1) (by omega)
      have c2 := k2.get (m.next + 2) (by omega)
      rw [b0] at c0
      rw [b1] at c1
      rw [b2] at c2
      obtain ⟨l6, v6, e6⟩ := g6
      have hM2 : M = [] ∧ vM = .emp 1 ∨ Acc _ m2 1 false (M.map int) vM := hM.imp id fun h => h.kp k2
      have hL2 := hL.kp k2
      have hT2 := hT.kp k2
      have hz := live_fz (m1 := m1) (K := K) (N := N) (S := S) hM2 hL2 hT2 d1 d2 d3 (Dat.mk K N S M L T)
      have r25 := ro25 hcf hcf hz
      rw [hali] at r25
      have p25 := ro25 (pln_fits8 ha) (pln_fits8 ha) (m := m2) (v := enc (pln a)) (by simp [fzvs])
      rw [show ali (pln a) (pln a) = true from ali_ok (pln_or a)] at p25
      refine go_drawD (by kernel_rfl) ?_
      simp [c0, c1, c2, e6, (cs_gives (g16 a ha)).go, (cs_gives (g34 a ha)).go, (cs_gives (g17 a ha)).go, (cs_gives (g35 a ha)).go, (cs_gives (g31 a b ha hb)).go, (cs_gives (g26 a b ha hb)).go, (cs_gives (g36 a ha)).go, (cs_gives (g37 a ha)).go, ← hc, r25.go, p25.go]
      refine goM_of (l := [(1, 2), (7, 8), (15, 16), (15, 17), (29, 30)]) (by kernel_rfl) (?_ : List.all _ _ = true) ?_
      · simp [metAtD, metOkD, rank, verKeptD, Region.wanted, Mem.ver, c0, c1, c2, e6]
      have hlen : ∀ m', abuiltin Try.prog .len #[22] 3 [vM] m' = some (int M.length, m') := by
        intro m'
        rcases hM with ⟨rfl, rfl⟩ | ⟨h1, rfl⟩ | ⟨h, id, w, rfl, h2, h3, h4⟩
        · exact alen_emp Try.underlying22
        · have : M = [] := by simpa using h1
          rw [this]; exact alen_emp Try.underlying22
        · rw [alen_sl Try.underlying22]; simp
      have kp2 : Kp m m2 := by
        refine Kp.trans ?_ k2
        exact Kp.trans ((((Kp.new _ _ _).newr _ _).newr _ _).set (by omega) _) kp
      let A : Sl → Mem → Prop := fun s m' => Kp m m' ∧ s.at 2 = .ptr m.next 0 ∧ s.at 5 = .ptr (m.next + 2) 0 ∧ s.at 6 = .ptr m1.next 0 ∧ s.at 78 = int M.length ∧ s.at 79 = int 0 ∧ has m' m.next (enc a).cells ∧ has m' (m.next + 2) (enc (.mk K N S M L T)).cells ∧ has m' m1.next [int K, int N, .sc (.string ⟨⟨S⟩⟩), vM, vL, vT] ∧ (M = [] ∧ vM = .emp 1 ∨ Acc m m' 1 false (M.map int) vM)
      have hbase : m.next ≤ (((m.new (enc a).cells false).new (enc b).cells false).new (enc (cln a)).cells false).next := by simp <;> omega
      have hA0 : has m2 m.next (enc a).cells ∧ has m2 (m.next + 2) (enc (.mk K N S M L T)).cells ∧ has m2 m1.next [int K, int N, .sc (.string ⟨⟨S⟩⟩), vM, vL, vT] ∧ (M = [] ∧ vM = .emp 1 ∨ Acc m m2 1 false (M.map int) vM) := by
        refine ⟨⟨by omega, _, c0⟩, ⟨by omega, _, c2⟩, ⟨l6, _, e6⟩, hM2.imp id fun h => acc_base h ?_⟩
        simp <;> omega
      have hml : M.length < 2 ^ 21 := (alone_fits hcf).m
      rcases hL2 with ⟨hl0, rfl⟩ | ⟨hne, id, w, rfl, i2, i3, i4⟩
      simp [e6, hlen]
      refine go_facts A ⟨kp2, by simp, by simp, by simp, by simp, by simp, hA0⟩ ?_
      rotate_left
      obtain ⟨x, L', rfl⟩ : ∃ x L', L = x :: L' := by
        cases L with
        | nil => simp [encs] at hne
        | cons x L' => exact ⟨x, L', rfl⟩
      obtain ⟨K', N', S', M', L2, T'⟩ := x
      have oid := ownL id rfl
      have q1 : id ≠ m1.next := by omega
      have q2 : id ≠ m.next := by omega
      have q3 : id ≠ m.next + 2 := by omega
      have ix : aindexAddr Try.prog 23 (.sl id 0 (L'.length + 1) 6 true none) (int 0) = some (.ptr id (0 + 0 * 6)) := aindexAddr_sl (i := 0) Try.underlying23 tsize25 (by omega)
      have i5 : m2.get id = some (.cells (int K' :: int N' :: .sc (.string ⟨⟨S'⟩⟩) :: .lst (M'.map int) :: .lst (encs L2) :: .lst (encs T') :: flat (encs L')) false w) := by
        rw [i4]; simp [encs, flat_cons, enc]
      have hA1 : ∀ c1 c2 : List AV, Kp m ((m2.set id c1).set id c2) ∧ has ((m2.set id c1).set id c2) m.next (enc a).cells ∧ has ((m2.set id c1).set id c2) (m.next + 2) (enc (.mk K N S M (.mk K' N' S' M' L2 T' :: L') T)).cells ∧ has ((m2.set id c1).set id c2) m1.next [int K, int N, .sc (.string ⟨⟨S⟩⟩), vM, .sl id 0 (encs (.mk K' N' S' M' L2 T' :: L')).length 6 true none, vT] ∧ (M = [] ∧ vM = .emp 1 ∨ Acc m ((m2.set id c1).set id c2) 1 false (M.map int) vM) := by
        intro c1 c2
        have kx : KpX (fun j => j = id) m2 ((m2.set id c1).set id c2) := (((KpX.refl (fun k => k = id) m2).set (id := id) rfl _).set (id := id) rfl _)
        obtain ⟨x1, x2, x3, x4⟩ := hA0
        exact ⟨kx.toKp kp2 fun j e => by omega, x1.kept kx (fun e => q2 e.symm), x2.kept kx (fun e => q3 e.symm), x3.kept kx (fun e => q1 e.symm), x4.imp (fun h => h) fun h => acc_keptX h kx fun j hj e => by rw [e] at hj; exact d1 _ hj rfl⟩
      simp [encs] at e6
      obtain ⟨N2, hx⟩ := abin_xor 2 (.tmp 68) (.const (.int .i64 1)) N' 1
      simp [e6, hlen, ix, i5, q1, abuild, placesOf, fillAt, encs, hx, Ne.symm q1]
      refine go_facts A ⟨(hA1 _ _).1, by simp, by simp, by simp, by simp, by simp, (hA1 _ _).2⟩ ?_
      all_goals
        clear e6 hA0
        rintro s m3 ⟨kp3, s2, s5, s6, s78, s79, f0, f2, f6, fM⟩
        generalize hvL : (AV.cells _ : List AV) = zzz at f2
        refine go_count 79 M.length (fun i s m' => Kp m m' ∧ has m' m.next (enc a).cells ∧ has m' (m.next + 2) zzz ∧ (∃ vL, has m' m1.next [int K, int N, .sc (.string ⟨⟨S⟩⟩), vM, vL, vT]) ∧ ∃ M' : List Int, M'.length = M.length ∧ (M' = [] ∧ vM = .emp 1 ∨ Acc m m' 1 false (M'.map int) vM)) s79 (by omega) ⟨kp3, f0, f2, ⟨_, f6⟩, M, rfl, fM⟩ ?_
        rintro i s' m4 hi e79 ⟨kp4, h0, h2', ⟨vL', h6⟩, M', hM', fM'⟩ hs hw Q' hn he
        have t2 : s'.at 2 = .ptr m.next 0 := (hs 2 (by kernel_rfl)).trans s2
        have t5 : s'.at 5 = .ptr (m.next + 2) 0 := (hs 5 (by kernel_rfl)).trans s5
        have t6 : s'.at 6 = .ptr m1.next 0 := (hs 6 (by kernel_rfl)).trans s6
        have t78 : s'.at 78 = int M.length := (hs 78 (by kernel_rfl)).trans s78
        clear hs
        obtain ⟨y0, y0v, y0e⟩ := h0
        obtain ⟨y2, y2v, y2e⟩ := h2'
        obtain ⟨y6, y6v, y6e⟩ := h6
        simp [e79, t78]
        refine goB_split (fun h => ?_) fun h => ?_
        · have hlt : i < M.length := by simpa using h
          rcases fM' with ⟨rfl, _⟩ | ⟨h1, _⟩ | ⟨hne', id', w', rfl, j2, j3, j4⟩
          · simp at hM'; omega
          · have : M'.length = 0 := by rw [← List.length_map (f := int), h1]; rfl
            omega
          · have om := ownM id' rfl
            have p1 : id' ≠ m1.next := by omega
            have p2 : id' ≠ m.next := by omega
            have p3 : id' ≠ m.next + 2 := by omega
            obtain ⟨z, hz1⟩ : ∃ z, M'[i]? = some z := ⟨_, List.getElem?_eq_getElem (by omega)⟩
            obtain ⟨c', hx'⟩ := abin_xor 3 (.tmp 86) (.const (.int .i64 1)) z 1
            have ix' : aindexAddr Try.prog 22 (.sl id' 0 M'.length 1 false none) (int i) = some (.ptr id' (0 + i * 1)) := aindexAddr_sl Try.underlying22 tsize3 (by omega)
            have hf : (flat (M'.map int))[i]? = some (int z) := by rw [flat_ints, List.getElem?_map, hz1]; rfl
            rw [flat_ints] at j4 hf
            simp [e79, t6, y6e, ix', j4, hx', hw, hz1, show i + 1 ≤ M'.length from by omega]
            have kx : KpX (fun j => j = id') m4 (m4.set id' (List.take i (List.map int M') ++ int c' :: List.drop (i + 1) (List.map int M'))) := (KpX.refl (fun k => k = id') m4).set (id := id') rfl _
            refine hn _ _ hlt (by simp) ⟨kx.toKp kp4 fun j e => by omega, (show has m4 _ _ from ⟨y0, y0v, y0e⟩).kept kx (fun e => p2 e.symm), (show has m4 _ _ from ⟨y2, y2v, y2e⟩).kept kx (fun e => p3 e.symm), ⟨vL', (show has m4 _ _ from ⟨y6, y6v, y6e⟩).kept kx (fun e => p1 e.symm)⟩, M'.take i ++ c' :: M'.drop (i + 1), ?_, .inr (.inr ⟨?_, id', m4.clock + 1, ?_, j2, j3, ?_⟩)⟩
            · simp; omega
            · simp
            · simp; omega
            · simp [flat_ints]
              rw [← List.map_take, ← List.map_drop]
              have : List.map int (List.take i M') ++ AV.sc (Value.int IntKind.i64 c') :: List.map int (List.drop (i + 1) M') = List.map int (List.take i M' ++ c' :: List.drop (i + 1) M') := by simp
              rw [this, flat_ints]
        · simp
          refine he _ _ _ (by simp) ?_
          by_cases h0 : chk a = 0
          · have hca : cln a = a := if_pos h0
            rw [hc, hca] at hvL
            subst hvL
            have c26 := cs_gives (g26 a a ha ha)
            rw [show sam a a = true from sam_refl h0] at c26
            simp [t2, t5, y0e, y2e, (cs_gives (g15 a ha)).go, h0, c26.go]
            exact kp4
          · simp [t2, t5, y0e, y2e, (cs_gives (g15 a ha)).go, h0, undefV, undef]
            exact kp4
end Go.Proofs.Ytipmoeclkamciaa
