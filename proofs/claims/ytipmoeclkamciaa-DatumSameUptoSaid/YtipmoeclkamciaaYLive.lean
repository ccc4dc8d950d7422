import Derived.Test.YtipmoeclkamciaaYRef6
import Derived.Test.YtipmoeclkamciaaYTop
/- One in memory of its own, that may be written. -/
set_option linter.unusedSimpArgs false
set_option linter.unusedVariables false
set_option linter.unusedSectionVars false
namespace Go.Proofs.Ytipmoeclkamciaa
open Go.V
attribute [local simp] Nat.add_assoc

/-- The settings: 62 alone; 33 and 47. -/
noncomputable def cr : Cfg := ⟨fun _ => false, fun f => f == 62, fun f => if f == 62 then none else some (limH Try.prog cf f), fun _ => 0⟩
noncomputable def cl : Cfg := ⟨fun _ => false, fun f => f == 33 || f == 47, fun f => if f == 33 || f == 47 then none else if f == 48 then some (cloneL Try.prog f) else if f == 62 then some (limH Try.prog cr f) else some (limH Try.prog cf f), fun _ => 0⟩

theorem told_cf' (f : FuncId) (h : List AV → Mem → Option (AV × Mem)) (e : cf.hook f = some h) : ByHand Try.prog f h := by
  have : f = 45 ∨ f = 48 := by
    unfold cf at e
    dsimp only at e
    split at e
    · rename_i hc; simpa using hc
    · cases e
  rcases this with rfl | rfl
  · have : h = cloneP Try.prog 45 := by cases e; rfl
    subst this
    exact ⟨fun B W args m v m' e2 hv => cloneP_sound follows_mixed cl45 e2 hv, fun args m v m' e2 => cloneP_ver (W := default) e2⟩
  · have : h = cloneP Try.prog 48 := by cases e; rfl
    subst this
    exact ⟨fun B W args m v m' e2 hv => cloneP_sound follows_mixed cl48 e2 hv, fun args m v m' e2 => cloneP_ver (W := default) e2⟩
theorem told_cr (f : FuncId) (h : List AV → Mem → Option (AV × Mem)) (e : cr.hook f = some h) : ByHand Try.prog f h := by
  unfold cr at e
  dsimp only at e
  split at e
  · cases e
  · cases e; exact told_lim follows_mixed told_cf' f
theorem told_cl (f : FuncId) (h : List AV → Mem → Option (AV × Mem)) (e : cl.hook f = some h) : ByHand Try.prog f h := by
  unfold cl at e
  dsimp only at e
  split at e
  · cases e
  · split at e
    · rename_i h1 h2
      have h2 : f = 48 := by simpa using h2
      subst h2
      cases e
      exact ⟨fun B W args m v m' e2 hv => cloneL_sound follows_mixed cl48 e2 hv, fun args m v m' e2 => cloneL_ver default e2⟩
    · split at e
      · cases e; exact told_lim follows_mixed told_cr f
      · cases e; exact told_lim follows_mixed told_cf' f

theorem cr_eh {f : FuncId} {args : List AV} {r : AV} {m m' : Mem} (h : EH Try.prog cf (.func f) args m r m') (hf : cr.hook f = some (limH Try.prog cf f) := by rfl) : EH Try.prog cr (.func f) args m r m' := eh_hook hf (lim_eq h)
theorem cl_gives {f : FuncId} {args : List AV} {r : AV} (h : Gives Try.prog cf f args r) (hf : cl.hook f = some (limH Try.prog cf f) := by rfl) : Gives Try.prog cl f args r := fun m0 args0 m hz => eh_hook hf (lim_eq (h m0 args0 m hz))
theorem wph_lim {c1 c2 : Cfg} {f : FuncId} {args : List AV} {m : Mem} {K : AV → Mem → Prop} (k : wph Try.prog c2 (.func f) args m K) (h : c1.hook f = some (limH Try.prog c2 f)) : wph Try.prog c1 (.func f) args m K := by
  obtain ⟨v, m1, a, b⟩ := k
  exact ⟨v, m1, eh_hook h (lim_eq a), b⟩

theorem own_listR (L : List Dat) (hf : fitss L) (hl : L.length < 2 ^ 21) (m : Mem) (B : Nat) (hB : has m B [.fn (.func 48) [] []]) : wph Try.prog cr (.func 62) [.lst (encs L), .ptr B 0] m fun v m' => Acc m m' 6 true (encs L) v ∧ Kp m m' := by
  refine wph_go Try.func62 rfl rfl (by simp [Try.f62]) (by simp [Try.f62]) fun Q hQ => ?_
  simp only [Try.f62, show cr.keepRes 62 = true from rfl, show cr.keepArgs 62 = false from rfl] at hQ ⊢
  simp
  refine go_count 9 L.length (fun i s m' => Acc m m' 6 true (encs (L.take i)) (s.at 4) ∧ Kp m m') (by simp) (by omega) ⟨by simpa [encs] using Acc.nil, by simp⟩ ?_
  rintro i s m' hi e9 ⟨hacc, hkp⟩ hsame hw Q' hn he
  have e7 : s.at 7 = .lst (encs L) := (hsame 7 (by kernel_rfl)).trans (by simp)
  have e8 : s.at 8 = int L.length := (hsame 8 (by kernel_rfl)).trans (by simp)
  have e1 : s.at 1 = .ptr B 0 := (hsame 1 (by kernel_rfl)).trans (by simp)
  simp [e9, e8]
  refine goB_split (fun h => ?_) fun h => ?_
  · have hlt : i < L.length := by simpa using h
    obtain ⟨x, hx⟩ : ∃ x, L[i]? = some x := ⟨_, List.getElem?_eq_getElem hlt⟩
    have hxe : (encs L)[i]? = some (enc x) := by rw [encs_get, hx]; rfl
    have hxm : x ∈ L := List.mem_of_getElem? hx
    obtain ⟨bl, bv, be⟩ := hB.kp hkp
    have bn : B ≠ m'.next := by omega
    simp [e7, e9, aindexAddr_lst Try.underlying23 tsize25 hxe (enc_cells_length x), e1, be, bn]
    rw [(cr_eh (g47 x (fits_mem hf hxm) _)).go]
    have hsrc := src_one (m := ((m'.new zeroCells false).set m'.next (enc x).cells).new (enc x).cells false) (id := m'.next + 1) (c := some 1) (k := 6) (ag := true) (x := enc x) (w := m'.clock + 3) (f := false) rfl (by simp) (by simp) (by simp)
    have kp2 : Kp m' (((m'.new zeroCells false).set m'.next (enc x).cells).new (enc x).cells false) := by simp
    obtain ⟨v', m3, h1, h2, h3⟩ := (hacc.kp kp2).app (okAll_encs _) el23 (zs := [enc x]) (zs' := [enc x]) (List.cons_ne_nil _ _) (by simp [okAll_cons, okAll_nil]) (by simp [fzvs]) (.refl _) (by simp; omega) (hkp.trans kp2) rfl
    simp [abuildSlice, fillAt, zeros, abuiltin, hsrc, h1, e9, hw]
    refine hn _ _ hlt (by simp) ⟨?_, h3⟩
    have ht : L.take (i + 1) = L.take i ++ [x] := by
      obtain ⟨h1, h2⟩ := List.getElem?_eq_some_iff.1 hx
      rw [List.take_succ_eq_append_getElem h1, h2]
    rw [ht]
    simpa [encs_map] using h2
  · simp
    refine he _ _ _ (by simp) ?_
    have hle : i = L.length := by simp at h hi ⊢; omega
    subst hle
    simp
    refine hQ _ _ _ ⟨.inr rfl, _, rfl, ?_⟩
    rw [List.take_length] at hacc
    simpa [oneOf] using ⟨hacc, hkp⟩

theorem live48 (M : List Int) (hM : M.length < 2 ^ 21) (m : Mem) : wph Try.prog cl (.func 48) [.lst (M.map int)] m fun v m' => (M = [] ∧ v = .emp 1 ∨ Acc m m' 1 false (M.map int) v) ∧ Kp m m' := by
  cases M with
  | nil =>
    refine ⟨.emp 1, m.skip, eh_hook rfl rfl, .inl ⟨rfl, rfl⟩, ?_⟩
    unfold Mem.skip
    exact (Kp.new _ _ _).kill (Nat.le_refl _)
  | cons x l =>
    have h0 : EH Try.prog cf0 (.func 48) [.lst (int x :: l.map int)] m (.sl (m.next + 1) 0 (l.length + 1) 1 false none) ((m.new [] false).new (int x :: l.map int) false) := by
      refine eh_of ?_
      refine wph_go Try.func48 rfl rfl (by simp [Try.f48]) (by simp [Try.f48]) fun Q hQ => ?_
      simp only [Try.f48, show cf0.keepRes 48 = true from rfl, show cf0.keepArgs 48 = true from rfl] at hQ ⊢
      have e1 := nilTest_cons (T := 22) Try.underlying22 (x := int x) (l := l.map int)
      have e2 := aapp_full (m := m.new [] false) (m' := m.new [] false) (ys := int x :: l.map int) (ys' := int x :: l.map int) (id := m.next) (v := m.clock + 1) (ag' := false) el22 (by simp) (by simp [okAll_cons]) (by simp [fzvs]) (by simp) (by simp at hM ⊢; omega)
      simp [abin, plain, e1, abuildSlice, zeros, fillAt, abuiltin, srcOf, elemsOf, e2]
      refine hQ _ _ _ ⟨.inr rfl, _, rfl, ?_⟩
      simp [oneOf, flat_cons, flat_ints]
    refine ⟨_, _, eh_hook rfl (by exact lim_eq h0), .inr (.inr ⟨by simp, m.next + 1, m.clock + 2, by simp, by omega, by simp, by simp [flat_cons, flat_ints]⟩), (Kp.new _ _ _).newr _ _⟩

theorem acc_base {a b m' : Mem} {k : Nat} {ag : Bool} {ys : List AV} {v : AV} (h : Acc a m' k ag ys v) (hb : b.next ≤ a.next) : Acc b m' k ag ys v := by
  rcases h with h | ⟨h, id, w, h1, h2, h3, h4⟩
  · exact .inl h
  · exact .inr ⟨h, id, w, h1, Nat.le_trans hb h2, h3, h4⟩

/-- A datum that may be written. -/
def Live (m m' : Mem) : Dat → AV → Prop
  | .mk K N S M L T, v => Kp m m' ∧ ∃ vM vL vT, v = .agg [int K, int N, .sc (.string ⟨⟨S⟩⟩), vM, vL, vT] ∧ (M = [] ∧ vM = .emp 1 ∨ Acc m m' 1 false (M.map int) vM) ∧ Acc m m' 6 true (encs L) vL ∧ Acc m m' 6 true (encs T) vT ∧ (∀ j, owns vM j → ¬ owns vL j) ∧ (∀ j, owns vM j → ¬ owns vT j) ∧ (∀ j, owns vL j → ¬ owns vT j)

theorem live47 (d : Dat) (hd : d.fits) (m : Mem) : wph Try.prog cl (.func 47) [enc d, .fn (.func 48) [] []] m fun v m' => Live m m' d v := by
  obtain ⟨K, N, S, M, L, T⟩ := d
  have ft := alone_fits hd
  rw [Dat.fits] at hd
  refine wph_go Try.func47 rfl rfl (by simp [Try.f47]) (by simp [Try.f47]) fun Q hQ => ?_
  simp only [Try.f47, show cl.keepRes 47 = true from rfl, show cl.keepArgs 47 = false from rfl, enc] at hQ ⊢
  simp
  refine goH_of (live48 M ft.m _) ?_
  rintro vM m1 ⟨hM, k1⟩
  have hMo : vM.okc = true ∧ vM.cells = [vM] := by
    rcases hM with ⟨_, rfl⟩ | h
    · exact ⟨rfl, rfl⟩
    · exact h.okc
  have n1 := k1.next
  simp at n1
  have b0 := k1.get m.next (by simp <;> omega)
  have b1 := k1.get (m.next + 1) (by simp <;> omega)
  have b2 := k1.get (m.next + 2) (by simp)
  simp at b0 b1 b2
  have ownM : ∀ j, owns vM j → m.next + 3 ≤ j ∧ j < m1.next := by
    intro j hj
    rcases hM with ⟨_, rfl⟩ | h
    · exact hj.elim
    · simpa using acc_lt h j hj
  have e1 : m.next ≠ m.next + 1 := by omega
  simp [b0, b1, hMo]
  -- behind the store
  obtain ⟨m2, hm2⟩ : ∃ m2, m2 = m1.set m.next [int K, int N, .sc (.string ⟨⟨S⟩⟩), vM, .lst (encs L), .lst (encs T)] := ⟨_, rfl⟩
  rw [← hm2]
  have k2 : KpX (fun j => j = m.next) m1 m2 := by rw [hm2]; exact (KpX.refl (fun k => k = m.next) m1).set (id := m.next) rfl _
  have hn2 : m2.next = m1.next := by rw [hm2]; rfl
  have c0 : has m2 m.next [int K, int N, .sc (.string ⟨⟨S⟩⟩), vM, .lst (encs L), .lst (encs T)] := by rw [hm2]; exact ⟨by simp; omega, m1.clock + 1, by simp⟩
  have c1 : has m2 (m.next + 1) [.fn (.func 48) [] []] := ⟨by omega, _, by rw [k2.get _ (by omega) (by omega)]; exact b1⟩
  have c2 : has m2 (m.next + 2) zeroCells := ⟨by omega, _, by rw [k2.get _ (by omega) (by omega)]; exact b2⟩
  clear hm2
  refine go_drawD (by kernel_rfl) ?_
  obtain ⟨l0, v0, g0⟩ := c0
  simp [g0]
  refine goH_of (wph_lim (own_listR L hd.2.1 ft.l _ (m.next + 1) c1) rfl) ?_
  rintro vL m3 ⟨hL, k3⟩
  have g3 := k3.get m.next l0
  rw [g0] at g3
  simp [g3]
  refine goH_of (wph_lim (own_listR T hd.2.2 ft.t _ (m.next + 1) (c1.kp k3)) rfl) ?_
  rintro vT m4 ⟨hT, k4⟩
  have g4 := k4.get m.next (Nat.lt_of_lt_of_le l0 k3.next)
  rw [g3] at g4
  have hLo := hL.okc
  have hTo := hT.okc
  simp [g4, hLo, hTo]
  refine goM_of (l := [(3, 6)]) (by kernel_rfl) (?_ : List.all _ _ = true) ?_
  · simp [metAtD, metOkD, rank, verKeptD, Region.wanted, Mem.ver, g0, g3, g4]
  have c4 := (c2.kp k3).kp k4
  obtain ⟨l4, v4, g5⟩ := c4
  have e5 : m.next + 2 ≠ m.next := by omega
  have n3 := k3.next
  have n4 := k4.next
  simp [g5, e5]
  refine hQ _ _ _ ⟨.inr rfl, [.agg [int K, int N, .sc (.string ⟨⟨S⟩⟩), vM, vL, vT]], by simp [hMo, hLo, hTo], ?_⟩
  obtain ⟨m5, hm5⟩ : ∃ m5, m5 = ((m4.set m.next [int K, int N, .sc (.string ⟨⟨S⟩⟩), vM, vL, .lst (encs T)]).set m.next [int K, int N, .sc (.string ⟨⟨S⟩⟩), vM, vL, vT]).set (m.next + 2) [int K, int N, .sc (.string ⟨⟨S⟩⟩), vM, vL, vT] := ⟨_, rfl⟩
  have k5 : KpX (fun j => j = m.next ∨ j = m.next + 2) m4 m5 := by rw [hm5]; exact (((KpX.refl (fun k => k = m.next ∨ k = m.next + 2) m4).set (id := m.next) (.inl rfl) _).set (id := m.next) (.inl rfl) _).set (id := m.next + 2) (.inr rfl) _
  have ownL := acc_lt hL
  have ownT := acc_lt hT
  have kp1 : Kp m m1 := Kp.trans (((Kp.new _ _ _).newr _ _).newr _ _) k1
  have kp2 := k2.toKp kp1 (fun j e => by omega)
  have kp5 := k5.toKp ((kp2.trans k3).trans k4) (fun j e => by omega)
  have r : Live m m5 (.mk K N S M L T) (.agg [int K, int N, .sc (.string ⟨⟨S⟩⟩), vM, vL, vT]) := by
    refine ⟨kp5, vM, vL, vT, rfl, ?_, ?_, ?_, fun j a b => ?_, fun j a b => ?_, fun j a b => ?_⟩
    · rcases hM with h | h
      · exact .inl h
      · refine .inr (acc_base ?_ (a := (((m.new [int K, int N, .sc (.string ⟨⟨S⟩⟩), .lst (M.map int), .lst (encs L), .lst (encs T)] false).new [.fn (.func 48) [] []] false).new zeroCells false)) (by simp <;> omega))
        refine acc_keptX ((acc_keptX h k2 fun j hj e => ?_).kp (k3.trans k4)) k5 fun j hj e => ?_
        · have := (ownM j hj).1; omega
        · have := (ownM j hj).1; omega
    · exact acc_base (acc_keptX (hL.kp k4) k5 fun j hj e => by have := (ownL j hj).1; omega) (by omega)
    · exact acc_base (acc_keptX hT k5 fun j hj e => by have := (ownT j hj).1; omega) (by omega)
    · have := (ownM j a).2; have := (ownL j b).1; omega
    · have := (ownM j a).2; have := (ownT j b).1; omega
    · have := (ownL j a).2; have := (ownT j b).1; omega
  rw [← hm5]
  simpa [oneOf] using r
theorem live33 (a : Dat) (ha : a.fits) (m : Mem) : wph Try.prog cl (.func 33) [enc a] m fun v m' => Live m m' (cln a) v := by
  refine wph_go Try.func33 rfl rfl (by simp [Try.f33]) (by simp [Try.f33]) fun Q hQ => ?_
  simp only [Try.f33, show cl.keepRes 33 = true from rfl, show cl.keepArgs 33 = false from rfl] at hQ ⊢
  simp [(cl_gives (g14 a ha)).go]
  by_cases h0 : chk a = 0
  · simp [h0]
    refine goH_of (live47 a ha _) ?_
    rintro v m1 hlv
    have hc : cln a = a := by unfold cln; rw [if_pos h0]
    rw [hc] at hQ
    obtain ⟨K, N, S, M, L, T⟩ := a
    obtain ⟨kp, vM, vL, vT, rfl, hM, hL, hT, d1, d2, d3⟩ := hlv
    have hMo : vM.okc = true ∧ vM.cells = [vM] := by
      rcases hM with ⟨_, rfl⟩ | h
      · exact ⟨rfl, rfl⟩
      · exact h.okc
    have hLo := hL.okc
    have hTo := hT.okc
    have n1 := kp.next
    simp at n1
    have b1 := kp.get (m.next + 1) (by simp)
    simp at b1
    simp [b1, hMo, hLo, hTo]
    refine hQ _ _ _ ⟨.inr rfl, [.agg [int K, int N, .sc (.string ⟨⟨S⟩⟩), vM, vL, vT]], by simp [hMo, hLo, hTo], ?_⟩
    obtain ⟨m5, hm5⟩ : ∃ m5, m5 = m1.set (m.next + 1) [int K, int N, .sc (.string ⟨⟨S⟩⟩), vM, vL, vT] := ⟨_, rfl⟩
    have k5 : KpX (fun j => j = m.next + 1) m1 m5 := by rw [hm5]; exact (KpX.refl (fun k => k = m.next + 1) m1).set (id := m.next + 1) rfl _
    have kp0 : Kp m m1 := Kp.trans ((Kp.new _ _ _).newr _ _) kp
    have hb : m.next ≤ ((m.new (enc (.mk K N S M L T)).cells false).new zeroCells false).next := by simp <;> omega
    have r : Live m m5 (.mk K N S M L T) (.agg [int K, int N, .sc (.string ⟨⟨S⟩⟩), vM, vL, vT]) := by
      refine ⟨k5.toKp kp0 fun j e => by omega, vM, vL, vT, rfl, ?_, ?_, ?_, d1, d2, d3⟩
      · rcases hM with h | h
        · exact .inl h
        · exact .inr (acc_base (acc_keptX h k5 fun j hj e => by have := (acc_lt h j hj).1; simp at this; omega) hb)
      · exact acc_base (acc_keptX hL k5 fun j hj e => by have := (acc_lt hL j hj).1; simp at this; omega) hb
      · exact acc_base (acc_keptX hT k5 fun j hj e => by have := (acc_lt hT j hj).1; simp at this; omega) hb
    rw [← hm5]
    simpa [oneOf] using r
  · simp [h0, zeroCells, abuild, placesOf, fillAt]
    have hc : cln a = .zero := by unfold cln; rw [if_neg h0]
    rw [hc] at hQ
    refine hQ _ _ _ ⟨.inr rfl, [.agg [int 0, int 0, .sc (.string ⟨⟨[]⟩⟩), .emp 0, .emp 0, .emp 0]], ?_, ?_⟩
    · simp
    simp only [oneOf, Live, Dat.zero, if_true]
    exact ⟨((Kp.new _ _ _).newr _ _).set (by omega) _, _, _, _, rfl, .inr Acc.nil, Acc.nil, Acc.nil, fun j h => h.elim, fun j h => h.elim, fun j h => h.elim⟩
end Go.Proofs.Ytipmoeclkamciaa
