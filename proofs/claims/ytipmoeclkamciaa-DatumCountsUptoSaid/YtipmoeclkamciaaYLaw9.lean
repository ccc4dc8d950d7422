import Derived.Test.YtipmoeclkamciaaYPlain
/- DatumCounts: the walk, and the plain law. -/
set_option linter.unusedSimpArgs false
set_option linter.unusedVariables false
set_option linter.unusedSectionVars false
namespace Go.Proofs.Ytipmoeclkamciaa
open Go.V
attribute [local simp] Nat.add_assoc

theorem zero_fits : Dat.zero.fits := by
  unfold Dat.zero
  rw [Dat.fits]
  exact ⟨⟨by omega, by simp, by simp, by simp, by simp⟩, trivial, trivial⟩
theorem pln_fits {d : Dat} (h : d.fits) : (pln d).fits := by
  unfold pln
  split
  · exact plain_fits d h
  · exact zero_fits
theorem go30 {d : Dat} {N : Nat} {Q : Ex → Sl → Mem → Prop} {t : Option Tmp} {k : List It} {s : Sl} {m : Mem} : goH Try.prog cw N Q (.func 30) [enc d] t k s m = goP Try.prog cw N Q (aput N s t (.fn (.func 52) [] [.ptr m.next 0])) k (m.new (enc d).cells false) := (e30 d _).go
theorem go29 {d : Dat} (hd : d.fits) {k : Nat} (hk : k ≤ 2 ^ 20) {N : Nat} {Q : Ex → Sl → Mem → Prop} {t : Option Tmp} {c : List It} {s : Sl} {m : Mem} {db : Nat} (h : has m db (enc d).cells) : goH Try.prog cw N Q (.func 29) [.fn (.func 52) [] [.ptr db 0], int k] t c s m = goP Try.prog cw N Q (aput N s t (.lst (encs ((parts d).take k)))) c m := (e29 d hd k hk m db h).go
theorem go29a {d : Dat} (hd : d.fits) {N : Nat} {Q : Ex → Sl → Mem → Prop} {t : Option Tmp} {c : List It} {s : Sl} {m : Mem} {db : Nat} (h : has m db (enc d).cells) : goH Try.prog cw N Q (.func 29) [.fn (.func 52) [] [.ptr db 0], int 1048576] t c s m = goP Try.prog cw N Q (aput N s t (.lst (encs (parts d)))) c m := by
  have := go29 hd (k := 1048576) (by omega) h (N := N) (Q := Q) (t := t) (c := c) (s := s)
  rw [parts_all] at this
  exact this
theorem parts_siz (d : Dat) : ((parts d).length : Int) = siz d := by rw [← nodes_parts]; exact nodes_length d

set_option maxHeartbeats 8000000 in
theorem g9 (d : Dat) (hd : d.fits) : Gives Try.prog cw 9 [enc d] (.sc (.bool true)) := by
  refine gives_run Try.func9 rfl rfl rfl rfl (by simp) (by simp [Try.f9]) (by simp [Try.f9]) fun m => ?_
  simp [Try.f9, show cw.keepRes 9 = false from rfl, (cw_gives g10).go, (cw_gives (g11 d)).go]
  cases h1 : sml d with
  | false => simp [(cw_gives g10).go]
  | true =>
    have zl : 6 ≤ zeroCells.length := by decide
    have zd : List.drop 6 zeroCells = [] := rfl
    have hp := pln_fits hd
    simp [(cw_gives (g36 d hd)).go, (cw_gives (g14 d hd)).go, zl, zd]
    by_cases h0 : chk d = 0
    · obtain ⟨q1, q2, q3, q4, q5⟩ := pln_chk h0
      have s1 : sam d d = true := sam_refl h0
      have s2 : sam (pln d) (pln d) = true := sam_refl q2
      have hM : ∀ x ∈ parts (pln d), x.M = [] := by
        rw [q1]
        intro x hx
        unfold parts at hx
        split at hx
        · exact pre_plain d x hx
        · cases hx
      have lp := parts_len (pln d)
      have pd := parts_siz d
      have c16 := cw_gives (g16 d hd)
      have c17 := cw_gives (g17 d hd)
      have c16p := cw_gives (g16 _ hp)
      have c17p := cw_gives (g17 _ hp)
      have c36p := cw_gives (g36 _ hp)
      have c31 := cw_gives (g31 d d hd hd)
      have c31p := cw_gives (g31 _ _ hp hp)
      rw [q3] at c16p
      rw [q4] at c17p
      rw [q5] at c36p
      rw [s1] at c31
      rw [s2] at c31p
      generalize pln d = p at *
      simp [h0, go30]
      rw [go29a hp ⟨by simp <;> omega, m.clock + 4, by simp⟩]
      generalize hA : parts p = A at *
      simp
      refine go_count 48 A.length (fun i s m' => Kp m m' ∧ has m' m.next (enc d).cells ∧ has m' (m.next + 1) (enc p).cells) (by simp) (by omega) ⟨by simp, ⟨by simp <;> omega, m.clock + 1, by simp⟩, ⟨by simp <;> omega, m.clock + 3, by simp⟩⟩ ?_
      rintro i s m1 hi e48 ⟨hkp, hd1, hp1⟩ hs hw Q' hn he
      have e46 : s.at 46 = .lst (encs A) := (hs 46 (by kernel_rfl)).trans (by simp)
      have e47 : s.at 47 = int A.length := (hs 47 (by kernel_rfl)).trans (by simp)
      have e1 : s.at 1 = .ptr m.next 0 := (hs 1 (by kernel_rfl)).trans (by simp)
      have e3 : s.at 3 = .ptr (m.next + 1) 0 := (hs 3 (by kernel_rfl)).trans (by simp)
      clear hs
      simp [e48, e47]
      refine goB_split (fun h => ?_) fun h => ?_
      · have hlt : i < A.length := by simpa using h
        obtain ⟨x, hx⟩ : ∃ x, A[i]? = some x := ⟨_, List.getElem?_eq_getElem hlt⟩
        have hxe : (encs A)[i]? = some (enc x) := by rw [encs_get, hx]; rfl
        have hxm := List.mem_of_getElem? hx
        have ixA := aindexAddr_lst (P := Try.prog) (q := .i64) Try.underlying23 tsize25 hxe (enc_cells_length x)
        have hMx := hM x hxm
        obtain ⟨K, N, S, M, L, T⟩ := x
        have hMx : M = [] := hMx
        subst hMx
        simp only [enc] at ixA
        simp [e48, e46, ixA, zl, zd, hw]
        have k2 : Kp m1 ((m1.new zeroCells false).set m1.next (enc (.mk K N S [] L T)).cells) := (Kp.new _ _ _).set (Nat.le_refl _) _
        simp only [enc, AV.cells] at k2
        refine hn _ _ hlt (by simp) ⟨hkp.trans k2, hd1.kp k2, hp1.kp k2⟩
      · simp
        refine he _ _ _ (by simp) ?_
        obtain ⟨dl, dv, de⟩ := hd1
        obtain ⟨pl, pv, pe⟩ := hp1
        simp
        refine go_drawD (by kernel_rfl) ?_
        simp [e1, de, go30]
        rw [go29a hd ⟨by simp, m1.clock + 1, by simp⟩]
        have dn : m.next ≠ m1.next := by omega
        have pn : m.next + 1 ≠ m1.next := by omega
        simp [e1, e3, de, pe, dn, pn, pd, c16.go, c17.go, c16p.go, c17p.go, c36p.go, c31.go, c31p.go]
        refine goM_of (l := [(1, 4), (2, 4), (9, 10), (16, 17), (23, 24)]) (by kernel_rfl) (?_ : List.all _ _ = true) ?_
        · simp [metAtD, metOkD, rank, verKeptD, Region.wanted, Mem.ver, e1, e3, de, pe, dn, pn]
        simp
        exact hkp.trans (by simp)
    · have s0 : sam d d = false := by simp [sam, h0]
      have hp0 : parts d = [] := by simp [parts, h0]
      have hz : pln d = .zero := by simp [pln, h0]
      have z0 : zro .zero = true := by simp [zro, Dat.zero]
      rw [hz] at hp ⊢
      have c31 := cw_gives (g31 d d hd hd)
      rw [s0] at c31
      have c38 := cw_gives (g38 .zero zero_fits)
      rw [z0] at c38
      simp [h0, go30]
      have hh : ∀ {N : Nat} {Q : Ex → Sl → Mem → Prop} {t : Option Tmp} {c : List It} {s : Sl} {m : Mem} {db : Nat}, has m db (enc d).cells → goH Try.prog cw N Q (.func 29) [.fn (.func 52) [] [.ptr db 0], int 9] t c s m = goP Try.prog cw N Q (aput N s t (.lst [])) c m := by
        intro N Q t c s m db h
        have := go29 hd (k := 9) (by omega) h (N := N) (Q := Q) (t := t) (c := c) (s := s)
        rw [hp0] at this
        simpa [encs] using this
      rw [hh ⟨by simp, m.clock + 4, by simp⟩]
      have c16 := cw_gives (g16 d hd)
      have c17 := cw_gives (g17 d hd)
      have z1 : siz d = 0 := by simp [siz, h0]
      have z2 : dep d = 0 := by simp [dep, h0]
      rw [z1] at c16
      rw [z2] at c17
      simp [c16.go, c17.go, c31.go, c38.go]
end Go.Proofs.Ytipmoeclkamciaa
