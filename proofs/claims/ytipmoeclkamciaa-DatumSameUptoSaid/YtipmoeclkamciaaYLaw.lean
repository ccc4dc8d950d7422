import Derived.Test.YtipmoeclkamciaaYCons2
/- What is claimed of data: the parts of the claims. -/
set_option linter.unusedSimpArgs false
set_option linter.unusedVariables false
set_option linter.unusedSectionVars false
namespace Go.Proofs.Ytipmoeclkamciaa
open Go.V
attribute [local simp] Nat.add_assoc

def fixd (n : Int) : Dat := .mk 1 n [] [] [] []
theorem g39 (n : Int) : Gives Try.prog cf 39 [int n] (enc (fixd n)) := by
  refine gives_run Try.func39 rfl rfl rfl rfl (by simp) (by simp [Try.f39]) (by simp [Try.f39]) fun m => ?_
  simp [Try.f39, show cf.keepRes 39 = false from rfl, abuild, placesOf, fillAt, zeroCells]
  simp [fixd, enc, encs]

def sml : Dat → Bool
  | .mk K N S M L T => decide ((S.length : Int) ≤ 5000) && (decide ((M.length : Int) ≤ 5000) && (decide ((L.length : Int) ≤ 5000) && decide ((T.length : Int) ≤ 5000)))
theorem g11 (d : Dat) : Gives Try.prog cf 11 [enc d] (.sc (.bool (sml d))) := by
  obtain ⟨K, N, S, M, L, T⟩ := d
  refine gives_run Try.func11 rfl rfl rfl rfl (by simp) (by simp [Try.f11]) (by simp [Try.f11]) fun m => ?_
  simp only [enc]
  simp [Try.f11, show cf.keepRes 11 = false from rfl]
  by_cases hc1 : (S.length : Int) ≤ 5000
  · simp [sml, hc1]
    all_goals
      by_cases hc2 : (M.length : Int) ≤ 5000
      · simp [sml, hc1, hc2]
        all_goals
          by_cases hc3 : (L.length : Int) ≤ 5000
          · simp [sml, hc1, hc2, hc3]
            all_goals
              by_cases hc4 : (T.length : Int) ≤ 5000
              · simp [sml, hc1, hc2, hc3, hc4]
              · simp [sml, hc1, hc2, hc3, hc4]
          · simp [sml, hc1, hc2, hc3]
      · simp [sml, hc1, hc2]
  · simp [sml, hc1]

def zro : Dat → Bool
  | .mk K N S M L T => decide (K = 0) && (decide (N = 0) && (decide (S = []) && decide ((M.length : Int) + L.length + T.length = 0)))
theorem g38 (d : Dat) (hd : d.fits) : Gives Try.prog cf 38 [enc d] (.sc (.bool (zro d))) := by
  obtain ⟨K, N, S, M, L, T⟩ := d
  have ft := alone_fits hd
  have h1 := ft.m
  have h2 := ft.l
  have h3 := ft.t
  have w1 : IntKind.i64.wrap ((M.length : Int) + L.length) = (M.length : Int) + L.length := IntWalk.i64_in _ (by omega)
  have w2 : IntKind.i64.wrap ((M.length : Int) + L.length + T.length) = (M.length : Int) + L.length + T.length := IntWalk.i64_in _ (by omega)
  refine gives_run Try.func38 rfl rfl rfl rfl (by simp) (by simp [Try.f38]) (by simp [Try.f38]) fun m => ?_
  simp only [enc]
  simp [Try.f38, show cf.keepRes 38 = false from rfl]
  by_cases hc1 : K = 0
  · simp [zro, w1, w2, hc1]
    all_goals
      by_cases hc2 : N = 0
      · simp [zro, w1, w2, hc1, hc2]
        all_goals
          by_cases hc3 : S = []
          · simp [zro, w1, w2, hc1, hc2, hc3]
            all_goals
              by_cases hc4 : (M.length : Int) + L.length + T.length = 0
              · simp [zro, w1, w2, hc1, hc2, hc3, hc4]
              · simp [zro, w1, w2, hc1, hc2, hc3, hc4]
          · simp [zro, w1, w2, hc1, hc2, hc3]
      · simp [zro, w1, w2, hc1, hc2]
  · simp [zro, w1, w2, hc1]

theorem fits_fixd (n : Int) (h : -9223372036854775808 ≤ n ∧ n ≤ 9223372036854775807) : (fixd n).fits := by
  unfold fixd
  rw [Dat.fits]
  exact ⟨⟨h, by simp, by simp, by simp, by simp⟩, trivial, trivial⟩
theorem fits_lis {l : List Dat} (h : fitss l) (hl : l.length < 2 ^ 21) : (lis l).fits := by
  unfold lis
  rw [Dat.fits]
  exact ⟨⟨by omega, by simp, by simp, hl, by simp⟩, h, trivial⟩
theorem cns_awake : cns (fixd 1) (lis [fixd 2]) = (lis [fixd 1, fixd 2], 0) := by
  simp [cns, fixd, lis, chk, wk, wks, nxt, alone, raw]
theorem g10 : Gives Try.prog cf 10 [] (.sc (.bool true)) := by
  refine gives_run Try.func10 rfl rfl rfl rfl (by simp) (by simp [Try.f10]) (by simp [Try.f10]) fun m => ?_
  have f1 := fits_fixd 1 (by omega)
  have f2 := fits_fixd 2 (by omega)
  have fl : (lis [fixd 2]).fits := fits_lis ⟨f2, trivial⟩ (by simp)
  have fl2 : (lis [fixd 1, fixd 2]).fits := fits_lis ⟨f1, f2, trivial⟩ (by simp)
  have c18 := g18 [fixd 2] (by simp)
  have c19 := g19 _ _ f1 fl
  have c23 := g23 _ fl2
  have c16 := g16 _ fl2
  have c17 := g17 _ fl2
  have c12 := g12 [97, 45, 62, 98] (by simp)
  rw [cns_awake] at c19
  have e1 : siz (lis [fixd 1, fixd 2]) = 3 := by simp [siz, chk, fixd, lis, wk, wks, nxt, alone]
  have e2 : dep (lis [fixd 1, fixd 2]) = 2 := by simp [dep, chk, fixd, lis, wk, wks, nxt, alone]; omega
  have e3 : Sym [97, 45, 62, 98] = true := by decide
  have e4 : hlv (lis [fixd 1, fixd 2]) = (fixd 1, lis [fixd 2], 0) := by simp [hlv, chk, fixd, lis, wk, wks, nxt, alone]
  rw [e1] at c16
  rw [e2] at c17
  rw [e3] at c12
  rw [e4] at c23
  simp [Try.f10, show cf.keepRes 10 = false from rfl, (g39 1).go, (g39 2).go, abuildSlice, fillAt, zeros]
  refine goH_fz c18 (?_ : (fzvs _ _).1 = _) ?_
  · simp [fz1, chunk, encs]
  have ex : enc (lis [fixd 2]) = .agg [int 6, int 0, .sc (.string ⟨⟨[]⟩⟩), .lst [], .lst [enc (fixd 2)], .lst []] := by simp [lis, enc, encs]
  have ex2 : enc (fixd 2) = .agg [int 1, int 2, .sc (.string ⟨⟨[]⟩⟩), .lst [], .lst [], .lst []] := by simp [fixd, enc, encs]
  have ix := aindexAddr_lst0 (P := Try.prog) (T := 23) (q := .i64) Try.underlying23 tsize25 (l := []) (enc_cells_length (fixd 2))
  rw [ex2] at ix
  simp [fz1, chunk, c19.go, c23.go, c16.go, c17.go, c12.go]
  simp [ex, ex2, ix]
end Go.Proofs.Ytipmoeclkamciaa
