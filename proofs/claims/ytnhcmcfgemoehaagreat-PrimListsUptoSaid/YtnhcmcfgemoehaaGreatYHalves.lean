import Derived.Test.YtnhcmcfgemoehaaGreatYParts
/- The halves of what was put together: the plain law. -/
set_option linter.unusedSimpArgs false
set_option linter.unusedVariables false
set_option linter.unusedSectionVars false
namespace Go.Proofs.YtnhcmcfgemoehaaGreat
set_option maxRecDepth 4000

mutual
theorem eqb_refl : ∀ d : Dat, eqb d d = true
  | .mk K N S M L T => by simp [eqb, eqbs_refl L, eqbs_refl T]
theorem eqbs_refl : ∀ l : List Dat, eqbs l l = true
  | [] => by simp [eqbs]
  | d :: l => by simp [eqbs, eqb_refl d, eqbs_refl l]
end
theorem sam_refl {d : Dat} (h : chk d = 0) : sam d d = true := by simp [sam, h, eqb_refl]

/-- A pair that may be by itself has nothing but its parts. -/
theorem alone_six {N : Int} {S : List UInt8} {M : List Int} {L T : List Dat} (h : alone (.mk 6 N S M L T) = true) : N = 0 ∧ S = [] ∧ M = [] ∧ T = [] := by
  simp [alone] at h
  refine ⟨?_, ?_, ?_, ?_⟩ <;> simp_all
theorem alone_seven {N : Int} {S : List UInt8} {M : List Int} {L T : List Dat} (h : alone (.mk 7 N S M L T) = true) : N = 0 ∧ S = [] ∧ M = [] ∧ L ≠ [] ∧ ∃ t, T = [t] ∧ t.K ≠ 6 ∧ t.K ≠ 7 := by
  rcases L with _ | ⟨l, L⟩ <;> rcases T with _ | ⟨t, _ | ⟨t2, r⟩⟩ <;> simp [alone] at h
  refine ⟨?_, ?_, ?_, by simp, t, rfl, ?_, ?_⟩ <;> simp_all
theorem alone_mk6 {L : List Dat} : alone (.mk 6 0 [] [] L []) = true := by simp [alone]
theorem alone_mk7 {L : List Dat} {t : Dat} (hL : L ≠ []) (h : t.K ≠ 6 ∧ t.K ≠ 7) : alone (.mk 7 0 [] [] L [t]) = true := by cases L <;> simp_all [alone]

theorem good_mk {K N : Int} {S : List UInt8} {M : List Int} {L T : List Dat} (h : good (.mk K N S M L T) = true) : alone (.mk K N S M L T) = true ∧ goods L = true ∧ goods T = true := by
  rw [good] at h
  simpa using h

/-- Put together, and taken apart. -/
theorem halves_cons {a d : Dat} (h : (cns a d).2 = 0) : hlv (cns a d).1 = (a, d, 0) ∧ chk a = 0 ∧ chk d = 0 := by
  unfold cns at h ⊢
  by_cases h1 : chk a = 0
  · rw [if_pos h1] at h ⊢
    by_cases h2 : chk d = 0
    · rw [if_pos h2] at h ⊢
      by_cases h3 : chk (raw a d) = 0
      · rw [if_pos h3] at h ⊢
        refine ⟨?_, h1, h2⟩
        obtain ⟨K, N, S, M, L, T⟩ := d
        have ha := chk_alone h2
        by_cases hK : K = 6 ∨ K = 7
        · have er : raw a (.mk K N S M L T) = .mk K 0 [] [] (a :: L) T := by simp [raw, hK]
          rw [er] at h3 ⊢
          rcases hK with rfl | rfl
          · obtain ⟨rfl, rfl, rfl, rfl⟩ := alone_six ha
            simp [hlv, h3]
          · obtain ⟨rfl, rfl, rfl, hL, t, rfl, _⟩ := alone_seven ha
            simp [hlv, h3, hL]
        · have er : raw a (.mk K N S M L T) = .mk 7 0 [] [] [a] [.mk K N S M L T] := by simp [raw, hK]
          rw [er] at h3 ⊢
          simp [hlv, h3]
      · rw [if_neg h3] at h; exact absurd h h3
    · rw [if_neg h2] at h; exact absurd h h2
  · rw [if_neg h1] at h; exact absurd h h1

theorem chk_mk {K N : Int} {S : List UInt8} {M : List Int} {L T : List Dat} (ha : alone (.mk K N S M L T) = true) (hL : goods L = true) (hT : goods T = true) (hs : 1 + (sizes L + sizes T) ≤ 4096) (hd : 1 + max (dpts L) (dpts T) ≤ 64) : chk (.mk K N S M L T) = 0 :=
  chk_iff.2 ⟨by simp [good, ha, hL, hT], by rw [Dat.size]; exact hs, by rw [dpt]; exact hd⟩
theorem chk_part {d : Dat} (hg : good d = true) (hs : d.size ≤ 4096) (hd : dpt d ≤ 64) : chk d = 0 := chk_iff.2 ⟨hg, hs, hd⟩

/-- Taken apart, and put together. -/
theorem cons_halves {d : Dat} (h : (hlv d).2.2 = 0) : cns (hlv d).1 (hlv d).2.1 = (d, 0) ∧ chk d = 0 := by
  obtain ⟨K, N, S, M, L, T⟩ := d
  by_cases h0 : chk (.mk K N S M L T) = 0
  · refine ⟨?_, h0⟩
    obtain ⟨hg, hs, hd⟩ := chk_good h0
    obtain ⟨ha, gL, gT⟩ := good_mk hg
    rw [Dat.size] at hs
    rw [dpt] at hd
    by_cases hK : K = 6 ∨ K = 7
    · cases L with
      | nil => simp [hlv, h0, hK] at h
      | cons l r =>
        rw [goods] at gL
        simp only [Bool.and_eq_true] at gL
        rw [sizes] at hs
        rw [dpts] at hd
        have d1 := dpts_pos r
        have d2 := dpts_pos T
        have cl : chk l = 0 := chk_part gL.1 (by omega) (by omega)
        rcases hK with rfl | rfl
        · obtain ⟨rfl, rfl, rfl, rfl⟩ := alone_six ha
          have e : hlv (.mk 6 0 [] [] (l :: r) []) = (l, .mk 6 0 [] [] r [], 0) := by simp [hlv, h0]
          have cy : chk (.mk 6 0 [] [] r []) = 0 := chk_mk alone_mk6 gL.2 rfl (by simp only [sizes] at hs ⊢; omega) (by simp only [dpts] at hd d2 ⊢; omega)
          have er : raw l (.mk 6 0 [] [] r []) = .mk 6 0 [] [] (l :: r) [] := by simp [raw]
          rw [e]
          simp [cns, cl, cy, er, h0]
        · obtain ⟨rfl, rfl, rfl, hL, t, rfl, ht6, ht7⟩ := alone_seven ha
          rw [goods] at gT
          simp only [Bool.and_eq_true] at gT
          simp only [sizes] at hs
          simp only [dpts] at hd d2
          cases r with
          | nil =>
            have e : hlv (.mk 7 0 [] [] [l] [t]) = (l, t, 0) := by simp [hlv, h0]
            have ct : chk t = 0 := chk_part gT.1 (by omega) (by omega)
            have er : raw l t = .mk 7 0 [] [] [l] [t] := by
              obtain ⟨K2, N2, S2, M2, L2, T2⟩ := t
              simp only [Dat.K] at ht6 ht7
              simp [raw, ht6, ht7]
            rw [e]
            simp [cns, cl, ct, er, h0]
          | cons r1 r =>
            have e : hlv (.mk 7 0 [] [] (l :: r1 :: r) [t]) = (l, .mk 7 0 [] [] (r1 :: r) [t], 0) := by simp [hlv, h0]
            have cy : chk (.mk 7 0 [] [] (r1 :: r) [t]) = 0 := chk_mk (alone_mk7 (by simp) ⟨ht6, ht7⟩) gL.2 (by simp [goods, gT.1]) (by simp only [sizes] at hs ⊢; omega) (by simp only [dpts] at hd d1 ⊢; omega)
            have er : raw l (.mk 7 0 [] [] (r1 :: r) [t]) = .mk 7 0 [] [] (l :: r1 :: r) [t] := by simp [raw]
            rw [e]
            simp [cns, cl, cy, er, h0]
    · simp [hlv, h0, hK] at h
  · simp [hlv, h0] at h
theorem hlv_fits {d : Dat} (hd : d.fits) : (hlv d).1.fits ∧ (hlv d).2.1.fits := by
  have hz : Dat.zero.fits := by unfold Dat.zero; rw [Dat.fits]; exact ⟨⟨by omega, by simp, by simp, by simp, by simp⟩, trivial, trivial⟩
  obtain ⟨K, N, S, M, L, T⟩ := d
  have ft := alone_fits hd
  rw [Dat.fits] at hd
  unfold hlv
  dsimp only
  split
  · split
    · cases L with
      | nil => exact ⟨hz, hz⟩
      | cons l r =>
        have hL := hd.2.1
        rw [fitss] at hL
        have hl := ft.l
        simp only [List.length_cons] at hl
        dsimp only
        split
        · cases T with
          | nil => exact ⟨hL.1, hz⟩
          | cons t T => have := hd.2.2; rw [fitss] at this; exact ⟨hL.1, this.1⟩
        · exact ⟨hL.1, fits_mk hL.2 hd.2.2 (by omega) ft.t⟩
    · exact ⟨hz, hz⟩
  · exact ⟨hz, hz⟩
theorem cns_fits {a d : Dat} (ha : a.fits) (hd : d.fits) : (cns a d).1.fits := by
  have hz : Dat.zero.fits := by unfold Dat.zero; rw [Dat.fits]; exact ⟨⟨by omega, by simp, by simp, by simp, by simp⟩, trivial, trivial⟩
  unfold cns
  split
  · split
    · split
      · exact raw_fits ha hd ‹_›
      · exact hz
    · exact hz
  · exact hz
end Go.Proofs.YtnhcmcfgemoehaaGreat
