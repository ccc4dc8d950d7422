import Derived.Test.YtjiijacibpgciaaGreatYPair
/- Putting together, and taking apart. -/
set_option linter.unusedSimpArgs false
set_option linter.unusedVariables false
set_option linter.unusedSectionVars false
namespace Go.Proofs.YtjiijacibpgciaaGreat
set_option maxRecDepth 4000
open Go.V
attribute [local simp] Nat.add_assoc

theorem nxt_zero {r : Int × Int × Int} {f : Int → Int → Int × Int × Int} (h : (nxt r f).1 = 0) : r.1 = 0 ∧ (f r.2.1 r.2.2).1 = 0 := by
  unfold nxt at h
  split at h
  · exact ⟨‹_›, h⟩
  · exact absurd h ‹_›
theorem chk_alone {d : Dat} (h : chk d = 0) : alone d = true := by
  obtain ⟨K, N, S, M, L, T⟩ := d
  unfold chk at h
  rw [wk] at h
  split at h
  · simp at h
  split at h
  · simp at h
  split at h
  · simp at h
  · rename_i ha; simpa using ha
theorem alone_dot {N : Int} {S : List UInt8} {M : List Int} {L T : List Dat} (h : alone (.mk 7 N S M L T) = true) : (∃ l L', L = l :: L') ∧ ∃ t, T = [t] := by
  cases L <;> rcases T with _ | ⟨t, _ | ⟨t2, r⟩⟩ <;> simp [alone] at h ⊢
theorem alone_list {N : Int} {S : List UInt8} {M : List Int} {L T : List Dat} (h : alone (.mk 6 N S M L T) = true) : T = [] := by
  cases T <;> simp [alone] at h ⊢

/-- The halves of a pair, and an error. -/
def hlv : Dat → Dat × Dat × Int
  | .mk K N S M L T =>
    if chk (.mk K N S M L T) = 0 then
      if K = 6 ∨ K = 7 then
        match L with
        | [] => (.zero, .zero, 6)
        | l :: r => if K = 7 ∧ r = [] then (l, T.headD .zero, 0) else (l, .mk K 0 [] [] r T, 0)
      else (.zero, .zero, 6)
    else (.zero, .zero, chk (.mk K N S M L T))
theorem enc_mk0 {K : Int} {L T : List Dat} : AV.agg [int K, int 0, .sc (.string ⟨⟨[]⟩⟩), .lst [], .lst (encs L), .lst (encs T)] = enc (.mk K 0 [] [] L T) := by simp [enc]
theorem g49 (d : Dat) (hd : d.fits) : Gives Tryz.prog cf 46 [enc d] (.tup [enc (hlv d).1, enc (hlv d).2.1, int (hlv d).2.2]) := by
  refine gives_run Tryz.func46 rfl rfl rfl rfl (by simp) (by simp [Tryz.f46]) (by simp [Tryz.f46]) fun m => ?_
  by_cases h0 : chk d = 0
  · have ha := chk_alone h0
    obtain ⟨K, N, S, M, L, T⟩ := d
    have ft := alone_fits hd
    by_cases hK : K = 6 ∨ K = 7
    · cases L with
      | nil =>
        have ed : hlv (.mk K N S M [] T) = (.zero, .zero, 6) := by simp [hlv, h0, hK]
        rw [ed]
        have g14' := g14 _ hd
        simp only [enc, encs] at g14' ⊢
        rcases hK with rfl | rfl <;> simp [Tryz.f46, show cf.keepRes 46 = false from rfl, g14'.go, h0, abuild, placesOf, fillAt, encs]
      | cons l r =>
        have g14' := g14 _ hd
        have g47' := fun m => (g47 _ hd m)
        have ixl := fun (x : Dat) (l : List AV) => aindexAddr_lst0 (P := Tryz.prog) (T := 23) (q := .i64) Tryz.underlying23 tsize25 (l := l) (enc_cells_length x)
        have sl : aslice Tryz.prog 23 (.lst (enc l :: encs r)) (some (int 1)) none none = some (.lst (encs r)) := by
          have := aslice_lst (P := Tryz.prog) (T := 23) (xs := enc l :: encs r) (lo := some (int 1)) (hi := none) (l := some 1) (h := none) Tryz.underlying23 tsize25 (by simp [obnd]) obnd_none (by simp) (by simp) (by simp [okAll_cons])
          simpa [List.take_of_length_le] using this
        by_cases h7 : K = 7
        · subst h7
          obtain ⟨_, t, rfl⟩ := alone_dot ha
          cases r with
          | nil =>
            have ed : hlv (.mk 7 N S M [l] [t]) = (l, t, 0) := by simp [hlv, h0]
            rw [ed]
            simp only [enc, encs] at g14' g47' sl ⊢
            simp [Tryz.f46, show cf.keepRes 46 = false from rfl, g14'.go, h0, (g47' _).go, ixl]
            refine go_draw_of (by kernel_rfl) ?_
            simp [ixl, sl]
            refine goM_of (l := [(1, 7), (3, 7), (5, 7), (5, 8)]) (by kernel_rfl) (?_ : List.all _ _ = true) ?_
            · simp [metAt, metOk, rank, objOf, verKept, Region.wanted, Mem.ver]
            simp
            refine go_draw_of (by kernel_rfl) ?_
            simp [ixl]
            refine goM_of (l := [(2, 5), (4, 5)]) (by kernel_rfl) (?_ : List.all _ _ = true) ?_
            · simp [metAt, metOk, rank, objOf, verKept, Region.wanted, Mem.ver]
            simp
          | cons r1 r =>
            have nz2 : ¬ ((r.length : Int) + 2 = 0) := by omega
            have ed : hlv (.mk 7 N S M (l :: r1 :: r) [t]) = (l, .mk 7 0 [] [] (r1 :: r) [t], 0) := by simp [hlv, h0]
            rw [ed]
            simp only [enc, encs] at g14' g47' sl ⊢
            simp [Tryz.f46, show cf.keepRes 46 = false from rfl, g14'.go, h0, (g47' _).go, ixl, nz2]
            refine go_draw_of (by kernel_rfl) ?_
            simp [ixl, sl]
            refine goM_of (l := [(1, 7), (3, 7), (5, 7), (5, 8)]) (by kernel_rfl) (?_ : List.all _ _ = true) ?_
            · simp [metAt, metOk, rank, objOf, verKept, Region.wanted, Mem.ver]
            have nz : ¬ ((r.length : Int) + 1 = 0) := by omega
            simp [nz]
            refine go_draw_of (by kernel_rfl) ?_
            simp [abuild, placesOf, fillAt, zeroCells]
            refine goM_of (l := [(2, 7), (5, 7)]) (by kernel_rfl) (?_ : List.all _ _ = true) ?_
            · simp [metAt, metOk, rank, objOf, verKept, Region.wanted, Mem.ver]
            simp
        · have h6 : K = 6 := hK.resolve_right h7
          subst h6
          have nz : ¬ ((r.length : Int) + 1 = 0) := by omega
          have ed : hlv (.mk 6 N S M (l :: r) T) = (l, .mk 6 0 [] [] r T, 0) := by simp [hlv, h0]
          rw [ed]
          simp only [enc, encs] at g14' g47' sl ⊢
          simp [Tryz.f46, show cf.keepRes 46 = false from rfl, g14'.go, h0, (g47' _).go, ixl, nz]
          refine go_draw_of (by kernel_rfl) ?_
          simp [ixl, sl]
          refine goM_of (l := [(1, 7), (3, 7), (5, 7), (5, 8)]) (by kernel_rfl) (?_ : List.all _ _ = true) ?_
          · simp [metAt, metOk, rank, objOf, verKept, Region.wanted, Mem.ver]
          simp
          refine go_draw_of (by kernel_rfl) ?_
          simp [abuild, placesOf, fillAt, zeroCells]
          refine goM_of (l := [(2, 7), (5, 7)]) (by kernel_rfl) (?_ : List.all _ _ = true) ?_
          · simp [metAt, metOk, rank, objOf, verKept, Region.wanted, Mem.ver]
          simp
    · have ed : hlv (.mk K N S M L T) = (.zero, .zero, 6) := by simp [hlv, h0, hK]
      rw [ed]
      have h6 : ¬ K = 6 := fun e => hK (.inl e)
      have h7 : ¬ K = 7 := fun e => hK (.inr e)
      have g14' := g14 _ hd
      simp only [enc] at g14' ⊢
      simp [Tryz.f46, show cf.keepRes 46 = false from rfl, g14'.go, h0, h6, h7, abuild, placesOf, fillAt]
  · have ed : hlv d = (.zero, .zero, chk d) := by cases d; simp [hlv, h0]
    rw [ed]
    simp [Tryz.f46, show cf.keepRes 46 = false from rfl, (g14 d hd).go, h0, abuild, placesOf, fillAt]
end Go.Proofs.YtjiijacibpgciaaGreat
