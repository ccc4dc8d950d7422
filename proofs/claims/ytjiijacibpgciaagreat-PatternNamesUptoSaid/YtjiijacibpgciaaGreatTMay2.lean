import Derived.Test.YtjiijacibpgciaaGreatTMay
/- Whether all of what is got may be. -/
set_option linter.unusedSimpArgs false
set_option linter.unusedVariables false
set_option linter.unusedSectionVars false
namespace Go.Proofs.YtjiijacibpgciaaGreat
set_option maxRecDepth 4000
open Go.V
attribute [local simp] Nat.add_assoc

theorem t15 (P : Nat) (g : Got) (hf : g.fits) (k : Int) (m : Mem) (hk0 : 0 ≤ k) (hk4 : k ≤ 4096) (hP : has m P [int k]) : wph Tryz.prog cw (.func 15) [encG g, .ptr P 0] m fun v m' => ∃ b : Bool, v = .sc (.bool b) ∧ (b = false → mayP g) ∧ (∃ k' : Int, has m' P [int k'] ∧ (b = false → k' = k + g.size ∧ k' ≤ 4096)) ∧ KpC (fun i => i = P) m m' := by
  refine wph_go Tryz.func15 rfl rfl (by simp [Tryz.f15]) (by simp [Tryz.f15]) fun Q hQ => ?_
  simp only [Tryz.f15, show cw.keepRes 15 = false from rfl, show cw.keepArgs 15 = false from rfl] at hQ ⊢
  simp
  have k1 : Kp m (m.new (encG g).cells false) := .new _ _ _
  refine goH_of (t16 P g.size g (Nat.le_refl _) hf k _ hk0 hk4 (hP.kp k1)) ?_
  rintro v m2 ⟨b, rfl, hb, ⟨k2, hP2, hk2⟩, kc⟩
  simp
  refine hQ _ _ _ (leave_sc (.inr rfl) at_set_eq ⟨!b, rfl, fun h => hb (by simpa using h), ⟨k2, hP2, fun h => hk2 (by simpa using h)⟩, (KpC.of (.of k1)).trans kc⟩)
set_option maxHeartbeats 2000000 in
theorem t31w (P : Nat) (got : List Got) (hgot : gfits got) (hl : got.length < 2 ^ 21) (m : Mem) (hP : has m P [int 0]) : wph Tryz.prog cw (.func 31) [.lst (encGs got), .fn (.func 15) [] [.ptr P 0]] m fun v m' => ∃ j : Int, v = int j ∧ (j < 0 → mayPs got ∧ gsizes got ≤ 4096) ∧ (∃ k : Int, has m' P [int k]) ∧ KpC (fun i => i = P) m m' := by
  refine wph_go Tryz.func31 rfl rfl (by simp [Tryz.f31]) (by simp [Tryz.f31]) fun Q hQ => ?_
  simp only [Tryz.f31, show cw.keepRes 31 = false from rfl, show cw.keepArgs 31 = false from rfl] at hQ ⊢
  simp
  refine go_count 8 got.length (fun i s m' => KpC (fun i => i = P) m m' ∧ (∃ k : Int, has m' P [int k] ∧ k = gsizes (got.take i) ∧ k ≤ 4096) ∧ ∀ j g, j < i → got[j]? = some g → mayP g) (by simp) (by omega) ⟨.refl _ _, ⟨0, hP, by simp [gsizes], by omega⟩, fun _ _ h => by omega⟩ ?_
  rintro i s m' hi e8 ⟨hkc, ⟨k', hP', hke, hk4⟩, hall⟩ hs hw Q' hn he
  have e0 : s.at 0 = .lst (encGs got) := (hs 0 (by kernel_rfl)).trans (by simp)
  have e1 : s.at 1 = .fn (.func 15) [] [.ptr P 0] := (hs 1 (by kernel_rfl)).trans (by simp)
  have e7 : s.at 7 = int got.length := (hs 7 (by kernel_rfl)).trans (by simp)
  clear hs
  simp [e8, e7]
  refine goB_split (fun h => ?_) fun h => ?_
  · have hlt : i < got.length := by simpa using h
    obtain ⟨g, hg⟩ : ∃ g, got[i]? = some g := ⟨_, List.getElem?_eq_getElem hlt⟩
    have hgm : g ∈ got := List.mem_of_getElem? hg
    have hg' : (encGs got)[i]? = some (encG g) := by rw [encGs_get, hg]; rfl
    simp [e8, e0, e1, aindexAddr_lst Tryz.underlying26 tsize44 hg' (encG_cells_length g)]
    refine goH_of (t15 P g (gfits_mem hgot hgm) k' m' (by omega) hk4 hP') ?_
    rintro v m2 ⟨b, rfl, hb, ⟨k2, hP2, hk2⟩, kc2⟩
    cases b with
    | true =>
      simp
      refine he _ _ _ (by simp) ?_
      simp
      refine hQ _ _ _ (leave_sc (.inr rfl) at_set_eq ⟨i, rfl, fun h => by omega, ⟨k2, hP2⟩, hkc.trans kc2⟩)
    | false =>
      simp [e8, hw]
      refine hn _ _ hlt (by simp) ⟨hkc.trans kc2, ⟨k2, hP2, by rw [(hk2 rfl).1, hke, take_gs hg]; omega, (hk2 rfl).2⟩, fun j g' hj hgj => ?_⟩
      rcases Nat.lt_or_ge j i with h2 | h2
      · exact hall j g' h2 hgj
      · obtain rfl : j = i := by omega
        rw [hg] at hgj
        cases hgj
        exact hb rfl
  · have hge : i = got.length := by have := of_decide_eq_false h; omega
    subst hge
    simp
    refine he _ _ _ (by simp) ?_
    simp
    refine hQ _ _ _ (leave_sc (.inr rfl) at_set_eq ⟨-1, rfl, fun _ => ⟨mayPs_of fun g hg => ?_, by rw [List.take_length] at hke; omega⟩, ⟨k', hP'⟩, hkc⟩)
    obtain ⟨j, hj, e⟩ := List.mem_iff_getElem.1 hg
    exact hall j g hj (by rw [List.getElem?_eq_getElem hj, e])
theorem t17 (P : Nat) (got : List Got) (hgot : gfits got) (hl : got.length < 2 ^ 21) (m : Mem) (hP : has m P [int 0]) : wph Tryz.prog cw (.func 17) [.lst (encGs got), .fn (.func 15) [] [.ptr P 0]] m fun v m' => ∃ b : Bool, v = .sc (.bool b) ∧ (b = false → mayPs got ∧ gsizes got ≤ 4096) ∧ (∃ k : Int, has m' P [int k]) ∧ KpC (fun i => i = P) m m' := by
  refine wph_go Tryz.func17 rfl rfl (by simp [Tryz.f17]) (by simp [Tryz.f17]) fun Q hQ => ?_
  simp only [Tryz.f17, show cw.keepRes 17 = false from rfl, show cw.keepArgs 17 = false from rfl] at hQ ⊢
  simp
  refine goH_of (t31w P got hgot hl m hP) ?_
  rintro v m2 ⟨j, rfl, hj, hP2, kc⟩
  simp
  refine hQ _ _ _ (leave_sc (.inr rfl) at_set_eq ⟨decide (0 ≤ j), rfl, fun h => hj (by have := of_decide_eq_false h; omega), hP2, kc⟩)
end Go.Proofs.YtjiijacibpgciaaGreat
