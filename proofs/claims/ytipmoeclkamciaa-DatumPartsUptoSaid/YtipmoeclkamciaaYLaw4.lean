import Derived.Test.YtipmoeclkamciaaYLaw
import Derived.Test.YtipmoeclkamciaaYParts
/- DatumParts: the walk. -/
set_option linter.unusedSimpArgs false
set_option linter.unusedVariables false
set_option linter.unusedSectionVars false
namespace Go.Proofs.Ytipmoeclkamciaa
open Go.V
attribute [local simp] Nat.add_assoc

theorem g4 (l : List Dat) (hf : fitss l) (hl : l.length < 2 ^ 21) : Gives Try.prog cf 4 [.lst (encs l)] (.sc (.bool true)) := by
  refine gives_go Try.func4 rfl rfl rfl (by simp [Try.f4]) (by simp [Try.f4]) fun m Q hQ => ?_
  simp only [Try.f4, show cf.keepRes 4 = false from rfl] at hQ ⊢
  simp [g10.go]
  by_cases h100 : (100 : Int) < l.length
  · simp [h100, g10.go]
    exact hQ _ _ _ (leave_sc (.inr rfl) at_set_eq ⟨rfl, by simp⟩)
  · simp [h100]
    refine go_count 19 l.length (fun i s m' => Kp m m' ∧ (∀ d ∈ l.take i, chk d = 0) ∧ s.at 3 = int (1 + sizes (l.take i) : Nat) ∧ s.at 4 = int (dpts (l.take i))) (by simp) (by omega) ⟨by simp, by simp, by simp [sizes], by simp [dpts]⟩ ?_
    rintro i s m' hi e19 ⟨hkp, hall, e3, e4⟩ hs hw Q' hn he
    have e17 : s.at 17 = .lst (encs l) := (hs 17 (by kernel_rfl)).trans (by simp)
    have e18 : s.at 18 = int l.length := (hs 18 (by kernel_rfl)).trans (by simp)
    have e0 : s.at 0 = .lst (encs l) := (hs 0 (by kernel_rfl)).trans (by simp)
    clear hs
    simp [e19, e18]
    refine goB_split (fun h => ?_) fun h => ?_
    · have hlt : i < l.length := by simpa using h
      obtain ⟨x, hx⟩ : ∃ x, l[i]? = some x := ⟨_, List.getElem?_eq_getElem hlt⟩
      have hxe : (encs l)[i]? = some (enc x) := by rw [encs_get, hx]; rfl
      have hxm := List.mem_of_getElem? hx
      have fx := fits_mem hf hxm
      simp [e17, e19, aindexAddr_lst Try.underlying23 tsize25 hxe (enc_cells_length x), (g11 x).go]
      have stop : ∀ (s4 : Sl) (m4 : Mem), Kp m m4 → s4.at 2 = .sc (.bool true) → Q .ret s4 m4 := fun s4 m4 k e => hQ _ _ _ (leave_sc (.inr rfl) e ⟨rfl, k⟩)
      cases h1 : sml x with
      | false =>
        simp
        refine he _ _ _ (by simp) ?_
        simp
        exact stop _ _ (hkp.trans (by simp)) (by simp)
      | true =>
        simp [(g14 x fx).go]
        by_cases h2 : chk x = 0
        · have ht : l.take (i + 1) = l.take i ++ [x] := by
            obtain ⟨h1, h2⟩ := List.getElem?_eq_some_iff.1 hx
            rw [List.take_succ_eq_append_getElem h1, h2]
          have hall' : ∀ d ∈ l.take (i + 1), chk d = 0 := by
            rw [ht]
            intro d hd
            rcases List.mem_append.1 hd with hd | hd
            · exact hall d hd
            · simp at hd; rw [hd]; exact h2
          have sz : sizes (l.take (i + 1)) = sizes (l.take i) + x.size := by rw [ht, sizes_append]; simp [sizes]
          have dz : dpts (l.take (i + 1)) = max (dpts (l.take i)) (dpt x) := by rw [ht, dpts_append]; have := dpt_pos x; have := dpts_pos (l.take i); simp [dpts]; omega
          have b1 : sizes (l.take i) ≤ 4096 * 100 := by
            have := sizes_bound hall
            have : (l.take i).length ≤ 100 := by simp; omega
            omega
          have b2 := (chk_good h2).2.1
          have w1 : IntKind.i64.wrap (1 + (sizes (l.take i) : Int) + x.size) = 1 + (sizes (l.take i) : Int) + x.size := IntWalk.i64_in _ (by omega)
          simp [h2, (g16 x fx).go, (g17 x fx).go, siz_eq h2, dep_eq h2, e3, e4, w1, amax2, e19, hw]
          refine hn _ _ hlt (by simp) ⟨hkp.trans (by simp), hall', ?_, ?_⟩
          · rw [sz]; simp; omega
          · rw [dz]; simp
        · simp [h2]
          refine he _ _ _ (by simp) ?_
          simp
          exact stop _ _ (hkp.trans (by simp)) (by simp)
    · simp
      refine he _ _ _ (by simp) ?_
      have hle : i = l.length := by simp at h hi ⊢; omega
      subst hle
      rw [List.take_length] at hall e3 e4
      have fl := fits_lis hf hl
      have law := chk_lis hall
      have hd0 := dpts_pos l
      simp [e0, (g18 l hl).go, (g14 _ fl).go, e3, e4]
      have kk : ∀ m2 : Mem, Kp m' m2 → Kp m m2 := fun m2 k => hkp.trans k
      by_cases c1 : 4096 < 1 + sizes l
      · rw [if_pos (.inl c1)] at law
        have c1' : (4096 : Int) < 1 + sizes l := by omega
        have z : siz (lis l) = 0 := siz_no (by omega)
        rcases law with h3 | h3
        all_goals
          simp [e3, e4, c1', h3, (g16 _ fl).go, z]
          refine hQ _ _ _ (leave_sc (.inr rfl) at_set_eq ⟨rfl, hkp.trans ?_⟩)
          simp
      · have c1' : ¬ (4096 : Int) < 1 + sizes l := by omega
        by_cases c2 : 64 ≤ dpts l
        · rw [if_pos (.inr c2)] at law
          have z : siz (lis l) = 0 := siz_no (by omega)
          rcases law with h3 | h3
          all_goals
            simp [e3, e4, c1', c2, h3, (g16 _ fl).go, z]
            refine hQ _ _ _ (leave_sc (.inr rfl) at_set_eq ⟨rfl, hkp.trans ?_⟩)
            simp
        · rw [if_neg (by omega)] at law
          have wd : IntKind.i64.wrap (dpts l + 1) = dpts l + 1 := IntWalk.i64_in _ (by omega)
          simp [e3, e4, c1', c2, law.1, (g16 _ fl).go, (g17 _ fl).go, law.2.1, law.2.2, wd]
          refine hQ _ _ _ (leave_sc (.inr rfl) at_set_eq ⟨rfl, hkp.trans ?_⟩)
          simp
end Go.Proofs.Ytipmoeclkamciaa
