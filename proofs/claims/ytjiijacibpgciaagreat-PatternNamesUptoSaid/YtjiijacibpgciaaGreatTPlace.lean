import Derived.Test.YtjiijacibpgciaaGreatTGot
/- Where a variable stands among what is got. -/
set_option linter.unusedSimpArgs false
set_option linter.unusedVariables false
set_option linter.unusedSectionVars false
namespace Go.Proofs.YtjiijacibpgciaaGreat
set_option maxRecDepth 4000
open Go.V
attribute [local simp] Nat.add_assoc

theorem t51 (g : Got) (d : Dat) (hg : g.fits) (hd : d.fits) {b : Nat} {m : Mem} (hb : has m b (enc d).cells) : EH Tryz.prog cw (.func 51) [encG g, .ptr b 0] m (.sc (.bool (sam g.id d))) m := by
  obtain ⟨bl, bv, be⟩ := hb
  have bn : b ≠ m.next := by omega
  refine eh_run Tryz.func51 rfl rfl rfl rfl (args1 := [encG g, .ptr b 0]) (m1 := m) (by simp [fzvs]) (by simp) (by simp [Tryz.f51]) (by simp [Tryz.f51]) ?_
  simp [Tryz.f51, show cw.keepRes 51 = false from rfl, encG_cells, be, bn, (cw_gives (g31 _ _ (Got.fits_i hg).1 hd)).go]
/-- The first place of a variable. -/
def idx (got : List Got) (d : Dat) : Option Nat := got.findIdx? fun g => sam g.id d
def plc (got : List Got) (d : Dat) : Int := if d.k = 5 then (match idx got d with | some i => (i : Int) | none => -1) else -1
theorem idx_some {got : List Got} {d : Dat} {i : Nat} {g : Got} (hg : got[i]? = some g) (h : sam g.id d = true) (hn : ∀ j g, j < i → got[j]? = some g → sam g.id d = false) : idx got d = some i := by
  unfold idx
  obtain ⟨hi, e⟩ := List.getElem?_eq_some_iff.1 hg
  rw [List.findIdx?_eq_some_iff_getElem]
  refine ⟨hi, by rw [e]; exact h, fun j hj => ?_⟩
  rw [hn j _ hj (List.getElem?_eq_getElem (by omega))]
  simp
theorem idx_none {got : List Got} {d : Dat} (hn : ∀ j g, j < got.length → got[j]? = some g → sam g.id d = false) : idx got d = none := by
  unfold idx
  rw [List.findIdx?_eq_none_iff]
  intro g hg
  obtain ⟨j, hj, e⟩ := List.mem_iff_getElem.1 hg
  rw [hn j g hj (by rw [List.getElem?_eq_getElem hj, e])]
theorem idx_lt {got : List Got} {d : Dat} {i : Nat} (h : idx got d = some i) : i < got.length := by
  unfold idx at h
  rw [List.findIdx?_eq_some_iff_getElem] at h
  exact h.1
theorem plc_in (got : List Got) (d : Dat) : plc got d = -1 ∨ ∃ i : Nat, plc got d = (i : Int) ∧ i < got.length := by
  unfold plc
  split
  · split
    · rename_i i h; exact .inr ⟨i, rfl, idx_lt h⟩
    · exact .inl rfl
  · exact .inl rfl
set_option maxHeartbeats 2000000 in
theorem t31 (got : List Got) (d : Dat) (hgot : gfits got) (hl : got.length < 2 ^ 21) (hd : d.fits) {b : Nat} {m : Mem} (hb : has m b (enc d).cells) : EH Tryz.prog cw (.func 31) [.lst (encGs got), .fn (.func 51) [] [.ptr b 0]] m (int (match idx got d with | some i => (i : Int) | none => -1)) m := by
  refine eh_of (wph_go Tryz.func31 rfl rfl (by simp [Tryz.f31]) (by simp [Tryz.f31]) fun Q hQ => ?_)
  simp only [Tryz.f31, show cw.keepRes 31 = false from rfl, show cw.keepArgs 31 = false from rfl] at hQ ⊢
  simp
  refine go_count 8 got.length (fun i s m' => m' = m ∧ ∀ j g, j < i → got[j]? = some g → sam g.id d = false) (by simp) (by omega) ⟨rfl, fun _ _ h => by omega⟩ ?_
  rintro i s m' hi e8 ⟨rfl, hno⟩ hs hw Q' hn he
  have e0 : s.at 0 = .lst (encGs got) := (hs 0 (by kernel_rfl)).trans (by simp)
  have e1 : s.at 1 = .fn (.func 51) [] [.ptr b 0] := (hs 1 (by kernel_rfl)).trans (by simp)
  have e7 : s.at 7 = int got.length := (hs 7 (by kernel_rfl)).trans (by simp)
  clear hs
  simp [e8, e7]
  refine goB_split (fun h => ?_) fun h => ?_
  · have hlt : i < got.length := by simpa using h
    obtain ⟨g, hg⟩ : ∃ g, got[i]? = some g := ⟨_, List.getElem?_eq_getElem hlt⟩
    have hgm : g ∈ got := List.mem_of_getElem? hg
    have hg' : (encGs got)[i]? = some (encG g) := by rw [encGs_get, hg]; rfl
    simp [e8, e0, e1, aindexAddr_lst Tryz.underlying26 tsize44 hg' (encG_cells_length g), (t51 g d (gfits_mem hgot hgm) hd hb).go]
    cases hc : sam g.id d with
    | true =>
      simp
      refine he _ _ _ (by simp) ?_
      simp
      refine hQ _ _ _ (leave_sc (.inr rfl) at_set_eq ?_)
      rw [idx_some hg hc hno]
      exact ⟨rfl, rfl⟩
    | false =>
      simp [e8, hw]
      refine hn _ _ hlt (by simp) ⟨rfl, fun j g' hj hgj => ?_⟩
      rcases Nat.lt_or_ge j i with h2 | h2
      · exact hno j g' h2 hgj
      · obtain rfl : j = i := by omega
        rw [hg] at hgj
        cases hgj
        exact hc
  · have hge : i = got.length := by have := of_decide_eq_false h; omega
    subst hge
    simp
    refine he _ _ _ (by simp) ?_
    simp
    refine hQ _ _ _ (leave_sc (.inr rfl) at_set_eq ?_)
    rw [idx_none hno]
    exact ⟨rfl, rfl⟩
theorem t34 (got : List Got) (d : Dat) (hgot : gfits got) (hl : got.length < 2 ^ 21) (hd : d.fits) : Gives Tryz.prog cw 34 [.lst (encGs got), enc d] (int (plc got d)) := by
  refine gives_run Tryz.func34 rfl rfl rfl rfl (by simp [fzvs]) (by simp [Tryz.f34]) (by simp [Tryz.f34]) fun m => ?_
  have e31 := t31 got d hgot hl hd (b := m.next) (m := m.new (enc d).cells false) ⟨by simp, m.clock + 1, by simp⟩
  obtain ⟨K, N, S, M, L, T⟩ := d
  by_cases h : K = 5
  · subst h
    simp only [enc] at e31
    simp [Tryz.f34, show cw.keepRes 34 = false from rfl, enc]
    simp at e31
    simp [e31.go, plc, Dat.k]
  · simp [Tryz.f34, show cw.keepRes 34 = false from rfl, enc, h, plc, Dat.k]
end Go.Proofs.YtjiijacibpgciaaGreat
