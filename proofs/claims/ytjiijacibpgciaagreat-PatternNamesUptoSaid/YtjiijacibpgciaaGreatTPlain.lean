import Derived.Test.YtjiijacibpgciaaGreatTLeaf
/- The plain law: each symbol is of what was got, or of the template. -/
set_option linter.unusedSimpArgs false
set_option linter.unusedVariables false
set_option linter.unusedSectionVars false
namespace Go.Proofs.YtjiijacibpgciaaGreat
set_option maxRecDepth 4000
open Go.V

mutual
theorem good_pre : ∀ (d : Dat), good d = true → ∀ x ∈ pre d, good x = true
  | .mk K N S M L T, h, x, hx => by
    obtain ⟨_, h1, h2⟩ := good_mk h
    rw [pre, List.mem_cons, List.mem_append] at hx
    rcases hx with rfl | hx | hx
    · exact h
    · exact good_pres L h1 x hx
    · exact good_pres T h2 x hx
theorem good_pres : ∀ (l : List Dat), goods l = true → ∀ x ∈ pres l, good x = true
  | [], _, x, hx => by simp [pres] at hx
  | d :: l, h, x, hx => by
    rw [goods] at h
    simp at h
    rw [pres, List.mem_append] at hx
    exact hx.elim (good_pre d h.1 x) (good_pres l h.2 x)
end
theorem sym_mk {x : Dat} (h5 : x.k = 5) (hg : good x = true) : ∃ (S : List UInt8) (M : List Int), x = .mk 5 0 S M [] [] := by
  obtain ⟨K, N, S, M, L, T⟩ := x
  obtain ⟨h, _⟩ := good_mk hg
  simp only [Dat.k] at h5
  subst h5
  simp [alone] at h
  exact ⟨S, M, by simp [h]⟩
theorem sam_self {x : Dat} (h5 : x.k = 5) (hg : good x = true) : sam x x = true := by
  obtain ⟨S, M, rfl⟩ := sym_mk h5 hg
  have : chk (.mk 5 0 S M [] []) = 0 := chk_iff.2 ⟨hg, by simp [Dat.size, sizes], by simp [dpt, dpts]⟩
  simp [sam, this, eqb_refl]
/-- A template's part, marked. -/
def mkd (mark : Int) : Dat → Dat
  | .mk K N S M L T => if K = 5 ∧ mark ≠ 0 then .mk 5 0 S (M ++ [mark]) [] [] else .mk K N S M L T
def mayL (got : List Got) (tmpl : Dat) (mark : Int) : List Dat := lfs got ++ (nodes tmpl).map (mkd mark)
def RR (l : List Dat) (x : Dat) : Prop := good x = true → ∃ y ∈ l, sam x y = true
theorem allSym_may {l : List Dat} {D : Dat} (h : chk D = 0) (hl : ∀ y ∈ (nodes D).filter isSym, y ∈ l) : AllSym (RR l) D := by
  intro x hx h5 hg
  refine ⟨x, hl x ?_, sam_self h5 hg⟩
  rw [nodes_pre h, List.mem_filter]
  exact ⟨hx, by simp [isSym, h5]⟩
theorem RR_zero {l : List Dat} : AllSym (RR l) (.mk 0 0 [] [] [] []) := pre_zero
mutual
theorem okG_may {l : List Dat} : ∀ g : Got, mayP g → short g → (∀ y ∈ lf g, y ∈ l) → okG (RR l) g
  | .mk I n D L, hm, hs, hl => by
    rw [mayP] at hm
    rw [short] at hs
    rw [lf] at hl
    rw [okG]
    have hL : ∀ y ∈ lfs L, y ∈ l := fun y hy => hl y (by simp [hy])
    refine ⟨fun h0 => ?_, fun h0 => (hm.2 h0).1, hs.1, ?_⟩
    · refine ⟨(hm.1 h0).2, allSym_may (hm.1 h0).2 fun y hy => hl y ?_⟩
      rw [if_pos h0]
      simp [hy]
    · by_cases h0 : n = 0
      · rw [(hm.1 h0).1]; trivial
      · exact okGs_may L (hm.2 h0).2 hs.2 hL
theorem okGs_may {l : List Dat} : ∀ gs : List Got, mayPs gs → shorts gs → (∀ y ∈ lfs gs, y ∈ l) → okGs (RR l) gs
  | [], _, _, _ => trivial
  | g :: gs, hm, hs, hl => by
    rw [mayPs] at hm
    rw [shorts] at hs
    rw [lfs] at hl
    rw [okGs]
    exact ⟨okG_may g hm.1 hs.1 fun y hy => hl y (by simp [hy]), okGs_may gs hm.2 hs.2 fun y hy => hl y (by simp [hy])⟩
end
theorem tmp_may {l : List Dat} {tmpl : Dat} {mark : Int} (h0 : 0 ≤ mark) (hc : chk tmpl = 0) (hl : ∀ y ∈ (nodes tmpl).map (mkd mark), y ∈ l) : Tmp (RR l) mark tmpl := by
  obtain ⟨g1, g2, g3⟩ := chk_good hc
  refine ⟨g1, g2, ?_⟩
  rintro x hx h5 K N S M rfl hg
  simp only [Dat.k] at h5
  subst h5
  refine ⟨mkd mark (.mk 5 N S M [] []), hl _ (List.mem_map.2 ⟨_, by rw [nodes_pre hc]; exact hx, rfl⟩), ?_⟩
  obtain ⟨S', M', e⟩ := sym_mk (x := .mk 5 N S M [] []) rfl (good_pre _ g1 _ hx)
  cases e
  by_cases hm : mark = 0
  · subst hm
    simp [mkd] at hg ⊢
    exact sam_self rfl hg
  · have : 0 < mark := by omega
    simp [mkd, hm, this] at hg ⊢
    exact sam_self rfl hg
/-- What is asked of what is built, for the law. -/
theorem built_may {l : List Dat} {d : Dat} (hc : chk d = 0) (h : AllSym (RR l) d) : ∀ x ∈ nodes d, x.k = 5 → ∃ y ∈ l, sam x y = true := by
  intro x hx h5
  rw [nodes_pre hc] at hx
  exact h x hx h5 (good_pre _ (chk_good hc).1 _ hx)
end Go.Proofs.YtjiijacibpgciaaGreat
