import Derived.Test.YtnhcmcfgemoehaaGreatYWalk2
/- Going through a datum: the reference. -/
set_option linter.unusedSimpArgs false
set_option linter.unusedVariables false
set_option linter.unusedSectionVars false
namespace Go.Proofs.YtnhcmcfgemoehaaGreat
set_option maxRecDepth 4000
open Go.V

/-- What the reference's walk has: the parts, how deep each stands, the error. -/
structure RS where
  ps : List Dat
  ds : List Int
  e : Int

mutual
def rgo : Dat → Int → RS → RS
  | .mk K N S M L T, deep, r =>
    if r.e ≠ 0 then r else if 64 < deep then { r with e := 4 } else if 4096 ≤ (r.ps.length : Int) then { r with e := 3 } else if alone (.mk K N S M L T) = false then { r with e := 20 } else
    rgos T (deep + 1) (rgos L (deep + 1) ⟨r.ps ++ [.mk K N S M L T], r.ds ++ [deep], 0⟩)
def rgos : List Dat → Int → RS → RS
  | [], _, r => r
  | d :: l, deep, r => rgos l deep (rgo d deep r)
end

mutual
theorem rgo_err : ∀ (d : Dat) (deep : Int) (r : RS), r.e ≠ 0 → rgo d deep r = r
  | .mk K N S M L T, deep, r, h => by rw [rgo, if_pos h]
theorem rgos_err : ∀ (l : List Dat) (deep : Int) (r : RS), r.e ≠ 0 → rgos l deep r = r
  | [], deep, r, h => by rw [rgos]
  | d :: l, deep, r, h => by rw [rgos, rgo_err d deep r h, rgos_err l deep r h]
end

/-- The two walks go alike. -/
structure Alike (r r' : RS) (q : Int) (w : Int × Int × Int) : Prop where
  e : r'.e = w.1
  more : ∃ (np : List Dat) (nd : List Int), r'.ps = r.ps ++ np ∧ r'.ds = r.ds ++ nd ∧ np.length = nd.length ∧ w.2.1 = r.ps.length + np.length ∧ w.2.2 = nd.foldl max q

mutual
theorem rgo_wk : ∀ (d : Dat) (deep : Int) (r : RS) (q : Int), r.e = 0 → Alike r (rgo d deep r) q (wk d deep r.ps.length q)
  | .mk K N S M L T, deep, r, q, h => by
    rw [rgo, wk, if_neg (by simp [h])]
    split
    · exact ⟨rfl, [], [], by simp, by simp, rfl, by simp, rfl⟩
    split
    · exact ⟨rfl, [], [], by simp, by simp, rfl, by simp, rfl⟩
    split
    · exact ⟨rfl, [], [], by simp, by simp, rfl, by simp, rfl⟩
    have h1 := rgos_wk L (deep + 1) ⟨r.ps ++ [.mk K N S M L T], r.ds ++ [deep], 0⟩ (max q deep) rfl
    have hl : ((r.ps ++ [Dat.mk K N S M L T]).length : Int) = r.ps.length + 1 := by simp
    dsimp only at h1
    rw [hl] at h1
    generalize rgos L (deep + 1) ⟨r.ps ++ [.mk K N S M L T], r.ds ++ [deep], 0⟩ = r1 at h1
    generalize wks L (deep + 1) ((r.ps.length : Int) + 1) (max q deep) = w1 at h1
    obtain ⟨he, np, nd, hp, hd, hn, hc, hq⟩ := h1
    dsimp only at hp hd hc
    unfold nxt
    split
    · rename_i h0
      have h2 := rgos_wk T (deep + 1) r1 w1.2.2 (by rw [he, h0])
      have hl2 : (r1.ps.length : Int) = w1.2.1 := by rw [hp, hc]; simp; omega
      rw [hl2] at h2
      obtain ⟨he2, np2, nd2, hp2, hd2, hn2, hc2, hq2⟩ := h2
      refine ⟨he2, .mk K N S M L T :: np ++ np2, deep :: nd ++ nd2, by rw [hp2, hp]; simp, by rw [hd2, hd]; simp, by simp [hn, hn2], ?_, ?_⟩
      · rw [hc2, hl2, hc]; simp; omega
      · rw [hq2, hq]; simp
    · rename_i h0
      rw [rgos_err T _ _ (by rw [he]; exact h0)]
      refine ⟨he, .mk K N S M L T :: np, deep :: nd, by rw [hp]; simp, by rw [hd]; simp, by simp [hn], ?_, ?_⟩
      · rw [hc]; simp; omega
      · rw [hq]; simp
theorem rgos_wk : ∀ (l : List Dat) (deep : Int) (r : RS) (q : Int), r.e = 0 → Alike r (rgos l deep r) q (wks l deep r.ps.length q)
  | [], deep, r, q, h => by rw [rgos, wks]; exact ⟨h, [], [], by simp, by simp, rfl, by simp, rfl⟩
  | d :: l, deep, r, q, h => by
    rw [rgos, wks]
    have h1 := rgo_wk d deep r q h
    generalize rgo d deep r = r1 at h1
    generalize wk d deep r.ps.length q = w1 at h1
    obtain ⟨he, np, nd, hp, hd, hn, hc, hq⟩ := h1
    unfold nxt
    split
    · rename_i h0
      have h2 := rgos_wk l deep r1 w1.2.2 (by rw [he, h0])
      have hl2 : (r1.ps.length : Int) = w1.2.1 := by rw [hp, hc]; simp
      rw [hl2] at h2
      obtain ⟨he2, np2, nd2, hp2, hd2, hn2, hc2, hq2⟩ := h2
      refine ⟨he2, np ++ np2, nd ++ nd2, by rw [hp2, hp]; simp, by rw [hd2, hd]; simp, by simp [hn, hn2], ?_, ?_⟩
      · rw [hc2, hl2, hc]; simp; omega
      · rw [hq2, hq]; simp
    · rename_i h0
      rw [rgos_err l _ _ (by rw [he]; exact h0)]
      exact ⟨he, np, nd, hp, hd, hn, hc, hq⟩
end
end Go.Proofs.YtnhcmcfgemoehaaGreat
