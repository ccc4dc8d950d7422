import Derived.Test.YtipmoeclkamciaaYLaw6
/- A datum without marks: the plain law. -/
set_option linter.unusedSimpArgs false
set_option linter.unusedVariables false
set_option linter.unusedSectionVars false
namespace Go.Proofs.Ytipmoeclkamciaa
open Go.V

theorem re_K (f : List Int → List Int) (d : Dat) : (d.re f).K = d.K := by cases d; rw [Dat.re]; rfl
theorem res_isEmpty (f : List Int → List Int) (l : List Dat) : (res f l).isEmpty = l.isEmpty := by cases l <;> simp [res]

theorem alone_plain {K N : Int} {S : List UInt8} {M : List Int} {L T : List Dat} (h : alone (.mk K N S M L T) = true) : alone (.mk K N S [] (res (fun _ => []) L) (res (fun _ => []) T)) = true := by
  unfold alone at h ⊢
  dsimp only at h ⊢
  by_cases h1 : K = 1
  · simp [h1, res_isEmpty] at h ⊢; simp [h, res]
  by_cases h2 : K = 2
  · simp [h2, res_isEmpty] at h ⊢; simp [h, res]
  by_cases h3 : K = 3
  · simp [h3, res_isEmpty] at h ⊢; simp [h, res]
  by_cases h4 : K = 4
  · simp [h4, res_isEmpty] at h ⊢; simp [h, res]; exact h.1.1.1.1.2
  by_cases h5 : K = 5
  · simp [h5, res_isEmpty] at h ⊢; simp [h, res]
  by_cases h6 : K = 6 ∨ K = 8
  · rw [if_neg h1, if_neg h2, if_neg h3, if_neg h4, if_neg h5, if_pos h6] at h ⊢; simp at h ⊢; simp [h, res]
  by_cases h7 : K = 7
  · rw [if_neg h1, if_neg h2, if_neg h3, if_neg h4, if_neg h5, if_neg h6, if_pos h7] at h ⊢
    simp only [Bool.and_eq_true] at h ⊢
    obtain ⟨⟨⟨⟨a, b⟩, c⟩, e⟩, g⟩ := h
    refine ⟨⟨⟨⟨a, b⟩, rfl⟩, by rw [res_isEmpty]; exact e⟩, ?_⟩
    match T, g with
    | [t], g => simpa [res, re_K] using g
  · rw [if_neg h1, if_neg h2, if_neg h3, if_neg h4, if_neg h5, if_neg h6, if_neg h7] at h
    cases h

mutual
theorem good_plain : ∀ d : Dat, good d = true → good d.plain = true
  | .mk K N S M L T, h => by
    obtain ⟨h1, h2, h3⟩ := good_mk h
    show good (Dat.re (fun _ => []) (.mk K N S M L T)) = true
    rw [Dat.re, good]
    simp only [Bool.and_eq_true]
    exact ⟨alone_plain h1, goods_plain L h2, goods_plain T h3⟩
theorem goods_plain : ∀ l : List Dat, goods l = true → goods (res (fun _ => []) l) = true
  | [], h => by simp [res, goods]
  | d :: l, h => by
    rw [goods, Bool.and_eq_true] at h
    rw [res, goods, Bool.and_eq_true]
    exact ⟨good_plain d h.1, goods_plain l h.2⟩
end
mutual
theorem size_re (f : List Int → List Int) : ∀ d : Dat, (d.re f).size = d.size
  | .mk K N S M L T => by rw [Dat.re, Dat.size, Dat.size, sizes_res f L, sizes_res f T]
theorem sizes_res (f : List Int → List Int) : ∀ l : List Dat, sizes (res f l) = sizes l
  | [] => by simp [res]
  | d :: l => by rw [res, sizes, sizes, size_re f d, sizes_res f l]
end
mutual
theorem dpt_re (f : List Int → List Int) : ∀ d : Dat, dpt (d.re f) = dpt d
  | .mk K N S M L T => by rw [Dat.re, dpt, dpt, dpts_res f L, dpts_res f T]
theorem dpts_res (f : List Int → List Int) : ∀ l : List Dat, dpts (res f l) = dpts l
  | [] => by simp [res]
  | d :: l => by rw [res, dpts, dpts, dpt_re f d, dpts_res f l]
end
theorem chk_plain {d : Dat} (h : chk d = 0) : chk d.plain = 0 := by
  obtain ⟨a, b, c⟩ := chk_good h
  have e1 := size_re (fun _ => []) d
  have e2 := dpt_re (fun _ => []) d
  exact chk_part (good_plain d a) (by unfold Dat.plain; omega) (by unfold Dat.plain; omega)
mutual
theorem plain_plain : ∀ d : Dat, (d.re fun _ => []).re (fun _ => []) = d.re fun _ => []
  | .mk K N S M L T => by rw [Dat.re, Dat.re, ress_plain L, ress_plain T]
theorem ress_plain : ∀ l : List Dat, res (fun _ => []) (res (fun _ => []) l) = res (fun _ => []) l
  | [] => by simp [res]
  | d :: l => by rw [res, res, plain_plain d, ress_plain l]
end
mutual
theorem plain_fits : ∀ d : Dat, d.fits → d.plain.fits
  | .mk K N S M L T, h => by
    rw [Dat.fits] at h
    show (Dat.re (fun _ => []) (.mk K N S M L T)).fits
    rw [Dat.re, Dat.fits]
    exact ⟨⟨h.1.n, h.1.s, by simp, by simpa using h.1.l, by simpa using h.1.t⟩, plains_fits L h.2.1, plains_fits T h.2.2⟩
theorem plains_fits : ∀ l : List Dat, fitss l → fitss (res (fun _ => []) l)
  | [], _ => by simp [res, fitss]
  | d :: l, h => by
    rw [fitss] at h
    rw [res, fitss]
    exact ⟨plain_fits d h.1, plains_fits l h.2⟩
end
def Dat.M : Dat → List Int | .mk _ _ _ M _ _ => M
mutual
theorem pre_plain : ∀ d : Dat, ∀ p ∈ pre (d.re fun _ => []), p.M = []
  | .mk K N S M L T, p, h => by
    rw [Dat.re, pre] at h
    rcases List.mem_cons.1 h with rfl | h
    · rfl
    · rcases List.mem_append.1 h with h | h
      · exact pres_plain L p h
      · exact pres_plain T p h
theorem pres_plain : ∀ l : List Dat, ∀ p ∈ pres (res (fun _ => []) l), p.M = []
  | [], p, h => by simp [res, pres] at h
  | d :: l, p, h => by
    rw [res, pres] at h
    rcases List.mem_append.1 h with h | h
    · exact pre_plain d p h
    · exact pres_plain l p h
end
theorem pln_chk {d : Dat} (h : chk d = 0) : pln d = d.plain ∧ chk (pln d) = 0 ∧ siz (pln d) = siz d ∧ dep (pln d) = dep d ∧ pln (pln d) = pln d := by
  have h1 : pln d = d.plain := if_pos h
  have h2 := chk_plain h
  rw [h1]
  refine ⟨rfl, h2, ?_, ?_, ?_⟩
  · rw [siz_eq h2, siz_eq h]; unfold Dat.plain; rw [size_re]
  · rw [dep_eq h2, dep_eq h]; unfold Dat.plain; rw [dpt_re]
  · show (if chk d.plain = 0 then d.plain.plain else .zero) = _
    rw [if_pos h2]; exact plain_plain d
end Go.Proofs.Ytipmoeclkamciaa
