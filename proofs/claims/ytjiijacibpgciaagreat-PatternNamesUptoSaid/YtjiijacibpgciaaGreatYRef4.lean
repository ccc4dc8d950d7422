import Derived.Test.YtjiijacibpgciaaGreatYNodes
import Derived.Test.YtjiijacibpgciaaGreatVE
/- The reference: are two the same? -/
set_option linter.unusedSimpArgs false
set_option linter.unusedVariables false
set_option linter.unusedSectionVars false
namespace Go.Proofs.YtjiijacibpgciaaGreat
set_option maxRecDepth 4000
open Go.V
attribute [local simp] Nat.add_assoc

theorem g51 (A B : List Int) (hA : A.length < 2 ^ 21) (hB : B.length < 2 ^ 21) : Gives Tryz.prog cf 23 [.lst (A.map int), .lst (B.map int)] (.sc (.bool (decide (A = B)))) := by
  refine gives_go Tryz.func23 rfl rfl rfl (by simp [Tryz.f23]) (by simp [Tryz.f23]) fun m Q hQ => ?_
  simp only [Tryz.f23, show cf.keepRes 23 = false from rfl] at hQ ⊢
  simp
  by_cases hl : A.length = B.length
  · simp [hl]
    refine go_count 5 A.length (fun i s m' => m = m' ∧ ∀ j, j < i → A[j]? = B[j]?) (by simp) (by omega) ⟨rfl, by simp⟩ ?_
    rintro i s m' hi e5 ⟨rfl, hall⟩ hs hw Q' hn he
    have e0 : s.at 0 = .lst (A.map int) := (hs 0 (by kernel_rfl)).trans (by simp)
    have e1 : s.at 1 = .lst (B.map int) := (hs 1 (by kernel_rfl)).trans (by simp)
    clear hs
    simp [e5, e0]
    refine goB_split (fun h => ?_) fun h => ?_
    · have hlt : i < A.length := by simpa using h
      obtain ⟨a, ha⟩ : ∃ a, A[i]? = some a := ⟨_, List.getElem?_eq_getElem hlt⟩
      obtain ⟨b, hb⟩ : ∃ b, B[i]? = some b := ⟨_, List.getElem?_eq_getElem (by omega)⟩
      have ha' : (A.map int)[i]? = some (int a) := by simp [ha]
      have hb' : (B.map int)[i]? = some (int b) := by simp [hb]
      simp [e0, e1, e5]
      refine go_draw_of (by kernel_rfl) ?_
      simp [aindexAddr_lst Tryz.underlying22 tsize3 ha' (by simp), aindexAddr_lst Tryz.underlying22 tsize3 hb' (by simp), e0, e1, e5]
      refine goM_nil (by kernel_rfl) ?_
      simp
      by_cases hab : a = b
      · simp [hab, e5, hw]
        refine hn _ _ hlt (by simp) ⟨rfl, fun j hj => ?_⟩
        rcases Nat.lt_or_ge j i with h2 | h2
        · exact hall j h2
        · obtain rfl : j = i := by omega
          rw [ha, hb, hab]
      · simp [hab]
        refine he _ _ _ (by simp) ?_
        simp
        refine hQ _ _ _ (leave_sc (.inr rfl) at_set_eq ⟨?_, by simp⟩)
        have : A ≠ B := by rintro rfl; rw [ha] at hb; cases hb; exact hab rfl
        simp [this]
    · simp
      refine he _ _ _ (by simp) ?_
      simp
      refine hQ _ _ _ (leave_sc (.inr rfl) at_set_eq ⟨?_, by simp⟩)
      have : A = B := List.ext_getElem? fun j => by
        rcases Nat.lt_or_ge j i with h2 | h2
        · exact hall j h2
        · rw [List.getElem?_eq_none (by simp at h; omega), List.getElem?_eq_none (by simp at h; omega)]
      simp [this]
  · have hl' : ¬ ((A.length : Int) = B.length) := by omega
    simp [hl']
    refine hQ _ _ _ (leave_sc (.inr rfl) at_set_eq ⟨?_, by simp⟩)
    have : A ≠ B := by rintro rfl; exact hl rfl
    simp [this]

mutual
theorem pre_fits : ∀ (d : Dat), d.fits → fitss (pre d)
  | .mk K N S M L T, h => by
    have h2 := h
    rw [Dat.fits] at h2
    rw [pre, fitss]
    exact ⟨h, fitss_append (pres_fits L h2.2.1) (pres_fits T h2.2.2)⟩
theorem pres_fits : ∀ (l : List Dat), fitss l → fitss (pres l)
  | [], h => trivial
  | d :: l, h => by
    rw [fitss] at h
    rw [pres]
    exact fitss_append (pre_fits d h.1) (pres_fits l h.2)
theorem fitss_append : ∀ {a b : List Dat}, fitss a → fitss b → fitss (a ++ b)
  | [], b, _, h => h
  | d :: a, b, h, h2 => by
    rw [fitss] at h
    exact ⟨h.1, fitss_append h.2 h2⟩
end
theorem nodes_fits {d : Dat} (h : d.fits) : fitss (nodes d) := by
  by_cases hc : chk d = 0
  · rw [nodes_pre hc]; exact pre_fits d h
  · have : nodes d = [] := if_neg hc
    rw [this]; trivial
theorem nodes_len (d : Dat) : (nodes d).length ≤ 4096 := by
  have h := nodes_length d
  by_cases hc : chk d = 0
  · have := siz_eq hc; have := chk_size hc; omega
  · have := siz_no hc; omega

set_option maxHeartbeats 2000000 in
theorem toArray_mk {α : Type} (l : List α) : l.toArray = ⟨l⟩ := Eq.trans rfl rfl
theorem append_app {α : Type} (a b : List α) : List.append a b = a ++ b := Eq.trans rfl rfl
set_option maxRecDepth 100000 in
set_option maxHeartbeats 4000000 in
theorem g26 (a b : Dat) (ha : a.fits) (hb : b.fits) : Gives Tryz.prog cf 10 [enc a, enc b] (.sc (.bool (sam a b))) := by
  refine gives_go Tryz.func10 rfl rfl rfl (by simp [Tryz.f10]) (by simp [Tryz.f10]) fun m Q hQ => ?_
  simp only [Tryz.f10, show cf.keepRes 10 = false from rfl] at hQ ⊢
  simp only [toArray_mk, append_app, List.cons_append, List.nil_append]
  rw [sam_nodes] at hQ
  have fA := nodes_fits ha
  have fB := nodes_fits hb
  have lA := nodes_len a
  have lB := nodes_len b
  simp [(g28 a ha).go, (g28 b hb).go]
  generalize nodes a = A at *
  generalize nodes b = B at *
  by_cases h0 : A = []
  · simp [h0]
    exact hQ _ _ _ (leave_sc (.inr rfl) at_set_eq ⟨by simp [h0], by simp⟩)
  by_cases hl : A.length = B.length
  · simp [h0, hl]
    refine go_count 7 A.length (fun i s m' => Kp m m' ∧ ∀ (j : Nat) a b, j < i → A[j]? = some a → B[j]? = some b → nsame a b = true) (by simp) (by omega) ⟨by simp, by simp⟩ ?_
    rintro i s m' hi e7 ⟨hkp, hall⟩ hs hw Q' hn he
    have e5 : s.at 5 = .lst (encs A) := (hs 5 (by kernel_rfl)).trans (by simp)
    have e6 : s.at 6 = .lst (encs B) := (hs 6 (by kernel_rfl)).trans (by simp)
    clear hs
    simp [e7, e5]
    refine goB_split (fun h => ?_) fun h => ?_
    · have hlt : i < A.length := by simpa using h
      obtain ⟨x, hx⟩ : ∃ x, A[i]? = some x := ⟨_, List.getElem?_eq_getElem hlt⟩
      obtain ⟨y, hy⟩ : ∃ y, B[i]? = some y := ⟨_, List.getElem?_eq_getElem (by omega)⟩
      have ha' := hx
      have hb' := hy
      have fx := fits_mem fA (List.mem_of_getElem? hx)
      have fy := fits_mem fB (List.mem_of_getElem? hy)
      have hxe : (encs A)[i]? = some (enc x) := by rw [encs_get, hx]; rfl
      have hye : (encs B)[i]? = some (enc y) := by rw [encs_get, hy]; rfl
      have ixA := aindexAddr_lst (P := Tryz.prog) (q := .i64) Tryz.underlying23 tsize25 hxe (enc_cells_length x)
      have ixB := aindexAddr_lst (P := Tryz.prog) (q := .i64) Tryz.underlying23 tsize25 hye (enc_cells_length y)
      obtain ⟨K, N, S, M, L, T⟩ := x
      obtain ⟨K', N', S', M', L', T'⟩ := y
      have c51 := g51 M M' (alone_fits fx).m (alone_fits fy).m
      simp only [enc] at ixA ixB
      have stop : ∀ (s4 : Sl) (m4 : Mem), Kp m m4 ∧ s4.at 4 = .sc (.bool false) → nsame (.mk K N S M L T) (.mk K' N' S' M' L' T') = false → Q .ret s4 m4 := by
        intro s4 m4 hk hf
        refine hQ _ _ _ (leave_sc (.inr rfl) hk.2 ⟨?_, hk.1⟩)
        have : ¬ all2 A B = true := fun e => by have := ((all2_iff A B).1 e).2 i _ _ ha' hb'; rw [hf] at this; cases this
        simp [this]
      simp
      refine go_draw0 (by kernel_rfl) (by kernel_rfl) ?_
      simp [e5, e6, e7, ixA, ixB]
      by_cases h1 : K = K'
      · simp [e5, e6, e7, ixA, ixB, h1]
        by_cases h2 : N = N'
        · simp [e5, e6, e7, ixA, ixB, h1, h2]
          by_cases h3 : S = S'
          · simp [e5, e6, e7, ixA, ixB, h1, h2, h3]
            by_cases h4 : M = M'
            · subst h4; simp [e5, e6, e7, ixA, ixB, c51.go]
              by_cases h5 : (L.length : Int) = L'.length
              · simp [e5, e6, e7, ixA, ixB, h1, h2, h3, h5]
                by_cases h6 : (T.length : Int) = T'.length
                · simp [e5, e6, e7, ixA, ixB, h1, h2, h3, h5, h6, e7, hw]
                  refine hn _ _ hlt (by simp) ⟨hkp, fun j x y hj hxx hyy => ?_⟩
                  rcases Nat.lt_or_ge j i with g2 | g2
                  · exact hall j x y g2 hxx hyy
                  · obtain rfl : j = i := by omega
                    rw [ha'] at hxx; rw [hb'] at hyy; cases hxx; cases hyy
                    have h5' : L.length = L'.length := by omega
                    have h6' : T.length = T'.length := by omega
                    simp [nsame, h1, h2, h3, h5', h6']
                · have h6' : ¬ (T.length = T'.length) := by omega
                  simp [e5, e6, e7, ixA, ixB, h1, h2, h3, h5, h6]
                  refine he _ _ _ (by simp) ?_
                  simp
                  exact stop _ _ ⟨hkp, by simp⟩ (by simp [nsame, h1, h2, h3, h5, h6, h6'])
              · have h5' : ¬ (L.length = L'.length) := by omega
                simp [e5, e6, e7, ixA, ixB, h1, h2, h3, h5]
                refine he _ _ _ (by simp) ?_
                simp
                exact stop _ _ ⟨hkp, by simp⟩ (by simp [nsame, h1, h2, h3, h5, h5'])
            · simp [e5, e6, e7, ixA, ixB, h4, c51.go]
              refine he _ _ _ (by simp) ?_
              simp
              exact stop _ _ ⟨hkp, by simp⟩ (by simp [nsame, h1, h2, h3, h4])
          · simp [e5, e6, e7, ixA, ixB, h1, h2, h3]
            refine he _ _ _ (by simp) ?_
            simp
            exact stop _ _ ⟨hkp, by simp⟩ (by simp [nsame, h1, h2, h3])
        · simp [e5, e6, e7, ixA, ixB, h1, h2]
          refine he _ _ _ (by simp) ?_
          simp
          exact stop _ _ ⟨hkp, by simp⟩ (by simp [nsame, h1, h2])
      · simp [e5, e6, e7, ixA, ixB, h1]
        refine he _ _ _ (by simp) ?_
        simp
        exact stop _ _ ⟨hkp, by simp⟩ (by simp [nsame, h1])
    · simp
      refine he _ _ _ (by simp) ?_
      simp
      refine hQ _ _ _ (leave_sc (.inr rfl) at_set_eq ⟨?_, hkp⟩)
      have : all2 A B = true := (all2_iff A B).2 ⟨hl, fun j x y hx hy => hall j x y (by have := (List.getElem?_eq_some_iff.1 hx).1; simp at h; omega) hx hy⟩
      simp [this, h0]
  · have hl' : ¬ ((A.length : Int) = B.length) := by omega
    simp [h0, hl']
    refine hQ _ _ _ (leave_sc (.inr rfl) at_set_eq ⟨?_, by simp⟩)
    have : ¬ all2 A B = true := fun e => hl ((all2_iff A B).1 e).1
    simp [this]
end Go.Proofs.YtjiijacibpgciaaGreat
