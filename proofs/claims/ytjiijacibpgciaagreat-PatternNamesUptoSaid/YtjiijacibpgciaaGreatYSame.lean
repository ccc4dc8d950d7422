import Derived.Test.YtjiijacibpgciaaGreatYDat
/- Two data are the same. -/
set_option linter.unusedSimpArgs false
set_option linter.unusedVariables false
set_option linter.unusedSectionVars false
namespace Go.Proofs.YtjiijacibpgciaaGreat
set_option maxRecDepth 4000
open Go.V
attribute [local simp] Nat.add_assoc

mutual
def eqb : Dat → Dat → Bool
  | .mk K N S M L T, .mk K' N' S' M' L' T' => decide (K = K') && (decide (N = N') && (decide (S = S') && (decide (M = M') && (eqbs L L' && eqbs T T'))))
def eqbs : List Dat → List Dat → Bool
  | [], [] => true
  | a :: l, b :: r => eqb a b && eqbs l r
  | _, _ => false
end
theorem eqbs_iff : ∀ (L R : List Dat), eqbs L R = true ↔ L.length = R.length ∧ ∀ (j : Nat) a b, L[j]? = some a → R[j]? = some b → eqb a b = true
  | [], [] => by simp [eqbs]
  | [], _ :: _ => by simp [eqbs]
  | _ :: _, [] => by simp [eqbs]
  | a :: l, b :: r => by
    simp only [eqbs, Bool.and_eq_true, eqbs_iff l r]
    constructor
    · rintro ⟨h1, h2, h3⟩
      refine ⟨by simp [h2], fun j x y hx hy => ?_⟩
      cases j with
      | zero => simp at hx hy; subst hx; subst hy; exact h1
      | succ j => exact h3 j x y (by simpa using hx) (by simpa using hy)
    · rintro ⟨h1, h2⟩
      exact ⟨h2 0 a b rfl rfl, by simpa using h1, fun j x y hx hy => h2 (j + 1) x y (by simpa using hx) (by simpa using hy)⟩

theorem g63 (A B : List Int) (hA : A.length < 2 ^ 21) (hB : B.length < 2 ^ 21) : Gives Tryz.prog cf 67 [.lst (A.map int), .lst (B.map int)] (.sc (.bool (decide (A = B)))) := by
  refine gives_go Tryz.func67 rfl rfl rfl (by simp [Tryz.f67]) (by simp [Tryz.f67]) fun m Q hQ => ?_
  simp only [Tryz.f67, show cf.keepRes 67 = false from rfl] at hQ ⊢
  simp
  by_cases hl : A.length = B.length
  · simp [hl]
    refine go_count 13 A.length (fun i s m' => m' = m ∧ ∀ j, j < i → A[j]? = B[j]?) (by simp) (by omega) ⟨rfl, by simp⟩ ?_
    rintro i s _ hi e13 ⟨rfl, hall⟩ hs hw Q' hn he
    have e0 : s.at 0 = .lst (A.map int) := (hs 0 (by kernel_rfl)).trans (by simp)
    have e1 : s.at 1 = .lst (B.map int) := (hs 1 (by kernel_rfl)).trans (by simp)
    have e12 : s.at 12 = int B.length := (hs 12 (by kernel_rfl)).trans (by simp [hl])
    simp [e13, e12]
    refine goB_split (fun h => ?_) fun h => ?_
    · have hlt : i < A.length := by simp at h; omega
      obtain ⟨a, ha⟩ : ∃ a, A[i]? = some a := ⟨_, List.getElem?_eq_getElem hlt⟩
      obtain ⟨b, hb⟩ : ∃ b, B[i]? = some b := ⟨_, List.getElem?_eq_getElem (by omega)⟩
      have ha' : (A.map int)[i]? = some (int a) := by simp [ha]
      have hb' : (B.map int)[i]? = some (int b) := by simp [hb]
      simp [e0, e1, e13]
      refine go_draw_of (by kernel_rfl) ?_
      simp [aindexAddr_lst Tryz.underlying22 tsize3 ha' (by simp), aindexAddr_lst Tryz.underlying22 tsize3 hb' (by simp), e0, e1, e13]
      refine goM_nil (by kernel_rfl) ?_
      simp
      by_cases hab : a = b
      · simp [hab, e13, hw]
        refine hn _ _ hlt (by simp) ⟨rfl, fun j hj => ?_⟩
        rcases Nat.lt_or_ge j i with h2 | h2
        · exact hall j h2
        · obtain rfl : j = i := by omega
          rw [ha, hb, hab]
      · simp [hab]
        refine he _ _ _ (by simp) ?_
        simp
        refine hQ _ _ _ (leave_sc (.inr rfl) at_set_eq ⟨?_, by simp⟩)
        have : A ≠ B := by rintro rfl; rw [ha] at hb; cases hb; exact hab rfl
        simp [this]
    · simp
      refine he _ _ _ (by simp) ?_
      simp
      refine hQ _ _ _ (leave_sc (.inr rfl) at_set_eq ⟨?_, by simp⟩)
      have : A = B := List.ext_getElem? fun j => by
        rcases Nat.lt_or_ge j i with h2 | h2
        · exact hall j h2
        · rw [List.getElem?_eq_none (by simp at h; omega), List.getElem?_eq_none (by simp at h; omega)]
      simp [this]
  · have hl' : ¬ ((A.length : Int) = B.length) := by omega
    simp [hl']
    refine hQ _ _ _ (leave_sc (.inr rfl) at_set_eq ⟨?_, by simp⟩)
    have : A ≠ B := by rintro rfl; exact hl rfl
    simp [this]

/-- What 'equal' does at data of so many parts. -/
def EqAt (n : Nat) : Prop := ∀ (a b : Dat), a.size ≤ n → a.fits → b.fits → Gives Tryz.prog cf 49 [enc a, enc b] (.sc (.bool (eqb a b)))

theorem g64 {n : Nat} (ih : EqAt n) (L R : List Dat) (hs : sizes L ≤ n) (hL : fitss L) (hR : fitss R) (hl1 : L.length < 2 ^ 21) (hl2 : R.length < 2 ^ 21) : Gives Tryz.prog cf 68 [.lst (encs L), .lst (encs R), .fn (.func 49) [] []] (.sc (.bool (eqbs L R))) := by
  refine gives_go Tryz.func68 rfl rfl rfl (by simp [Tryz.f68]) (by simp [Tryz.f68]) fun m Q hQ => ?_
  simp only [Tryz.f68, show cf.keepRes 68 = false from rfl] at hQ ⊢
  simp
  by_cases hl : L.length = R.length
  · simp [hl]
    refine go_count 17 L.length (fun i s m' => Kp m m' ∧ ∀ (j : Nat) a b, j < i → L[j]? = some a → R[j]? = some b → eqb a b = true) (by simp) (by omega) ⟨by simp, by simp⟩ ?_
    rintro i s m' hi e17 ⟨hkp, hall⟩ hs' hw Q' hn he
    have e15 : s.at 15 = .lst (encs L) := (hs' 15 (by kernel_rfl)).trans (by simp)
    have e1 : s.at 1 = .lst (encs R) := (hs' 1 (by kernel_rfl)).trans (by simp)
    have e2 : s.at 2 = .fn (.func 49) [] [] := (hs' 2 (by kernel_rfl)).trans (by simp)
    have e16 : s.at 16 = int R.length := (hs' 16 (by kernel_rfl)).trans (by simp [hl])
    simp [e17, e16]
    refine goB_split (fun h => ?_) fun h => ?_
    · have hlt : i < L.length := by simp at h; omega
      obtain ⟨a, ha⟩ : ∃ a, L[i]? = some a := ⟨_, List.getElem?_eq_getElem hlt⟩
      obtain ⟨b, hb⟩ : ∃ b, R[i]? = some b := ⟨_, List.getElem?_eq_getElem (by omega)⟩
      have ha' : (encs L)[i]? = some (enc a) := by rw [encs_get, ha]; rfl
      have hb' : (encs R)[i]? = some (enc b) := by rw [encs_get, hb]; rfl
      have ham := List.mem_of_getElem? ha
      have hbm := List.mem_of_getElem? hb
      have := size_mem ham
      simp [e15, e1, e2, e17, aindexAddr_lst Tryz.underlying23 tsize25 ha' (enc_cells_length a), aindexAddr_lst Tryz.underlying23 tsize25 hb' (enc_cells_length b), (ih a b (by omega) (fits_mem hL ham) (fits_mem hR hbm)).go]
      cases hab : eqb a b with
      | true =>
        simp [e17, hw]
        refine hn _ _ hlt (by simp) ⟨hkp.trans (by simp), fun j x y hj hx hy => ?_⟩
        rcases Nat.lt_or_ge j i with h2 | h2
        · exact hall j x y h2 hx hy
        · obtain rfl : j = i := by omega
          rw [ha] at hx; rw [hb] at hy; cases hx; cases hy; exact hab
      | false =>
        simp
        refine he _ _ _ (by simp) ?_
        simp
        refine hQ _ _ _ (leave_sc (.inr rfl) at_set_eq ⟨?_, hkp.trans (by simp)⟩)
        have : ¬ eqbs L R = true := fun e => by have := ((eqbs_iff L R).1 e).2 i a b ha hb; rw [hab] at this; cases this
        simp [this]
    · simp
      refine he _ _ _ (by simp) ?_
      simp
      refine hQ _ _ _ (leave_sc (.inr rfl) at_set_eq ⟨?_, hkp⟩)
      have : eqbs L R = true := (eqbs_iff L R).2 ⟨hl, fun j x y hx hy => hall j x y (by have := (List.getElem?_eq_some_iff.1 hx).1; simp at h; omega) hx hy⟩
      simp [this]
  · have hl' : ¬ ((L.length : Int) = R.length) := by omega
    simp [hl']
    refine hQ _ _ _ (leave_sc (.inr rfl) at_set_eq ⟨?_, by simp⟩)
    have : ¬ eqbs L R = true := fun e => hl ((eqbs_iff L R).1 e).1
    simp [this]

theorem eq_at : ∀ n, EqAt n
  | 0, a, b, hs, _, _ => by cases a; simp [Dat.size] at hs
  | n + 1, .mk K N S M L T, .mk K' N' S' M' L' T', hs, ha, hb => by
    have fa := alone_fits ha
    have fb := alone_fits hb
    rw [Dat.fits] at ha hb
    rw [Dat.size] at hs
    refine gives_go Tryz.func49 rfl rfl rfl (by simp [Tryz.f49]) (by simp [Tryz.f49]) fun m Q hQ => ?_
    simp only [Tryz.f49, show cf.keepRes 49 = false from rfl, enc] at hQ ⊢
    have c1 := g63 M M' fa.m fb.m
    have c2 := g64 (eq_at n) L L' (by omega) ha.2.1 hb.2.1 fa.l fb.l
    have c3 := g64 (eq_at n) T T' (by omega) ha.2.2 hb.2.2 fa.t fb.t
    simp
    by_cases h1 : K = K'
    · by_cases h2 : N = N'
      · by_cases h3 : S = S'
        · simp [h1, h2, h3, c1.go]
          by_cases h4 : M = M'
          · simp [h4, c2.go]
            cases h5 : eqbs L L' with
            | true =>
              simp [c3.go]
              exact hQ _ _ _ (leave_sc (.inr rfl) at_set_eq ⟨by simp [eqb, h1, h2, h3, h4, h5], by simp⟩)
            | false =>
              simp
              exact hQ _ _ _ (leave_sc (.inr rfl) at_set_eq ⟨by simp [eqb, h1, h2, h3, h4, h5], by simp⟩)
          · simp [h4]
            exact hQ _ _ _ (leave_sc (.inr rfl) at_set_eq ⟨by simp [eqb, h1, h2, h3, h4], by simp⟩)
        · simp [h1, h2, h3]
          exact hQ _ _ _ (leave_sc (.inr rfl) at_set_eq ⟨by simp [eqb, h1, h2, h3], by simp⟩)
      · simp [h1, h2]
        exact hQ _ _ _ (leave_sc (.inr rfl) at_set_eq ⟨by simp [eqb, h1, h2], by simp⟩)
    · simp [h1]
      exact hQ _ _ _ (leave_sc (.inr rfl) at_set_eq ⟨by simp [eqb, h1], by simp⟩)
theorem g54 (a b : Dat) (ha : a.fits) (hb : b.fits) : Gives Tryz.prog cf 49 [enc a, enc b] (.sc (.bool (eqb a b))) := eq_at a.size a b (Nat.le_refl _) ha hb
end Go.Proofs.YtjiijacibpgciaaGreat
