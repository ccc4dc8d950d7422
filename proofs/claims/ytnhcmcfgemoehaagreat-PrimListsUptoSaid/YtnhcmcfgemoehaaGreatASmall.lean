import Derived.Test.YtnhcmcfgemoehaaGreatALaw
import Derived.Test.YtnhcmcfgemoehaaGreatYRef3
/- Whether data are few and small. -/
set_option linter.unusedSimpArgs false
set_option linter.unusedVariables false
set_option linter.unusedSectionVars false
namespace Go.Proofs.YtnhcmcfgemoehaaGreat
set_option maxRecDepth 4000
open Go.V
attribute [local simp] Nat.add_assoc

def smallD : Dat → Bool
  | .mk K N S M L T => !decide (1000 < S.length) && (!decide (100 < M.length) && (!decide (300 < L.length) && (!decide (10 < T.length) && !decide (300 < siz (.mk K N S M L T)))))
def smallB (l : List Dat) : Bool := !decide (12 < l.length) && l.all smallD
theorem small_siz {l : List Dat} (h : smallB l = true) {d : Dat} (hd : d ∈ l) : siz d ≤ 300 := by
  simp [smallB] at h
  have := h.2 d hd
  obtain ⟨K, N, S, M, L, T⟩ := d
  simp [smallD] at this
  omega
set_option maxHeartbeats 8000000 in
theorem q19 (l : List Dat) (hf : ∀ d ∈ l, d.fits) (m : Mem) : EH Tryz.prog ca (.func 19) [.lst (encs l), .emp 0] m (.sc (.bool (smallB l))) m := by
  refine eh_run Tryz.func19 rfl rfl rfl rfl (args1 := [.lst (encs l), .lst []]) (m1 := m) (by simp [fzvs, fzv, fz1]) (by simp) (by simp [Tryz.f19]) (by simp [Tryz.f19]) ?_
  simp only [Tryz.f19, show ca.keepRes 19 = false from rfl]
  have ln : ∀ (R : TypeId) (m : Mem), abuiltin Tryz.prog .len #[43] R [.lst (encs l)] m = some (int l.length, m) := fun R m => by rw [alen_lst Tryz.underlying43]; simp
  have ln0 : ∀ (R : TypeId) (m : Mem), abuiltin Tryz.prog .len #[63] R [.lst []] m = some (int 0, m) := fun R m => by rw [alen_lst Tryz.underlying63]; rfl
  obtain ⟨g, hgd⟩ : ∃ g, g = smallB l := ⟨_, rfl⟩
  rw [← hgd]
  simp [ln, ln0]
  by_cases h12 : 12 < l.length
  · have h12' : (12 : Int) < l.length := by omega
    have e0 : g = false := by rw [hgd]; simp [smallB, h12]
    subst e0
    simp [h12', undefV, undef]
  have h12' : ¬ (12 : Int) < l.length := by omega
  simp [h12', ln, ln0]
  refine go_count 19 l.length (fun i s' m' => Kp m m' ∧ ∀ j d, j < i → l[j]? = some d → smallD d = true) (by simp) (by omega) ⟨.refl m, fun j d h => by omega⟩ ?_
  rintro i s' m' hi e19 ⟨hkp, hall⟩ hsame hw Q' hn he
  have d1 : s'.at 1 = .lst [] := (hsame 1 (by kernel_rfl)).trans (by simp)
  have d17 : s'.at 17 = .lst (encs l) := (hsame 17 (by kernel_rfl)).trans (by simp)
  have d18 : s'.at 18 = int l.length := (hsame 18 (by kernel_rfl)).trans (by simp)
  clear hsame
  simp [e19, d18]
  refine goB_split (fun h => ?_) fun h => ?_
  · have hlt : i < l.length := by simpa using h
    obtain ⟨x, hx⟩ : ∃ x, l[i]? = some x := ⟨_, List.getElem?_eq_getElem hlt⟩
    have hx' : (encs l)[i]? = some (enc x) := by rw [encs_get, hx]; rfl
    have hxl := List.mem_of_getElem? hx
    have fx := hf x hxl
    have hix := aindexAddr_lst (P := Tryz.prog) (q := .i64) Tryz.underlying43 tsize56 hx' (enc_cells_length x)
    have qs := ca_gives (g34 x fx)
    have bad : smallD x = false → g = false := fun h => by
      rw [hgd]
      have : l.all smallD = false := by
        rw [← Bool.not_eq_true, List.all_eq_true]
        intro hh
        have := hh x hxl
        rw [h] at this; cases this
      simp [smallB, this]
    obtain ⟨K, N, S, M, L, T⟩ := x
    have ft := alone_fits fx
    simp only [enc] at qs hix
    have l54 : ∀ (R : TypeId) (m : Mem), abuiltin Tryz.prog .len #[54] R [.lst (M.map int)] m = some (int M.length, m) := fun R m => by rw [alen_lst Tryz.underlying54]; simp
    have l43 : ∀ (q : List Dat) (R : TypeId) (m : Mem), abuiltin Tryz.prog .len #[43] R [.lst (encs q)] m = some (int q.length, m) := fun q R m => by rw [alen_lst Tryz.underlying43]; simp
    have zd : List.drop 6 zeroCells = [] := rfl
    have fin : ∀ (s2 : Sl) (m2 : Mem), smallD (.mk K N S M L T) = false → s2.at 4 = .sc (.bool false) → Kp m m2 → Q' .ret s2 m2 := fun s2 m2 h1 h2 h3 => by
      refine he _ _ _ (by simp) ?_
      have := bad h1
      subst this
      simp [h2]
      exact h3
    have k4 : Kp m ((m'.new zeroCells false).set m'.next [int K, int N, .sc (.string ⟨⟨S⟩⟩), .lst (M.map int), .lst (encs L), .lst (encs T)]) := hkp.trans (by simp)
    by_cases p1 : 1000 < S.length
    · have p1' : (1000 : Int) < S.length := by omega
      simp [e19, d17, hix, zd, p1', undefV, undef]
      exact fin _ _ (by simp [smallD, p1]) (by simp) k4
    have p1' : ¬ (1000 : Int) < S.length := by omega
    by_cases p2 : 100 < M.length
    · have p2' : (100 : Int) < M.length := by omega
      simp [e19, d17, hix, zd, p1', p2', l54, undefV, undef]
      exact fin _ _ (by simp [smallD, p2]) (by simp) k4
    have p2' : ¬ (100 : Int) < M.length := by omega
    by_cases p3 : 300 < L.length
    · have p3' : (300 : Int) < L.length := by omega
      simp [e19, d17, hix, zd, p1', p2', p3', l54, l43, undefV, undef]
      exact fin _ _ (by simp [smallD, p3]) (by simp) k4
    have p3' : ¬ (300 : Int) < L.length := by omega
    by_cases p4 : 10 < T.length
    · have p4' : (10 : Int) < T.length := by omega
      simp [e19, d17, hix, zd, p1', p2', p3', p4', l54, l43, undefV, undef]
      exact fin _ _ (by simp [smallD, p4]) (by simp) k4
    have p4' : ¬ (10 : Int) < T.length := by omega
    simp [e19, d17, hix, zd, p1', p2', p3', p4', l54, l43, qs.go]
    by_cases p5 : 300 < siz (.mk K N S M L T)
    · simp [p5]
      exact fin _ _ (by simp [smallD, p5]) (by simp) k4
    · simp [p5, e19, hw]
      refine hn _ _ hlt (by simp) ⟨k4, fun j u hj hu => ?_⟩
      by_cases hji : j = i
      · subst hji
        rw [hx] at hu
        cases hu
        simp [smallD, p1, p2, p3, p4, p5]
      · exact hall j u (by omega) hu
  · have hge : i = l.length := by have := of_decide_eq_false h; omega
    subst hge
    have e0 : g = true := by
      rw [hgd]
      simp [smallB, h12]
      exact fun x hx => by
        obtain ⟨j, hj, e⟩ := List.mem_iff_getElem.1 hx
        exact hall j x hj (by rw [List.getElem?_eq_getElem hj, e])
    subst e0
    simp
    refine he _ _ _ (by simp) ?_
    simp [d1, ln0]
    refine go_count 53 0 (fun i s2 m2 => Kp m m2) (by simp) (by omega) hkp ?_
    rintro i s2 m2 hi e53 hk2 hsame hw Q' hn he
    have d52 : s2.at 52 = int 0 := (hsame 52 (by kernel_rfl)).trans (by simp)
    have hi0 : i = 0 := by omega
    subst hi0
    simp [e53, d52]
    refine he _ _ _ (by simp) ?_
    simp
    exact hk2
end Go.Proofs.YtnhcmcfgemoehaaGreat
