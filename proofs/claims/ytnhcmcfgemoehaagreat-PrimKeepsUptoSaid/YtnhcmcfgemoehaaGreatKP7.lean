import Derived.Test.YtnhcmcfgemoehaaGreatKP6
import Derived.WalkKit
import Derived.ProofKit
import Derived.OpenShut
import Derived.JoinedCond
/- Whether data and calls are few and small. -/
set_option linter.unusedSimpArgs false
set_option linter.unusedVariables false
set_option linter.unusedSectionVars false
namespace Go.Proofs.YtnhcmcfgemoehaaGreat
set_option maxRecDepth 4000
open Go.V
attribute [local simp] Nat.add_assoc
/-- A procedure that is called with values. -/
abbrev Cal := Int × List Val
def calA (c : Cal) : AV := .agg [int c.1, .lst (vals c.2)]
def cals (l : List Cal) : List AV := l.map calA
@[simp] theorem calA_okc (c : Cal) : (calA c).okc = true := Eq.trans rfl rfl
@[simp] theorem calA_cells (c : Cal) : (calA c).cells = [int c.1, .lst (vals c.2)] := Eq.trans rfl rfl
@[simp] theorem calA_bel (c : Cal) (n : Nat) : (calA c).bel n = true := by simp [calA, AV.bel, AV.bels]
@[simp] theorem calA_fzv (c : Cal) (m : Mem) : fzv m (calA c) = (calA c, m) := by simp [calA, fzv, fzs, fz1]
@[simp] theorem cals_length (l : List Cal) : (cals l).length = l.length := by simp [cals]
theorem cals_at {l : List Cal} {i : Nat} {c : Cal} (h : l[i]? = some c) : aindexAddr Tryz.prog 63 (.lst (cals l)) (int i) = some ((calA c).cptr 0) := aindexAddr_lst (P := Tryz.prog) (q := .i64) Tryz.underlying63 tsize68 (by simp [cals, h]) (by simp)
def smallC (l : List Dat) (cs : List Cal) : Bool := smallB l && (!decide (40 < cs.length) && cs.all fun c => !decide (50 < c.2.length))
theorem smallC_data {l : List Dat} {cs : List Cal} (h : smallC l cs = true) : smallB l = true := by simp [smallC] at h; exact h.1
theorem smallC_calls {l : List Dat} {cs : List Cal} (h : smallC l cs = true) : cs.length ≤ 40 ∧ ∀ c ∈ cs, c.2.length ≤ 50 := by
  simp [smallC] at h
  exact ⟨by omega, fun c hc => by have := h.2.2 c.1 c.2 hc; omega⟩
set_option maxHeartbeats 8000000 in
theorem q19c (l : List Dat) (cs : List Cal) (hf : ∀ d ∈ l, d.fits) (hcl : cs.length < 2 ^ 21) (m : Mem) : EH Tryz.prog ca (.func 19) [.lst (encs l), .lst (cals cs)] m (.sc (.bool (smallC l cs))) m := by
  refine eh_run Tryz.func19 rfl rfl rfl rfl (args1 := [.lst (encs l), .lst (cals cs)]) (m1 := m) (by simp [fzvs, fzv, fz1]) (by simp) (by simp [Tryz.f19]) (by simp [Tryz.f19]) ?_
  simp only [Tryz.f19, show ca.keepRes 19 = false from rfl]
  have ln : ∀ (R : TypeId) (m : Mem), abuiltin Tryz.prog .len #[43] R [.lst (encs l)] m = some (int l.length, m) := fun R m => by rw [alen_lst Tryz.underlying43]; simp
  have ln0 : ∀ (R : TypeId) (m : Mem), abuiltin Tryz.prog .len #[63] R [.lst (cals cs)] m = some (int cs.length, m) := fun R m => by rw [alen_lst Tryz.underlying63]; simp
  obtain ⟨g, hgd⟩ : ∃ g, g = smallC l cs := ⟨_, rfl⟩
  rw [← hgd]
  simp [ln, ln0]
  by_cases h12 : 12 < l.length
  · have h12' : (12 : Int) < l.length := by omega
    have e0 : g = false := by rw [hgd]; simp [smallC, smallB, h12]
    subst e0
    simp [h12', undefV, undef]
  have h12' : ¬ (12 : Int) < l.length := by omega
  by_cases h40 : 40 < cs.length
  · have h40' : (40 : Int) < cs.length := by omega
    have e0 : g = false := by rw [hgd]; simp [smallC, h40]
    subst e0
    simp [h12', ln, ln0, h40']
  have h40' : ¬ (40 : Int) < cs.length := by omega
  simp [h12', ln, ln0, h40']
  refine go_count 19 l.length (fun i s' m' => Kp m m' ∧ ∀ j d, j < i → l[j]? = some d → smallD d = true) (by simp) (by omega) ⟨.refl m, fun j d h => by omega⟩ ?_
  rintro i s' m' hi e19 ⟨hkp, hall⟩ hsame hw Q' hn he
  have d1 : s'.at 1 = .lst (cals cs) := (hsame 1 (by kernel_rfl)).trans (by simp)
  have d17 : s'.at 17 = .lst (encs l) := (hsame 17 (by kernel_rfl)).trans (by simp)
  have d18 : s'.at 18 = int l.length := (hsame 18 (by kernel_rfl)).trans (by simp)
  clear hsame
  simp [e19, d18]
  refine goB_split (fun h => ?_) fun h => ?_
  · have hlt : i < l.length := by simpa using h
    obtain ⟨x, hx⟩ : ∃ x, l[i]? = some x := ⟨_, List.getElem?_eq_getElem hlt⟩
    have hx' : (encs l)[i]? = some (enc x) := by rw [encs_get, hx]; rfl
    have hxl := List.mem_of_getElem? hx
    have fx := hf x hxl
    have hix := aindexAddr_lst (P := Tryz.prog) (q := .i64) Tryz.underlying43 tsize56 hx' (enc_cells_length x)
    have qs := ca_gives (g34 x fx)
    have bad : smallD x = false → g = false := fun h => by
      rw [hgd]
      have : l.all smallD = false := by
        rw [← Bool.not_eq_true, List.all_eq_true]
        intro hh
        have := hh x hxl
        rw [h] at this; cases this
      simp [smallC, smallB, this]
    obtain ⟨K, N, S, M, L, T⟩ := x
    have ft := alone_fits fx
    simp only [enc] at qs hix
    have l54 : ∀ (R : TypeId) (m : Mem), abuiltin Tryz.prog .len #[54] R [.lst (M.map int)] m = some (int M.length, m) := fun R m => by rw [alen_lst Tryz.underlying54]; simp
    have l43 : ∀ (q : List Dat) (R : TypeId) (m : Mem), abuiltin Tryz.prog .len #[43] R [.lst (encs q)] m = some (int q.length, m) := fun q R m => by rw [alen_lst Tryz.underlying43]; simp
    have zd : List.drop 6 zeroCells = [] := rfl
    have fin : ∀ (s2 : Sl) (m2 : Mem), smallD (.mk K N S M L T) = false → s2.at 4 = .sc (.bool false) → Kp m m2 → Q' .ret s2 m2 := fun s2 m2 h1 h2 h3 => by
      refine he _ _ _ (by simp) ?_
      have := bad h1
      subst this
      simp [h2]
      exact h3
    have k4 : Kp m ((m'.new zeroCells false).set m'.next [int K, int N, .sc (.string ⟨⟨S⟩⟩), .lst (M.map int), .lst (encs L), .lst (encs T)]) := hkp.trans (by simp)
    by_cases p1 : 1000 < S.length
    · have p1' : (1000 : Int) < S.length := by omega
      simp [e19, d17, hix, zd, p1', undefV, undef]
      exact fin _ _ (by simp [smallD, p1]) (by simp) k4
    have p1' : ¬ (1000 : Int) < S.length := by omega
    by_cases p2 : 100 < M.length
    · have p2' : (100 : Int) < M.length := by omega
      simp [e19, d17, hix, zd, p1', p2', l54, undefV, undef]
      exact fin _ _ (by simp [smallD, p2]) (by simp) k4
    have p2' : ¬ (100 : Int) < M.length := by omega
    by_cases p3 : 300 < L.length
    · have p3' : (300 : Int) < L.length := by omega
      simp [e19, d17, hix, zd, p1', p2', p3', l54, l43, undefV, undef]
      exact fin _ _ (by simp [smallD, p3]) (by simp) k4
    have p3' : ¬ (300 : Int) < L.length := by omega
    by_cases p4 : 10 < T.length
    · have p4' : (10 : Int) < T.length := by omega
      simp [e19, d17, hix, zd, p1', p2', p3', p4', l54, l43, undefV, undef]
      exact fin _ _ (by simp [smallD, p4]) (by simp) k4
    have p4' : ¬ (10 : Int) < T.length := by omega
    simp [e19, d17, hix, zd, p1', p2', p3', p4', l54, l43, qs.go]
    by_cases p5 : 300 < siz (.mk K N S M L T)
    · simp [p5]
      exact fin _ _ (by simp [smallD, p5]) (by simp) k4
    · simp [p5, e19, hw]
      refine hn _ _ hlt (by simp) ⟨k4, fun j u hj hu => ?_⟩
      by_cases hji : j = i
      · subst hji
        rw [hx] at hu
        cases hu
        simp [smallD, p1, p2, p3, p4, p5]
      · exact hall j u (by omega) hu
  · have hge : i = l.length := by have := of_decide_eq_false h; omega
    subst hge
    have hB : smallB l = true := by
      simp [smallB, h12]
      exact fun x hx => by
        obtain ⟨j, hj, e⟩ := List.mem_iff_getElem.1 hx
        exact hall j x hj (by rw [List.getElem?_eq_getElem hj, e])
    simp
    refine he _ _ _ (by simp) ?_
    simp [d1, ln0]
    refine go_count 53 cs.length (fun i s2 m2 => Kp m m2 ∧ ∀ (j : Nat) c, j < i → cs[j]? = some c → c.2.length ≤ 50) (by simp) (by omega) ⟨hkp, fun j c h => by omega⟩ ?_
    rintro i s2 m2 hi e53 ⟨hk2, hall2⟩ hsame hw Q' hn he
    have d51 : s2.at 51 = .lst (cals cs) := (hsame 51 (by kernel_rfl)).trans (by simp)
    have d52 : s2.at 52 = int cs.length := (hsame 52 (by kernel_rfl)).trans (by simp)
    clear hsame
    simp [e53, d52]
    refine goB_split (fun h => ?_) fun h => ?_
    · have hlt : i < cs.length := by simpa using h
      obtain ⟨c, hc⟩ : ∃ c, cs[i]? = some c := ⟨_, List.getElem?_eq_getElem hlt⟩
      have hix := cals_at hc
      have lc : ∀ (R : TypeId) (m : Mem), abuiltin Tryz.prog .len #[66] R [.lst (vals c.2)] m = some (int c.2.length, m) := fun R m => by rw [alen_lst Tryz.underlying66]; simp
      have k4 : Kp m ((m2.new [int 0, .emp 0] false).set m2.next [int c.1, .lst (vals c.2)]) := hk2.trans (by simp)
      simp [e53, d51, hix, lc]
      by_cases h50 : 50 < c.2.length
      · have h50' : (50 : Int) < c.2.length := by omega
        have e0 : g = false := by
          rw [hgd]
          have : (cs.all fun c => !decide (50 < c.2.length)) = false := List.all_eq_false.2 ⟨c, List.mem_of_getElem? hc, by simp [h50]⟩
          simp [smallC, this]
        subst e0
        simp [h50']
        refine he _ _ _ (by simp) ?_
        simp
        exact k4
      · have h50' : ¬ (50 : Int) < c.2.length := by omega
        simp [h50', e53, hw]
        exact hn _ _ hlt (by simp) ⟨k4, fun j u hj hu => by
          by_cases e : j = i
          · subst e; rw [hc] at hu; cases hu; omega
          · exact hall2 j u (by omega) hu⟩
    · have hge : i = cs.length := by have := of_decide_eq_false h; omega
      subst hge
      have e0 : g = true := by
        rw [hgd]
        simp only [smallC, hB, Bool.true_and]
        simp
        refine ⟨by omega, fun n l hx => ?_⟩
        obtain ⟨j, hj, e⟩ := List.mem_iff_getElem.1 hx
        exact hall2 j (n, l) hj (by rw [List.getElem?_eq_getElem hj, e])
      subst e0
      simp
      refine he _ _ _ (by simp) ?_
      simp
      exact hk2
end Go.Proofs.YtnhcmcfgemoehaaGreat

/- What a procedure leaves as it was: arenas, without the program. -/
set_option linter.unusedSimpArgs false
set_option linter.unusedVariables false
set_option linter.unusedSectionVars false
namespace Go.Proofs.YtnhcmcfgemoehaaGreat
open Go.V
/-- What any arena is that calls may be made with. -/
structure Inw (a : ArM) : Prop where
  small : Small a
  pairs : Pairs a
  names : ∀ s ∈ a.names, Sym s = true
theorem sym_len {s : List UInt8} (h : Sym s = true) : s.length < 2 ^ 21 := by
  unfold Sym at h
  simp only [Bool.or_eq_true, Bool.and_eq_true, decide_eq_true_eq] at h
  rcases h with ((rfl | rfl) | rfl) | ⟨h, _⟩
  · decide
  · decide
  · decide
  · omega
theorem Inw.named {a : ArM} (h : Inw a) : Named a := fun s hs => sym_len (h.names s hs)
/-- An arena has become one with more. -/
structure Grow (a b : ArM) : Prop where
  ext : Ext a b
  inw : Inw a → Inw b
theorem Grow.refl (a : ArM) : Grow a a := ⟨.refl a, id⟩
theorem Grow.trans {a b c : ArM} (h : Grow a b) (k : Grow b c) : Grow a c := ⟨h.ext.trans k.ext, fun q => k.inw (h.inw q)⟩
theorem grow_alloc (a : ArM) (c : CeM) : Grow a (allocM a c).1 := by
  unfold allocM
  by_cases hf : fitsM a c = true
  · rw [if_pos hf]
    split
    · exact .refl a
    · refine ⟨ext_push a c, fun h => ⟨fun d hd => ?_, fun d hd hk => ?_, h.names⟩⟩
      · simp only [pushM, List.mem_append, List.mem_singleton] at hd
        rcases hd with hd | rfl
        · exact h.small d hd
        · simp [fitsM] at hf
          exact ⟨by omega, by omega⟩
      · simp only [pushM, List.mem_append, List.mem_singleton] at hd
        rcases hd with hd | rfl
        · exact h.pairs d hd hk
        · simp [fitsM] at hf
          obtain ⟨x, y, e⟩ := kind_1 hf.2.2.2.2 hk
          exact ⟨x, y, by rw [e]⟩
  · rw [if_neg hf]
    exact .refl a
theorem grow_allocC (a : ArM) (k : Int) (c : CeM) : Grow a (allocC a k c).2.1 := by
  unfold allocC
  split
  · exact .refl a
  · split
    · exact grow_alloc a c
    · exact grow_alloc a c
theorem grow_ahead (a : ArM) (k : Int) (e : Val) : ∀ l : List Val, Grow a (aheadM a k e l).2.1
  | [] => .refl a
  | x :: l => by
    rw [aheadM]
    exact (grow_ahead a k e l).trans (grow_allocC _ _ _)
theorem grow_fold (a : ArM) (e : Val) : ∀ l : List (List Val), Grow a (foldM a e l).2.1
  | [] => .refl a
  | x :: l => by
    rw [foldM]
    exact (grow_fold a e l).trans (grow_ahead _ _ _ _)
theorem grow_append (a : ArM) (l : List Val) : Grow a (appendM a l).2.1 := by
  unfold appendM
  by_cases h1 : l = []
  · rw [if_pos h1]; exact .refl a
  · rw [if_neg h1]
    by_cases h2 : (listsM a l.dropLast).2 ≠ 0
    · rw [if_pos h2]; exact .refl a
    · rw [if_neg h2]; exact grow_fold _ _ _
theorem grow_sym (a : ArM) (s : List UInt8) : Grow a (symM a s).1 := by
  unfold symM
  split
  · rename_i hs
    split
    · exact .refl a
    · split
      · exact .refl a
      · refine ⟨⟨rfl, ⟨[], by simp [nameM]⟩, ⟨[s], rfl⟩⟩, fun h => ⟨h.small, h.pairs, fun t ht => ?_⟩⟩
        simp only [nameM, List.mem_append, List.mem_singleton] at ht
        rcases ht with ht | rfl
        · exact h.names t ht
        · exact hs
  · exact .refl a
mutual
theorem grow_make : ∀ (d : Dat) (a : ArM), Grow a (makeM d a).1
  | .mk K N S M L T, a => by
    rw [makeM]
    split
    · exact .refl a
    split
    · exact grow_sym a S
    split
    · exact grow_alloc a _
    split
    · split
      · exact grow_vec L a
      · exact (grow_vec L a).trans (grow_alloc _ _)
    have h : Grow a (if K = 7 then tailM T a else (a, (4, 0), 0)).1 := by
      split
      · exact grow_tail T a
      · exact .refl a
    revert h
    generalize (if K = 7 then tailM T a else (a, (4, 0), 0)) = r
    intro h
    have hl := grow_lst L r
    split
    · exact h.trans hl
    · exact h.trans hl
theorem grow_vec : ∀ (l : List Dat) (a : ArM), Grow a (vecM l a).1
  | [], a => by rw [vecM]; exact .refl a
  | d :: l, a => by
    rw [vecM]
    split
    · exact grow_make d a
    · exact (grow_make d a).trans (grow_vec l _)
theorem grow_tail : ∀ (l : List Dat) (a : ArM), Grow a (tailM l a).1
  | [], a => by rw [tailM]; exact .refl a
  | d :: _, a => by rw [tailM]; exact grow_make d a
theorem grow_lst : ∀ (l : List Dat) (r : ArM × Val × Int), Grow r.1 (lstM l r).1
  | [], r => by rw [lstM]; exact .refl _
  | d :: l, r => by
    rw [lstM]
    split
    · exact grow_lst l r
    split
    · exact (grow_lst l r).trans (grow_make d _)
    · exact ((grow_lst l r).trans (grow_make d _)).trans (grow_alloc _ _)
end
theorem grow_of (d : Dat) (a : ArM) : Grow a (ofM d a).1 := by
  unfold ofM
  split
  · exact grow_make d a
  · exact .refl a
/-- What was there is as it was, but for what may be changed. -/
def Keep (a b : ArM) (n k : Int) (l : List Val) : Prop := Inw b ∧ ∀ (i : Nat) c, a.cells[i]? = some c → ∃ d, b.cells[i]? = some d ∧ (sameM c d = true ∨ ((n = 18 ∨ n = 19 ∨ n = 30) ∧ k = 0 ∧ ∃ r, l = (7, (i : Int)) :: r))
theorem sameM_self (c : CeM) : sameM c c = true := by simp [sameM]
theorem Grow.keep {a b : ArM} (h : Grow a b) (ha : Inw a) (n k : Int) (l : List Val) : Keep a b n k l := ⟨h.inw ha, fun _ c hc => ⟨c, h.ext.at hc, .inl (sameM_self c)⟩⟩
theorem keep_put {a : ArM} (ha : Inw a) {n : Int} {l : List Val} (hn : n = 18 ∨ n = 19 ∨ n = 30) {p : Nat} {c : CeM} (hc : a.cells[p]? = some c) {i : Nat} (hi : i < c.a.length) (hl : l[0]? = some (7, (p : Int))) (x : Val) : Keep a (putA a p c i x) n 0 l := by
  have hp := (List.getElem?_eq_some_iff.1 hc).1
  have hm := List.mem_of_getElem? hc
  obtain ⟨r, rfl⟩ : ∃ r, l = (7, (p : Int)) :: r := by
    cases l with
    | nil => simp at hl
    | cons v r => simp at hl; exact ⟨r, by rw [hl]⟩
  refine ⟨⟨fun d hd => ?_, fun d hd hk => ?_, ha.names⟩, fun j d hd => ?_⟩
  · rcases List.mem_or_eq_of_mem_set hd with hd | rfl
    · exact ha.small d hd
    · have := ha.small c hm
      exact ⟨by simpa using this.1, this.2⟩
  · rcases List.mem_or_eq_of_mem_set hd with hd | rfl
    · exact ha.pairs d hd hk
    · obtain ⟨u, v, e⟩ := ha.pairs c hm hk
      simp only
      rw [e]
      rw [e] at hi
      have : i = 0 ∨ i = 1 := by simp at hi; omega
      rcases this with rfl | rfl
      · exact ⟨x, v, rfl⟩
      · exact ⟨u, x, rfl⟩
  · by_cases e : p = j
    · subst e
      exact ⟨_, by simp only [putA]; rw [List.getElem?_set_self hp], .inr ⟨hn, rfl, r, rfl⟩⟩
    · exact ⟨d, by simp only [putA]; rw [List.getElem?_set_ne e]; exact hd, .inl (sameM_self d)⟩
section
variable {a : ArM} {n : Int} {l : List Val}
theorem keep_lists (ha : Inw a) (hc : Called a n l) : Keep a (listsR a n l).2.1 n (listsR a n l).2.2 l := by
  have rf : Keep a a n 0 l := (Grow.refl a).keep ha n 0 l
  unfold listsR
  split
  · exact (grow_allocC _ _ _).keep ha _ _ _
  split
  · exact rf
  split
  · exact rf
  split
  · rename_i h
    subst h
    have k := hc.c18
    obtain ⟨p, c, h1, h2, h3, h4, h5⟩ := pair_here ha.pairs hc (by omega) ⟨by omega, by omega⟩
    rw [h3, h1]
    exact keep_put ha (.inl rfl) h2 (by rw [h5]; simp) (by rw [← h1]; exact argV_some (by omega)) _
  split
  · rename_i h
    subst h
    have k := hc.c19
    obtain ⟨p, c, h1, h2, h3, h4, h5⟩ := pair_here ha.pairs hc (by omega) ⟨by omega, by omega⟩
    rw [h3, h1]
    exact keep_put ha (.inr (.inl rfl)) h2 (by rw [h5]; simp) (by rw [← h1]; exact argV_some (by omega)) _
  split
  · exact (grow_ahead _ _ _ _).keep ha _ _ _
  split
  · exact (Grow.refl a).keep ha _ _ _
  split
  · exact (grow_ahead _ _ _ _).keep ha _ _ _
  split
  · exact (Grow.refl a).keep ha _ _ _
  · exact (grow_append _ _).keep ha _ _ _
theorem keep_vecs (ha : Inw a) (hc : Called a n l) (hn : n = 27 ∨ n = 28 ∨ n = 29 ∨ n = 30 ∨ n = 31) : Keep a (vecsM a n l).2.1 n (vecsM a n l).2.2 l := by
  have rf : ∀ k, Keep a a n k l := fun k => (Grow.refl a).keep ha n k l
  unfold vecsM
  split
  · split
    · exact rf _
    · exact (grow_allocC _ _ _).keep ha _ _ _
  split
  · split
    · exact (grow_allocC _ _ _).keep ha _ _ _
    · exact rf _
  split
  · exact rf _
  split
  · rename_i hw
    split
    · exact rf _
    · rename_i h27 h28 h31 h29
      have h30 : n = 30 := by
        rcases hn with h | h | h | h | h
        · exact absurd h h27
        · exact absurd h h28
        · exact absurd h h29
        · exact h
        · exact absurd h h31
      subst h30
      have k := hc.c30
      have h0 := argV_some (l := l) (i := 0) (by omega)
      have hg := hc.gd 0 _ h0
      have hk : (getM a (argV l 0)).1.k = 2 := by
        unfold goodP at hg
        simpa using hg
      obtain ⟨p, c, h1, h2, h3⟩ := get_cell (a := a) (v := argV l 0) (by omega)
      rw [h3] at hw ⊢
      rw [h1] at h0 ⊢
      simp [within] at hw
      exact keep_put ha (.inr (.inr rfl)) h2 (by omega) h0 _
  · exact rf _
theorem keep_text (ha : Inw a) (s : List UInt8) (n : Int) : Keep a (textC a s).2.1 n (textC a s).2.2 l := (grow_allocC _ _ _).keep ha _ _ _
theorem keep_texts (ha : Inw a) : Keep a (textsM a n l).2.1 n (textsM a n l).2.2 l := by
  have rf : ∀ k, Keep a a n k l := fun k => (Grow.refl a).keep ha n k l
  have tx : ∀ s, Keep a (textC a s).2.1 n (textC a s).2.2 l := fun s => keep_text ha s n
  unfold textsM
  split
  · exact rf _
  split
  · split
    · exact rf _
    · exact rf _
  split
  · unfold joinC
    split
    · exact tx _
    · exact rf _
  split
  · split
    · exact tx _
    · exact rf _
  split
  · exact rf _
  split
  · unfold symC
    split
    · split
      · exact (grow_sym _ _).keep ha _ _ _
      · exact (grow_sym _ _).keep ha _ _ _
    · exact rf _
  split
  · split
    · exact rf _
    · exact rf _
  split
  · exact tx _
  split
  · exact tx _
  split
  · split
    · exact rf _
    · exact rf _
  · exact rf _
theorem keep_do (ha : Inw a) (hc : Called a n l) : Keep a (doR a n l).2.1 n (doR a n l).2.2 l := by
  have rf : ∀ k, Keep a a n k l := fun k => (Grow.refl a).keep ha n k l
  have h54 := hc.hi
  unfold doR
  split
  · exact rf _
  split
  · exact rf _
  split
  · exact rf _
  split
  · exact rf _
  split
  · exact rf _
  split
  · exact keep_lists ha hc
  split
  · exact keep_vecs ha hc (by omega)
  · exact keep_texts ha
/-- Whatever is called with whatever. -/
theorem keep_all (ha : Inw a) (hll : l.length ≤ 4096) (n : Int) : Keep a (doM a n l (doR a n l)).2.1 n (doM a n l (doR a n l)).2.2 l := by
  classical
  have rf : ∀ k, Keep a a n k l := fun k => (Grow.refl a).keep ha n k l
  unfold doM
  split
  · exact rf _
  rename_i h1
  split
  · exact rf _
  rename_i h2
  split
  · exact rf _
  rename_i h3
  split
  · exact rf _
  rename_i h4
  have hin := row_in (fun e => h1 (.inl e)) (fun e => h1 (.inr e))
  have hc : Called a n l := ⟨hin.1, hin.2, Classical.not_not.1 h2, Classical.not_not.1 h3, Classical.not_not.1 h4, hll⟩
  have hk := keep_do ha hc
  split
  · exact hk
  · rename_i h5
    have e : (doR a n l).2.2 = 0 := by omega
    rw [e] at hk
    exact hk
end
end Go.Proofs.YtnhcmcfgemoehaaGreat

/- Whatever is called leaves each cell that was there as it was. -/
set_option linter.unusedSimpArgs false
set_option linter.unusedVariables false
set_option linter.unusedSectionVars false
namespace Go.Proofs.YtnhcmcfgemoehaaGreat
set_option maxRecDepth 4000
open Go.V
attribute [local simp] Nat.add_assoc
/-- An arena that was made since. -/
structure Stw (X : Nat → Prop) (A : Nat) (a : ArM) (m0 M : Mem) : Prop where
  ar : Ar X A a M
  own : ∀ j, X j → m0.next ≤ j ∧ j < M.next
  kp : Kp m0 M
  inw : Inw a
theorem Stw.more {X : Nat → Prop} {A : Nat} {a : ArM} {m0 M M' : Mem} (h : Stw X A a m0 M) (k : Kp M M') : Stw X A a m0 M' := ⟨h.ar.kp k, fun j hj => ⟨(h.own j hj).1, by have := (h.own j hj).2; have := k.next; omega⟩, h.kp.trans k, h.inw⟩
theorem Stw.up {X : Nat → Prop} {A : Nat} {a b : ArM} {m0 M M' : Mem} (h : Stw X A a m0 M) (hu : Up X A b M M') (hb : Inw b) : ∃ X', Stw X' A b m0 M' ∧ KpC X M M' := by
  obtain ⟨X', h1, kc, h2⟩ := hu.out
  have k0 := h.kp.next
  refine ⟨X', ⟨h1, fun j hj => ⟨?_, (h2 j hj).2⟩, kpc_kp kc h.kp fun j hj => (h.own j hj).1, hb⟩, kc⟩
  rcases (h2 j hj).1 with q | q
  · exact (h.own j q).1
  · omega
set_option maxRecDepth 20000 in
set_option maxHeartbeats 16000000 in
theorem q6 (l : List Dat) (cs : List Cal) (hf : ∀ d ∈ l, d.fits) (hcl : cs.length < 2 ^ 21) (m : Mem) : EH Tryz.prog ca (.func 6) [.lst (encs l), .lst (cals cs)] m (.sc (.bool true)) m := by
  refine eh_run Tryz.func6 rfl rfl rfl rfl (args1 := [.lst (encs l), .lst (cals cs)]) (m1 := m) (by simp [fzvs]) (by simp) (by simp [Tryz.f6]) (by simp [Tryz.f6]) ?_
  simp only [Tryz.f6, show ca.keepRes 6 = false from rfl]
  have ln : ∀ (R : TypeId) (m : Mem), abuiltin Tryz.prog .len #[43] R [.lst (encs l)] m = some (int l.length, m) := fun R m => by rw [alen_lst Tryz.underlying43]; simp
  have lncs : ∀ (R : TypeId) (m : Mem), abuiltin Tryz.prog .len #[63] R [.lst (cals cs)] m = some (int cs.length, m) := fun R m => by rw [alen_lst Tryz.underlying63]; simp
  simp [(q7 m).go, (q19c l cs hf hcl m).go]
  cases hs : smallC l cs with
  | false =>
    simp [undefV, undef, (q7 m).go]
  | true =>
  have hcalls := smallC_calls hs
  have hl12 : l.length ≤ 12 := by have := smallC_data hs; simp [smallB] at this; omega
  obtain ⟨M1, hM1⟩ : ∃ M1, M1 = m.newMap.new [int 2000, .emp 0, .emp 0, .mp m.next] false := ⟨_, rfl⟩
  have hA1 := ar_new (m := m) (n := 2000) (by decide) (by decide)
  rw [← hM1] at hA1
  have k1 : Kp m M1 := by rw [hM1]; exact (Kp.refl m).newMap.newr _ _
  have n1 : M1.next = m.next + 2 := by rw [hM1]; simp
  have qn := q20 (m := m) (n := 2000) (by decide) (by decide)
  rw [← hM1] at qn
  clear hM1
  obtain ⟨A, hAe⟩ : ∃ A, A = m.next + 1 := ⟨_, rfl⟩
  rw [← hAe] at hA1 qn
  have enc_agg : ∀ d : Dat, AV.agg (enc d).cells = enc d := fun d => by cases d; rfl
  have S1 : Stw (fun j => m.next ≤ j ∧ j < M1.next) A ⟨2000, [], []⟩ m M1 := ⟨hA1.cut, fun j h => h, k1, ⟨fun c h => by simp at h, fun c h => by simp at h, fun s h => by simp at h⟩⟩
  simp [qn.go, ln]
  refine go_count 35 l.length (fun i s' m' => ∃ X a, Stw X A a m m') (by simp) (by omega) ⟨_, _, S1⟩ ?_
  rintro i s' m' hi e35 ⟨X, a, S⟩ hsame hw Q' hn he
  have e1 : s'.at 1 = .lst (cals cs) := (hsame 1 (by kernel_rfl)).trans (by simp)
  have e5 : s'.at 5 = .ptr A 0 := (hsame 5 (by kernel_rfl)).trans (by simp)
  have e33 : s'.at 33 = .lst (encs l) := (hsame 33 (by kernel_rfl)).trans (by simp)
  have e34 : s'.at 34 = int l.length := (hsame 34 (by kernel_rfl)).trans (by simp)
  clear hsame
  simp [e35, e34]
  refine goB_split (fun h => ?_) fun h => ?_
  · have hlt : i < l.length := by simpa using h
    obtain ⟨d, hd⟩ : ∃ d, l[i]? = some d := ⟨_, List.getElem?_eq_getElem hlt⟩
    have hix := aindexAddr_lst (P := Tryz.prog) (q := .i64) (i := i) Tryz.underlying43 tsize56 (show (encs l)[i]? = some (enc d) by rw [encs_get, hd]; rfl) (enc_cells_length d)
    have zd : List.drop 6 zeroCells = [] := rfl
    have k2 : Kp m' ((m'.new zeroCells false).set m'.next (enc d).cells) := by simp
    simp [e35, e33, hix, zd, enc_agg, e5]
    have S2 := S.more k2
    refine goH_of (q21 S2.ar d (hf d (List.mem_of_getElem? hd))) ?_
    rintro _ m3 ⟨rfl, hup⟩
    obtain ⟨X3, S3, _⟩ := S2.up hup ((grow_of d a).inw S.inw)
    simp [e35, hw]
    exact hn _ _ hlt (by simp) ⟨X3, _, S3⟩
  have hge : i = l.length := by have := of_decide_eq_false h; omega
  clear hge h hn hw e35
  simp
  refine he _ _ _ (by simp) ?_
  clear he e33 e34
  simp [e1, lncs]
  refine go_count 45 cs.length (fun i s' m' => ∃ X a, Stw X A a m m') (by simp) (by omega) ⟨_, _, S⟩ ?_
  clear S
  have e5o := e5
  clear e1 e5
  rintro i s' m' hi e45 ⟨X, a, S⟩ hsame hw Q' hn he
  have e5 : s'.at 5 = .ptr A 0 := (hsame 5 (by kernel_rfl)).trans (by simp [e5o])
  have e43 : s'.at 43 = .lst (cals cs) := (hsame 43 (by kernel_rfl)).trans (by simp)
  have e44 : s'.at 44 = int cs.length := (hsame 44 (by kernel_rfl)).trans (by simp)
  clear hsame
  have sn := S.ar.sane
  simp [e45, e44]
  refine goB_split (fun h => ?_) fun h => ?_
  rotate_left
  · simp
    refine he _ _ _ (by simp) ?_
    simp
    exact S.kp
  have hlt : i < cs.length := by simpa using h
  obtain ⟨c, hc⟩ : ∃ c, cs[i]? = some c := ⟨_, List.getElem?_eq_getElem hlt⟩
  have hcl50 := hcalls.2 c (List.mem_of_getElem? hc)
  have hix := cals_at hc
  obtain ⟨N2, hN2⟩ : ∃ N2, N2 = (m'.new [int 0, .emp 0] false).set m'.next [int c.1, .lst (vals c.2)] := ⟨_, rfl⟩
  have k2 : Kp m' N2 := by rw [hN2]; simp
  have nN2 : N2.next = m'.next + 1 := by rw [hN2]; simp
  have gB : N2.get m'.next = some (.cells [int c.1, .lst (vals c.2)] false (m'.clock + 2)) := by rw [hN2]; simp
  have S2 := S.more k2
  have qc := q29 S2.ar S2.inw.small
  simp [e45, e43, hix]
  rw [← hN2]
  clear hN2
  simp [e5, qc.go, gB]
  refine goH_of (doAll (n := c.1) (l := c.2) S2.ar (fun j hj => (S2.own j hj).2) S2.inw.small S2.inw.pairs S2.inw.named (by omega)) ?_
  rintro _ m3 ⟨rfl, hup⟩
  have hK := keep_all S.inw (l := c.2) (by omega) c.1
  obtain ⟨res, hres⟩ : ∃ res, res = doM a c.1 c.2 (doR a c.1 c.2) := ⟨_, rfl⟩
  rw [← hres] at hup hK ⊢
  clear hres
  obtain ⟨vv, b, kk⟩ := res
  simp only at hup hK ⊢
  obtain ⟨hib, hkeep⟩ := hK
  obtain ⟨X3, S3, kc⟩ := S2.up hup hib
  have n3 := kc.next
  have gB3 := (kc.get m'.next (by omega) (fun h => by have := (S.own _ h).2; omega)).trans gB
  obtain ⟨N4, hN4⟩ : ∃ N4, N4 = (m3.new [int 0, int 0] false).set m3.next [int vv.1, int vv.2] := ⟨_, rfl⟩
  have k4 : Kp m3 N4 := by rw [hN4]; simp
  have n4 := k4.next
  have S4 := S3.more k4
  have gB4 := (k4.get m'.next (by omega)).trans gB3
  have qd := q29 S4.ar S4.inw.small
  have lnc : ∀ (R : TypeId) (m : Mem), abuiltin Tryz.prog .len #[66] R [.lst (vals c.2)] m = some (int c.2.length, m) := fun R m => by rw [alen_lst Tryz.underlying66]; simp
  have lna : ∀ (R : TypeId) (m : Mem), abuiltin Tryz.prog .len #[74] R [.lst (cels a.cells)] m = some (int a.cells.length, m) := fun R m => by rw [alen_lst Tryz.underlying74]; simp
  have lnb : ∀ (R : TypeId) (m : Mem), abuiltin Tryz.prog .len #[74] R [.lst (cels b.cells)] m = some (int b.cells.length, m) := fun R m => by rw [alen_lst Tryz.underlying74]; simp
  simp [e5, valA]
  rw [← hN4]
  clear hN4
  simp [e5, qd.go, gB4]
  obtain ⟨ch, hchd⟩ : ∃ ch, ch = (decide (c.1 = 18) || decide (c.1 = 19) || decide (c.1 = 30)) := ⟨_, rfl⟩
  by_cases c18 : c.1 = 18
  · have hch : ch = true := by rw [hchd]; simp [c18]
    simp [c18, undefV, undef, lna]
    refine go_count 77 a.cells.length (fun i' s2 m2 => Kp N4 m2) (by simp) (by omega) (.refl _) ?_
    rintro i' s2 m2 hi' e77 hk2 hsame hw2 Q2 hn2 he2
    have f10 : s2.at 10 = .ptr m'.next 0 := (hsame 10 (by kernel_rfl)).trans (by simp)
    have f13 : s2.at 13 = int kk := (hsame 13 (by kernel_rfl)).trans (by simp)
    have f14 : s2.at 14 = .lst (cels b.cells) := (hsame 14 (by kernel_rfl)).trans (by simp)
    have f15 : s2.at 15 = .sc (.bool ch) := (hsame 15 (by kernel_rfl)).trans (by simp [hch])
    have f45 : s2.at 45 = int i := (hsame 45 (by kernel_rfl)).trans (by simp [e45])
    have f75 : s2.at 75 = .lst (cels a.cells) := (hsame 75 (by kernel_rfl)).trans (by simp)
    have f76 : s2.at 76 = int a.cells.length := (hsame 76 (by kernel_rfl)).trans (by simp)
    clear hsame
    have gB2 := (hk2.get m'.next (by omega)).trans gB4
    simp [e77, f76]
    refine goB_split (fun h => ?_) fun h => ?_
    · have hlt2 : i' < a.cells.length := by simpa using h
      obtain ⟨x, hx⟩ : ∃ x, a.cells[i']? = some x := ⟨_, List.getElem?_eq_getElem hlt2⟩
      obtain ⟨d, hd, hor⟩ := hkeep i' x hx
      have hdl := (List.getElem?_eq_some_iff.1 hd).1
      have ixx := cels_at hx
      have ixd := cels_at hd
      have hdl' : (i' : Int) < b.cells.length := by omega
      have q30x := q30 x d (S.inw.small x (List.mem_of_getElem? hx)).1
      have hagx : AV.agg [int x.k, int x.n, .lst (vals x.a), .lst (byts x.s)] = ceA x := rfl
      have hagd : AV.agg [int d.k, int d.n, .lst (vals d.a), .lst (byts d.s)] = ceA d := rfl
      have k9 : Kp N4 ((m2.new [int 0, int 0, .emp 0, .emp 0] false).set m2.next [int x.k, int x.n, .lst (vals x.a), .lst (byts x.s)]) := hk2.trans (by simp)
      have zB : m'.next ≠ m2.next := by have := hk2.next; omega
      simp [e77, f75, ixx]
      refine go_draw0 (by kernel_rfl) (by kernel_rfl) ?_
      simp [f14, lnb, hdl', ixd, hagx, hagd, q30x.go]
      cases hsm : sameM x d with
      | true =>
        simp [e77, hw2]
        exact hn2 _ _ hlt2 (by simp) k9
      | false =>
        rw [hsm] at hor
        obtain ⟨hn3, hk0, r, hr⟩ := hor.resolve_left (by simp)
        have hch1 : ch = true := by rw [hchd]; simp; omega
        have hag7 : AV.agg [int 7, int i'] = valA (7, (i' : Int)) := rfl
        have ix7 : aindexAddr Tryz.prog 66 (.lst (vals c.2)) (int 0) = some ((valA (7, (i' : Int))).cptr 0) := vals_at (i := 0) (by rw [hr]; rfl)
        have lr : c.2 ≠ [] := by rw [hr]; simp
        simp [f15, hch1, f13, hk0, f10, gB2, zB, lnc, lr, ix7, abuild, placesOf, fillAt, hag7, val_neq, e77, hw2, undefV, undef]
        try exact hn2 _ _ hlt2 (by simp) k9
    · have hge2 : i' = a.cells.length := by have := of_decide_eq_false h; omega
      simp
      refine he2 _ _ _ (by simp) ?_
      simp [f45, hw]
      exact hn _ _ hlt (by simp) ⟨X3, b, S4.more hk2⟩
  by_cases c19 : c.1 = 19
  · have hch : ch = true := by rw [hchd]; simp [c19]
    simp [c18, c19, gB4, undefV, undef, lna]
    refine go_count 77 a.cells.length (fun i' s2 m2 => Kp N4 m2) (by simp) (by omega) (.refl _) ?_
    rintro i' s2 m2 hi' e77 hk2 hsame hw2 Q2 hn2 he2
    have f10 : s2.at 10 = .ptr m'.next 0 := (hsame 10 (by kernel_rfl)).trans (by simp)
    have f13 : s2.at 13 = int kk := (hsame 13 (by kernel_rfl)).trans (by simp)
    have f14 : s2.at 14 = .lst (cels b.cells) := (hsame 14 (by kernel_rfl)).trans (by simp)
    have f15 : s2.at 15 = .sc (.bool ch) := (hsame 15 (by kernel_rfl)).trans (by simp [hch])
    have f45 : s2.at 45 = int i := (hsame 45 (by kernel_rfl)).trans (by simp [e45])
    have f75 : s2.at 75 = .lst (cels a.cells) := (hsame 75 (by kernel_rfl)).trans (by simp)
    have f76 : s2.at 76 = int a.cells.length := (hsame 76 (by kernel_rfl)).trans (by simp)
    clear hsame
    have gB2 := (hk2.get m'.next (by omega)).trans gB4
    simp [e77, f76]
    refine goB_split (fun h => ?_) fun h => ?_
    · have hlt2 : i' < a.cells.length := by simpa using h
      obtain ⟨x, hx⟩ : ∃ x, a.cells[i']? = some x := ⟨_, List.getElem?_eq_getElem hlt2⟩
      obtain ⟨d, hd, hor⟩ := hkeep i' x hx
      have hdl := (List.getElem?_eq_some_iff.1 hd).1
      have ixx := cels_at hx
      have ixd := cels_at hd
      have hdl' : (i' : Int) < b.cells.length := by omega
      have q30x := q30 x d (S.inw.small x (List.mem_of_getElem? hx)).1
      have hagx : AV.agg [int x.k, int x.n, .lst (vals x.a), .lst (byts x.s)] = ceA x := rfl
      have hagd : AV.agg [int d.k, int d.n, .lst (vals d.a), .lst (byts d.s)] = ceA d := rfl
      have k9 : Kp N4 ((m2.new [int 0, int 0, .emp 0, .emp 0] false).set m2.next [int x.k, int x.n, .lst (vals x.a), .lst (byts x.s)]) := hk2.trans (by simp)
      have zB : m'.next ≠ m2.next := by have := hk2.next; omega
      simp [e77, f75, ixx]
      refine go_draw0 (by kernel_rfl) (by kernel_rfl) ?_
      simp [f14, lnb, hdl', ixd, hagx, hagd, q30x.go]
      cases hsm : sameM x d with
      | true =>
        simp [e77, hw2]
        exact hn2 _ _ hlt2 (by simp) k9
      | false =>
        rw [hsm] at hor
        obtain ⟨hn3, hk0, r, hr⟩ := hor.resolve_left (by simp)
        have hch1 : ch = true := by rw [hchd]; simp; omega
        have hag7 : AV.agg [int 7, int i'] = valA (7, (i' : Int)) := rfl
        have ix7 : aindexAddr Tryz.prog 66 (.lst (vals c.2)) (int 0) = some ((valA (7, (i' : Int))).cptr 0) := vals_at (i := 0) (by rw [hr]; rfl)
        have lr : c.2 ≠ [] := by rw [hr]; simp
        simp [f15, hch1, f13, hk0, f10, gB2, zB, lnc, lr, ix7, abuild, placesOf, fillAt, hag7, val_neq, e77, hw2, undefV, undef]
        try exact hn2 _ _ hlt2 (by simp) k9
    · have hge2 : i' = a.cells.length := by have := of_decide_eq_false h; omega
      simp
      refine he2 _ _ _ (by simp) ?_
      simp [f45, hw]
      exact hn _ _ hlt (by simp) ⟨X3, b, S4.more hk2⟩
  by_cases c30 : c.1 = 30
  · have hch : ch = true := by rw [hchd]; simp [c30]
    simp [c18, c19, c30, gB4, undefV, undef, lna]
    refine go_count 77 a.cells.length (fun i' s2 m2 => Kp N4 m2) (by simp) (by omega) (.refl _) ?_
    rintro i' s2 m2 hi' e77 hk2 hsame hw2 Q2 hn2 he2
    have f10 : s2.at 10 = .ptr m'.next 0 := (hsame 10 (by kernel_rfl)).trans (by simp)
    have f13 : s2.at 13 = int kk := (hsame 13 (by kernel_rfl)).trans (by simp)
    have f14 : s2.at 14 = .lst (cels b.cells) := (hsame 14 (by kernel_rfl)).trans (by simp)
    have f15 : s2.at 15 = .sc (.bool ch) := (hsame 15 (by kernel_rfl)).trans (by simp [hch])
    have f45 : s2.at 45 = int i := (hsame 45 (by kernel_rfl)).trans (by simp [e45])
    have f75 : s2.at 75 = .lst (cels a.cells) := (hsame 75 (by kernel_rfl)).trans (by simp)
    have f76 : s2.at 76 = int a.cells.length := (hsame 76 (by kernel_rfl)).trans (by simp)
    clear hsame
    have gB2 := (hk2.get m'.next (by omega)).trans gB4
    simp [e77, f76]
    refine goB_split (fun h => ?_) fun h => ?_
    · have hlt2 : i' < a.cells.length := by simpa using h
      obtain ⟨x, hx⟩ : ∃ x, a.cells[i']? = some x := ⟨_, List.getElem?_eq_getElem hlt2⟩
      obtain ⟨d, hd, hor⟩ := hkeep i' x hx
      have hdl := (List.getElem?_eq_some_iff.1 hd).1
      have ixx := cels_at hx
      have ixd := cels_at hd
      have hdl' : (i' : Int) < b.cells.length := by omega
      have q30x := q30 x d (S.inw.small x (List.mem_of_getElem? hx)).1
      have hagx : AV.agg [int x.k, int x.n, .lst (vals x.a), .lst (byts x.s)] = ceA x := rfl
      have hagd : AV.agg [int d.k, int d.n, .lst (vals d.a), .lst (byts d.s)] = ceA d := rfl
      have k9 : Kp N4 ((m2.new [int 0, int 0, .emp 0, .emp 0] false).set m2.next [int x.k, int x.n, .lst (vals x.a), .lst (byts x.s)]) := hk2.trans (by simp)
      have zB : m'.next ≠ m2.next := by have := hk2.next; omega
      simp [e77, f75, ixx]
      refine go_draw0 (by kernel_rfl) (by kernel_rfl) ?_
      simp [f14, lnb, hdl', ixd, hagx, hagd, q30x.go]
      cases hsm : sameM x d with
      | true =>
        simp [e77, hw2]
        exact hn2 _ _ hlt2 (by simp) k9
      | false =>
        rw [hsm] at hor
        obtain ⟨hn3, hk0, r, hr⟩ := hor.resolve_left (by simp)
        have hch1 : ch = true := by rw [hchd]; simp; omega
        have hag7 : AV.agg [int 7, int i'] = valA (7, (i' : Int)) := rfl
        have ix7 : aindexAddr Tryz.prog 66 (.lst (vals c.2)) (int 0) = some ((valA (7, (i' : Int))).cptr 0) := vals_at (i := 0) (by rw [hr]; rfl)
        have lr : c.2 ≠ [] := by rw [hr]; simp
        simp [f15, hch1, f13, hk0, f10, gB2, zB, lnc, lr, ix7, abuild, placesOf, fillAt, hag7, val_neq, e77, hw2, undefV, undef]
        try exact hn2 _ _ hlt2 (by simp) k9
    · have hge2 : i' = a.cells.length := by have := of_decide_eq_false h; omega
      simp
      refine he2 _ _ _ (by simp) ?_
      simp [f45, hw]
      exact hn _ _ hlt (by simp) ⟨X3, b, S4.more hk2⟩
  · have hch : ch = false := by rw [hchd]; simp [c18, c19, c30]
    simp [c18, c19, c30, gB4, undefV, undef, lna]
    refine go_count 77 a.cells.length (fun i' s2 m2 => Kp N4 m2) (by simp) (by omega) (.refl _) ?_
    rintro i' s2 m2 hi' e77 hk2 hsame hw2 Q2 hn2 he2
    have f10 : s2.at 10 = .ptr m'.next 0 := (hsame 10 (by kernel_rfl)).trans (by simp)
    have f13 : s2.at 13 = int kk := (hsame 13 (by kernel_rfl)).trans (by simp)
    have f14 : s2.at 14 = .lst (cels b.cells) := (hsame 14 (by kernel_rfl)).trans (by simp)
    have f15 : s2.at 15 = .sc (.bool ch) := (hsame 15 (by kernel_rfl)).trans (by simp [hch])
    have f45 : s2.at 45 = int i := (hsame 45 (by kernel_rfl)).trans (by simp [e45])
    have f75 : s2.at 75 = .lst (cels a.cells) := (hsame 75 (by kernel_rfl)).trans (by simp)
    have f76 : s2.at 76 = int a.cells.length := (hsame 76 (by kernel_rfl)).trans (by simp)
    clear hsame
    have gB2 := (hk2.get m'.next (by omega)).trans gB4
    simp [e77, f76]
    refine goB_split (fun h => ?_) fun h => ?_
    · have hlt2 : i' < a.cells.length := by simpa using h
      obtain ⟨x, hx⟩ : ∃ x, a.cells[i']? = some x := ⟨_, List.getElem?_eq_getElem hlt2⟩
      obtain ⟨d, hd, hor⟩ := hkeep i' x hx
      have hdl := (List.getElem?_eq_some_iff.1 hd).1
      have ixx := cels_at hx
      have ixd := cels_at hd
      have hdl' : (i' : Int) < b.cells.length := by omega
      have q30x := q30 x d (S.inw.small x (List.mem_of_getElem? hx)).1
      have hagx : AV.agg [int x.k, int x.n, .lst (vals x.a), .lst (byts x.s)] = ceA x := rfl
      have hagd : AV.agg [int d.k, int d.n, .lst (vals d.a), .lst (byts d.s)] = ceA d := rfl
      have k9 : Kp N4 ((m2.new [int 0, int 0, .emp 0, .emp 0] false).set m2.next [int x.k, int x.n, .lst (vals x.a), .lst (byts x.s)]) := hk2.trans (by simp)
      have zB : m'.next ≠ m2.next := by have := hk2.next; omega
      simp [e77, f75, ixx]
      refine go_draw0 (by kernel_rfl) (by kernel_rfl) ?_
      simp [f14, lnb, hdl', ixd, hagx, hagd, q30x.go]
      cases hsm : sameM x d with
      | true =>
        simp [e77, hw2]
        exact hn2 _ _ hlt2 (by simp) k9
      | false =>
        rw [hsm] at hor
        obtain ⟨hn3, hk0, r, hr⟩ := hor.resolve_left (by simp)
        have hch1 : ch = true := by rw [hchd]; simp; omega
        have hag7 : AV.agg [int 7, int i'] = valA (7, (i' : Int)) := rfl
        have ix7 : aindexAddr Tryz.prog 66 (.lst (vals c.2)) (int 0) = some ((valA (7, (i' : Int))).cptr 0) := vals_at (i := 0) (by rw [hr]; rfl)
        have lr : c.2 ≠ [] := by rw [hr]; simp
        simp [f15, hch1, f13, hk0, f10, gB2, zB, lnc, lr, ix7, abuild, placesOf, fillAt, hag7, val_neq, e77, hw2, undefV, undef]
        try exact hn2 _ _ hlt2 (by simp) k9
    · have hge2 : i' = a.cells.length := by have := of_decide_eq_false h; omega
      simp
      refine he2 _ _ _ (by simp) ?_
      simp [f45, hw]
      exact hn _ _ hlt (by simp) ⟨X3, b, S4.more hk2⟩
end Go.Proofs.YtnhcmcfgemoehaaGreat

/- A datum as it is read. -/
set_option linter.unusedSimpArgs false
set_option linter.unusedVariables false
set_option linter.unusedSectionVars false
namespace Go.Proofs.YtnhcmcfgemoehaaGreat
set_option maxRecDepth 4000
open Go.V
theorem cells56 : Tryz.prog.cellsOf 56 = 6 := by kernel_rfl
theorem cells3 : Tryz.prog.cellsOf 3 = 1 := by kernel_rfl
theorem cells2 : Tryz.prog.cellsOf 2 = 1 := by kernel_rfl
theorem cells9 : Tryz.prog.cellsOf 9 = 1 := by kernel_rfl
theorem cells54 : Tryz.prog.cellsOf 54 = 1 := by kernel_rfl
theorem cells43 : Tryz.prog.cellsOf 43 = 1 := by kernel_rfl
section
variable {H : Type} {en : TypeId × Value → H} {W : World}
theorem bulk_mem {d : DataW H} {l : List (DataW H)} (h : d ∈ l) : Rows.uptoBulk d ≤ Rows.uptoBulkAll l := by
  induction l with
  | nil => cases h
  | cons x r ih =>
    simp only [Rows.uptoBulkAll]
    cases List.mem_cons.1 h with
    | inl e => subst e; omega
    | inr e => have := ih e; omega
theorem bulk_one (d : DataW H) : 1 ≤ Rows.uptoBulk d := by
  cases d with
  | lit l => cases l <;> simp [Rows.uptoBulk]
  | _ => simp [Rows.uptoBulk]
theorem fitss_of : ∀ {l : List Dat}, (∀ d ∈ l, d.fits) → fitss l
  | [], _ => trivial
  | d :: l, h => ⟨h d (by simp), fitss_of fun x hx => h x (by simp [hx])⟩
theorem bulk_length (l : List (DataW H)) : l.length ≤ Rows.uptoBulkAll l := by
  induction l with
  | nil => simp [Rows.uptoBulkAll]
  | cons x r ih => have := bulk_one x; simp only [Rows.uptoBulkAll, List.length_cons]; omega
/-- A list of ints. -/
theorem ints_in {fuel : Nat} {v : Value} {d : DataW H} {ps : List MemPlace} (h : rd en Tryz.prog W fuel 54 [v] = some (d, ps)) (hb : Rows.uptoBulk d ≤ 1048576) : ∃ M : List Int, Rel (G.start W) (.lst (M.map int)) v ∧ M.length < 2 ^ 21 := by
  obtain ⟨ys, h1, h2⟩ := rd_lst (α := Int) Tryz.underlying54 (by rw [cells3]; decide) h int (fun _ _ => True) (fun cs x p _ hr hl => by
    obtain ⟨n, rfl, _, _⟩ := rd_int Tryz.underlying3 hr
    exact ⟨n, _, rfl, rfl, trivial⟩)
  refine ⟨ys, h1, ?_⟩
  rcases h2 with ⟨_, rfl⟩ | ⟨l, r, rfl, hl, _⟩
  · simp
  · have := bulk_length l
    simp only [Rows.uptoBulk] at hb
    omega
theorem datum_in (fuel : Nat) : ∀ (cs : List Value) (d : DataW H) (ps : List MemPlace), rd en Tryz.prog W fuel 56 cs = some (d, ps) → Rows.uptoBulk d ≤ 1048576 → ∃ x : Dat, Rel (G.start W) (enc x) (.agg cs.toArray) ∧ x.fits := by
  induction fuel using Nat.strongRecOn with
  | _ fuel ih =>
    intro cs d ps h hb
    cases fuel with
    | zero => cases h
    | succ fuel =>
      have lists : ∀ (v : Value) (d : DataW H) (ps : List MemPlace), rd en Tryz.prog W fuel 43 [v] = some (d, ps) → Rows.uptoBulk d ≤ 1048576 → ∃ L : List Dat, Rel (G.start W) (.lst (encs L)) v ∧ fitss L ∧ L.length < 2 ^ 21 := by
        intro v d ps h hb
        have hf : fuel ≠ 0 := by rintro rfl; cases h
        obtain ⟨ys, h1, h2⟩ := rd_lst (α := Dat) Tryz.underlying43 (by rw [cells56]; decide) h enc (fun _ y => y.fits) (fun cs x p hx hr hl => by
          obtain ⟨l, r, rfl, hm⟩ := hx
          have hb2 : Rows.uptoBulk x ≤ 1048576 := by
            have := bulk_mem hm
            simp only [Rows.uptoBulk] at hb
            omega
          obtain ⟨y, y1, y2⟩ := ih (fuel - 1) (by omega) cs x p hr hb2
          exact ⟨y, _, y1, by simp [Value.cells], y2⟩)
        rw [← encs_map] at h1
        refine ⟨ys, h1, ?_⟩
        rcases h2 with ⟨_, rfl⟩ | ⟨l, r, rfl, hl, hc⟩
        · exact ⟨trivial, by simp⟩
        · have := bulk_length l
          simp only [Rows.uptoBulk] at hb
          refine ⟨fitss_of fun y hy => ?_, by omega⟩
          obtain ⟨i, hi, e⟩ := List.getElem_of_mem hy
          exact hc i _ y (List.getElem?_eq_getElem (by omega)) (by rw [List.getElem?_eq_getElem hi, e])
      simp only [rd, DataW.trod, Tryz.underlying56, cells56] at h
      split at h
      · rename_i hlen
        rw [Option.map_eq_some_iff] at h
        obtain ⟨xs, h1, h2⟩ := h
        cases h2
        obtain ⟨c0, c1, c2, c3, c4, c5, rfl⟩ : ∃ c0 c1 c2 c3 c4 c5, cs = [c0, c1, c2, c3, c4, c5] := by
          rcases cs with _ | ⟨c0, _ | ⟨c1, _ | ⟨c2, _ | ⟨c3, _ | ⟨c4, _ | ⟨c5, _ | ⟨c6, cs⟩⟩⟩⟩⟩⟩⟩ <;> simp at hlen
          exact ⟨_, _, _, _, _, _, rfl⟩
        simp only [List.mapM_cons, List.mapM_nil, Option.bind_eq_bind, Option.bind_eq_some_iff, Option.pure_def, Option.some.injEq, cells3, cells2, cells9, cells54, cells43, List.drop_zero, List.drop_succ_cons, List.take_succ_cons, List.take_zero] at h1
        obtain ⟨x0, q0, _, ⟨x1, q1, _, ⟨x2, q2, _, ⟨x3, q3, _, ⟨x4, q4, _, ⟨x5, q5, _, rfl, rfl⟩, rfl⟩, rfl⟩, rfl⟩, rfl⟩, rfl⟩ := h1
        simp only [List.map_cons, List.map_nil, Rows.uptoBulk, Rows.uptoBulkAll] at hb
        obtain ⟨K, rK, _, _⟩ := rd_int Tryz.underlying3 (d := x0.1) (ps := x0.2) q0
        obtain ⟨N, rN, _, wN⟩ := rd_int Tryz.underlying2 (d := x1.1) (ps := x1.2) q1
        obtain ⟨S, rS, dS⟩ := rd_string Tryz.underlying9 (d := x2.1) (ps := x2.2) q2
        obtain ⟨M, rM, lM⟩ := ints_in (d := x3.1) (ps := x3.2) q3 (by omega)
        obtain ⟨L, rL, fL, lL⟩ := lists c4 x4.1 x4.2 q4 (by omega)
        obtain ⟨T, rT, fT, lT⟩ := lists c5 x5.1 x5.2 q5 (by omega)
        cases rK; cases rN; cases rS
        refine ⟨.mk K N S M L T, ?_, ?_⟩
        · refine ⟨[_, _, _, _, _, _], rfl, .cons rfl (.cons rfl (.cons rfl (.cons rM (.cons rL (.cons rT .nil))))), ?_⟩
          intro u hu
          have one : ∀ {x : List AV} {v : Value}, Rel (G.start W) (.lst x) v → v.oneCell' = true := by
            intro x v hr
            simp only [Rel] at hr
            obtain ⟨_, _, _, _, rfl, _⟩ := hr
            rfl
          simp only [List.mem_cons, List.not_mem_nil, or_false] at hu
          rcases hu with rfl | rfl | rfl | rfl | rfl | rfl
          · rfl
          · rfl
          · rfl
          · exact one rM
          · exact one rL
          · exact one rT
        · rw [Dat.fits]
          refine ⟨⟨?_, ?_, lM, lL, lT⟩, fL, fT⟩
          · simpa [Lit.wf, IntKind.min, IntKind.max, IntKind.signed, IntKind.bits] using wN
          · rw [dS] at hb
            simp only [Rows.uptoBulk] at hb
            omega
      · cases h
theorem dats_in {fuel : Nat} {v : Value} {d : DataW H} {ps : List MemPlace} (h : rd en Tryz.prog W fuel 43 [v] = some (d, ps)) (hb : Rows.uptoBulk d ≤ 1048576) : ∃ L : List Dat, Rel (G.start W) (.lst (encs L)) v ∧ fitss L ∧ L.length < 2 ^ 21 := by
  obtain ⟨ys, h1, h2⟩ := rd_lst (α := Dat) Tryz.underlying43 (by rw [cells56]; decide) h enc (fun _ y => y.fits) (fun cs x p hx hr hl => by
    obtain ⟨l, r, rfl, hm⟩ := hx
    have hb2 : Rows.uptoBulk x ≤ 1048576 := by
      have := bulk_mem hm
      simp only [Rows.uptoBulk] at hb
      omega
    obtain ⟨y, y1, y2⟩ := datum_in (fuel - 1) cs x p hr hb2
    exact ⟨y, _, y1, by simp [Value.cells], y2⟩)
  rw [← encs_map] at h1
  refine ⟨ys, h1, ?_⟩
  rcases h2 with ⟨_, rfl⟩ | ⟨l, r, rfl, hl, hc⟩
  · exact ⟨trivial, by simp⟩
  · have := bulk_length l
    simp only [Rows.uptoBulk] at hb
    refine ⟨fitss_of fun y hy => ?_, by omega⟩
    obtain ⟨i, hi, e⟩ := List.getElem_of_mem hy
    exact hc i _ y (List.getElem?_eq_getElem (by omega)) (by rw [List.getElem?_eq_getElem hi, e])
end
end Go.Proofs.YtnhcmcfgemoehaaGreat

/- From the walks to the rows. -/
set_option linter.unusedSimpArgs false
set_option linter.unusedVariables false
set_option linter.unusedSectionVars false
namespace Go.Proofs.YtnhcmcfgemoehaaGreat
open Go.V
theorem own_knob : ownKnob Tryz.prog.godebug = none := by kernel_rfl
theorem laid_out : laidOutB Tryz.prog = true := by kernel_rfl
theorem readable43 : Tryz.prog.readableRec 43 = true ∧ 43 < Tryz.prog.types.size := ⟨by kernel_rfl, of_decide_eq_true (by kernel_rfl)⟩
section
variable {H : Type} {en : TypeId × Value → H} {W : World}
set_option maxRecDepth 100000 in
theorem trod_dats {v : Value} {d : DataW H} {p : List MemPlace} {base : Nat} (hv : Value.okWide Tryz.prog W .any base 43 v) (h : DataW.Trod en Tryz.prog W 0 (fun _ => true) true 43 v d p) (hb : Rows.uptoBulk d ≤ 1048576) : ∃ L : List Dat, Rel (G.start W) (.lst (encs L)) v ∧ fitss L ∧ L.length < 2 ^ 21 := by
  obtain ⟨fuel, h⟩ := h
  have hv : v.cells.toList = [v] := by
    cases v with
    | agg cs => simp [Value.okWide, Cell.okWide, Cell.ok, Tryz.underlying43] at hv
    | _ => rfl
  rw [hv] at h
  exact dats_in h hb
end
theorem fitss_all : ∀ {l : List Dat}, fitss l → ∀ d ∈ l, d.fits
  | [], _, d, h => by cases h
  | x :: l, h, d, hd => by
    cases List.mem_cons.1 hd with
    | inl e => subst e; exact h.1
    | inr e => exact fitss_all h.2 d e
end Go.Proofs.YtnhcmcfgemoehaaGreat

/- Calls as they are read. -/
set_option linter.unusedSimpArgs false
set_option linter.unusedVariables false
set_option linter.unusedSectionVars false
namespace Go.Proofs.YtnhcmcfgemoehaaGreat
open Go.V
theorem cells51 : Tryz.prog.cellsOf 51 = 2 := by kernel_rfl
theorem cells68 : Tryz.prog.cellsOf 68 = 2 := by kernel_rfl
theorem cells66 : Tryz.prog.cellsOf 66 = 1 := by kernel_rfl
theorem readable63 : Tryz.prog.readableRec 63 = true ∧ 63 < Tryz.prog.types.size := ⟨by kernel_rfl, of_decide_eq_true (by kernel_rfl)⟩
section
variable {H : Type} {en : TypeId × Value → H} {W : World}
theorem val_in (fuel : Nat) (cs : List Value) (d : DataW H) (ps : List MemPlace) (h : rd en Tryz.prog W fuel 51 cs = some (d, ps)) : ∃ v : Val, Rel (G.start W) (valA v) (.agg cs.toArray) := by
  cases fuel with
  | zero => cases h
  | succ fuel =>
    simp only [rd, DataW.trod, Tryz.underlying51, cells51] at h
    split at h
    · rename_i hlen
      rw [Option.map_eq_some_iff] at h
      obtain ⟨xs, h1, h2⟩ := h
      cases h2
      obtain ⟨c0, c1, rfl⟩ : ∃ c0 c1, cs = [c0, c1] := by
        rcases cs with _ | ⟨c0, _ | ⟨c1, _ | ⟨c2, cs⟩⟩⟩ <;> simp at hlen
        exact ⟨_, _, rfl⟩
      simp only [List.mapM_cons, List.mapM_nil, Option.bind_eq_bind, Option.bind_eq_some_iff, Option.pure_def, Option.some.injEq, cells3, cells2, List.drop_zero, List.drop_succ_cons, List.take_succ_cons, List.take_zero] at h1
      obtain ⟨x0, q0, _, ⟨x1, q1, _, rfl, rfl⟩, rfl⟩ := h1
      obtain ⟨K, rK, _, _⟩ := rd_int Tryz.underlying3 (d := x0.1) (ps := x0.2) q0
      obtain ⟨N, rN, _, _⟩ := rd_int Tryz.underlying2 (d := x1.1) (ps := x1.2) q1
      cases rK; cases rN
      refine ⟨(K, N), ?_⟩
      refine ⟨[_, _], rfl, .cons rfl (.one rfl), ?_⟩
      intro u hu
      simp only [List.mem_cons, List.not_mem_nil, or_false] at hu
      rcases hu with rfl | rfl
      · rfl
      · rfl
    · cases h
theorem vals_in {fuel : Nat} {v : Value} {d : DataW H} {ps : List MemPlace} (h : rd en Tryz.prog W fuel 66 [v] = some (d, ps)) : ∃ l : List Val, Rel (G.start W) (.lst (vals l)) v := by
  obtain ⟨ys, h1, _⟩ := rd_lst (α := Val) Tryz.underlying66 (by rw [cells51]; decide) h valA (fun _ _ => True) (fun cs x p hx hr hl => by
    obtain ⟨y, y1⟩ := val_in (fuel - 1) cs x p hr
    exact ⟨y, _, y1, by simp [Value.cells], trivial⟩)
  exact ⟨ys, h1⟩
theorem cal_in (fuel : Nat) (cs : List Value) (d : DataW H) (ps : List MemPlace) (h : rd en Tryz.prog W fuel 68 cs = some (d, ps)) : ∃ c : Cal, Rel (G.start W) (calA c) (.agg cs.toArray) := by
  cases fuel with
  | zero => cases h
  | succ fuel =>
    simp only [rd, DataW.trod, Tryz.underlying68, cells68] at h
    split at h
    · rename_i hlen
      rw [Option.map_eq_some_iff] at h
      obtain ⟨xs, h1, h2⟩ := h
      cases h2
      obtain ⟨c0, c1, rfl⟩ : ∃ c0 c1, cs = [c0, c1] := by
        rcases cs with _ | ⟨c0, _ | ⟨c1, _ | ⟨c2, cs⟩⟩⟩ <;> simp at hlen
        exact ⟨_, _, rfl⟩
      simp only [List.mapM_cons, List.mapM_nil, Option.bind_eq_bind, Option.bind_eq_some_iff, Option.pure_def, Option.some.injEq, cells3, cells66, List.drop_zero, List.drop_succ_cons, List.take_succ_cons, List.take_zero] at h1
      obtain ⟨x0, q0, _, ⟨x1, q1, _, rfl, rfl⟩, rfl⟩ := h1
      obtain ⟨K, rK, _, _⟩ := rd_int Tryz.underlying3 (d := x0.1) (ps := x0.2) q0
      obtain ⟨l, rl⟩ := vals_in (d := x1.1) (ps := x1.2) q1
      cases rK
      refine ⟨(K, l), ?_⟩
      refine ⟨[_, _], rfl, .cons rfl (.one rl), ?_⟩
      intro u hu
      simp only [List.mem_cons, List.not_mem_nil, or_false] at hu
      rcases hu with rfl | rfl
      · rfl
      · simp only [Rel] at rl
        obtain ⟨_, _, _, _, rfl, _⟩ := rl
        rfl
    · cases h
theorem cals_in {fuel : Nat} {v : Value} {d : DataW H} {ps : List MemPlace} (h : rd en Tryz.prog W fuel 63 [v] = some (d, ps)) (hb : Rows.uptoBulk d ≤ 1048576) : ∃ l : List Cal, Rel (G.start W) (.lst (cals l)) v ∧ l.length < 2 ^ 21 := by
  obtain ⟨ys, h1, h2⟩ := rd_lst (α := Cal) Tryz.underlying63 (by rw [cells68]; decide) h calA (fun _ _ => True) (fun cs x p hx hr hl => by
    obtain ⟨y, y1⟩ := cal_in (fuel - 1) cs x p hr
    exact ⟨y, _, y1, by simp [Value.cells], trivial⟩)
  refine ⟨ys, h1, ?_⟩
  rcases h2 with ⟨_, rfl⟩ | ⟨l, r, rfl, hl, hc⟩
  · simp
  · have := bulk_length l
    simp only [Rows.uptoBulk] at hb
    omega
set_option maxRecDepth 100000 in
theorem trod_cals {v : Value} {d : DataW H} {p : List MemPlace} {base : Nat} (hv : Value.okWide Tryz.prog W .any base 63 v) (h : DataW.Trod en Tryz.prog W 0 (fun _ => true) true 63 v d p) (hb : Rows.uptoBulk d ≤ 1048576) : ∃ L : List Cal, Rel (G.start W) (.lst (cals L)) v ∧ L.length < 2 ^ 21 := by
  obtain ⟨fuel, h⟩ := h
  have hv : v.cells.toList = [v] := by
    cases v with
    | agg cs => simp [Value.okWide, Cell.okWide, Cell.ok, Tryz.underlying63] at hv
    | _ => rfl
  rw [hv] at h
  exact cals_in h hb
end
end Go.Proofs.YtnhcmcfgemoehaaGreat
