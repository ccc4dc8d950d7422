import Derived.Test.YtnhcmcfgemoehaaGreatYOne2
/- What may be by itself: the reference. -/
set_option linter.unusedSimpArgs false
set_option linter.unusedVariables false
set_option linter.unusedSectionVars false
namespace Go.Proofs.YtnhcmcfgemoehaaGreat
set_option maxRecDepth 4000
open Go.V

theorem len_zero {α : Type} (l : List α) : decide ((l.length : Int) = 0) = l.isEmpty := by cases l <;> simp; omega
theorem asc_le {b : UInt8} : asc b = decide ((b.toNat : Int) ≤ 127) := by
  unfold asc
  by_cases h : (b.toNat : Int) ≤ 127
  · rw [decide_eq_true h, decide_eq_true (by omega)]
  · rw [decide_eq_false h, decide_eq_false (by omega)]

set_option maxHeartbeats 2000000 in
theorem g71 {K N : Int} {S : List UInt8} {M : List Int} {L T : List Dat} (h : Fits K N S M L T) : Gives Tryz.prog cf 174 [enc (.mk K N S M L T)] (.sc (.bool (alone (.mk K N S M L T)))) := by
  refine gives_go Tryz.func174 rfl rfl rfl (by simp [Tryz.f174]) (by simp [Tryz.f174]) fun m Q hQ => ?_
  simp only [Tryz.f174, show cf.keepRes 174 = false from rfl, enc] at hQ ⊢
  have hm := h.m
  have hs := h.s
  have hl := h.l
  have ht := h.t
  generalize hn : decide (N = 0) = bn
  simp [hn]
  generalize hbs : decide (S = []) = bs
  generalize hbm : decide (M = []) = bm
  generalize hbl : decide (L = []) = bl
  generalize hbt : decide (T = []) = bt
  have eM : M.isEmpty = bm := by rw [← hbm]; cases M <;> simp
  have eL : L.isEmpty = bl := by rw [← hbl]; cases L <;> simp
  have eT : T.isEmpty = bt := by rw [← hbt]; cases T <;> simp
  by_cases h1 : K = 1
  · subst h1
    simp
    refine goH_gives (g73 N) fun m1 k1 => ?_
    have k1' : Kp m m1 := .trans (.new _ _ _) k1
    generalize hb : (decide (-1152921504606846976 ≤ N) && decide (N ≤ 1152921504606846975)) = b
    cases b <;> cases bs <;> cases bm <;> cases bl <;> cases bt
    all_goals
      simp
      exact hQ _ _ _ (leave_sc (.inr rfl) at_set_eq ⟨by simp [alone, hn, hbs, eM, eL, eT, hb], k1'⟩)
  by_cases h2 : K = 2
  · subst h2
    by_cases e0 : N = 0
    · subst e0
      simp
      cases bs <;> cases bm <;> cases bl <;> cases bt
      all_goals
        simp
        exact hQ _ _ _ (leave_sc (.inr rfl) at_set_eq ⟨by simp [alone, hn, hbs, eM, eL, eT], .new _ _ _⟩)
    · by_cases e1 : N = 1
      · subst e1
        simp
        cases bs <;> cases bm <;> cases bl <;> cases bt
        all_goals
          simp
          exact hQ _ _ _ (leave_sc (.inr rfl) at_set_eq ⟨by simp [alone, hn, hbs, eM, eL, eT], .new _ _ _⟩)
      · simp [e0, e1]
        exact hQ _ _ _ (leave_sc (.inr rfl) at_set_eq ⟨by simp [alone, hn, hbs, eM, eL, eT, e0, e1], .new _ _ _⟩)
  by_cases h3 : K = 3
  · subst h3
    by_cases e0 : 0 ≤ N
    · by_cases e1 : N ≤ 127
      · simp [e0, e1]
        cases bs <;> cases bm <;> cases bl <;> cases bt
        all_goals
          simp
          exact hQ _ _ _ (leave_sc (.inr rfl) at_set_eq ⟨by simp [alone, hn, hbs, eM, eL, eT, e0, e1], .new _ _ _⟩)
      · simp [e0, e1]
        exact hQ _ _ _ (leave_sc (.inr rfl) at_set_eq ⟨by simp [alone, hn, hbs, eM, eL, eT, e0, e1], .new _ _ _⟩)
    · simp [e0]
      exact hQ _ _ _ (leave_sc (.inr rfl) at_set_eq ⟨by simp [alone, hn, hbs, eM, eL, eT, e0], .new _ _ _⟩)
  by_cases h6 : K = 6
  · subst h6
    simp
    cases bn <;> cases bs <;> cases bm <;> cases bt
    all_goals
      simp
      exact hQ _ _ _ (leave_sc (.inr rfl) at_set_eq ⟨by simp [alone, hn, hbs, eM, eL, eT], .new _ _ _⟩)
  by_cases h8 : K = 8
  · subst h8
    simp
    cases bn <;> cases bs <;> cases bm <;> cases bt
    all_goals
      simp
      exact hQ _ _ _ (leave_sc (.inr rfl) at_set_eq ⟨by simp [alone, hn, hbs, eM, eL, eT], .new _ _ _⟩)
  by_cases h7 : K = 7
  · subst h7
    simp
    cases hT : T with
    | nil =>
      cases bn <;> cases bs <;> cases bm <;> cases bl
      all_goals
        simp [encs]
        exact hQ _ _ _ (leave_sc (.inr rfl) at_set_eq ⟨by simp [alone, hn, hbs, eM, eL, hT], .new _ _ _⟩)
    | cons d tr =>
      cases tr with
      | cons d2 tr =>
        have hne : ¬ ((tr.length : Int) + 1 + 1 = 1) := by omega
        cases bn <;> cases bs <;> cases bm <;> cases bl
        all_goals
          simp [encs, hne]
          exact hQ _ _ _ (leave_sc (.inr rfl) at_set_eq ⟨by simp [alone, hn, hbs, eM, eL, hT], .new _ _ _⟩)
      | nil =>
        obtain ⟨K2, N2, S2, M2, L2, T2⟩ := d
        by_cases e6 : K2 = 6
        · cases bn <;> cases bs <;> cases bm <;> cases bl
          all_goals
            simp [encs, enc, aindexAddr_lst0 Tryz.underlying43 tsize56, e6]
            exact hQ _ _ _ (leave_sc (.inr rfl) at_set_eq ⟨by simp [alone, hn, hbs, eM, eL, hT, Dat.K, e6], .new _ _ _⟩)
        · by_cases e7 : K2 = 7
          all_goals
            cases bn <;> cases bs <;> cases bm <;> cases bl
            all_goals
              simp [encs, enc, aindexAddr_lst0 Tryz.underlying43 tsize56, e6, e7]
              exact hQ _ _ _ (leave_sc (.inr rfl) at_set_eq ⟨by simp [alone, hn, hbs, eM, eL, hT, Dat.K, e6, e7], .new _ _ _⟩)
  by_cases h4 : K = 4
  · subst h4
    simp
    refine go_loop (fun n s m' => m' = m.new [int 4, int N, .sc (.string ⟨⟨S⟩⟩), .lst (M.map int), .lst (encs L), .lst (encs T)] false ∧ ∃ i : Nat, n = S.length - i ∧ s.at 1 = .ptr m.next 0 ∧ s.at 3 = .sc (.bool bn) ∧ s.at 5 = .sc (.bool bm) ∧ s.at 6 = .sc (.bool bl) ∧ s.at 7 = .sc (.bool bt) ∧ s.at 8 = int i ∧ i ≤ S.length ∧ i ≤ 256 ∧ ∀ j b, j < i → S[j]? = some b → asc b = true) S.length ⟨rfl, 0, by simp⟩ ?_
    rintro n s _ ⟨rfl, i, rfl, q1, q3, q5, q6, q7, q8, hi, hi2, hno⟩ Q' hn' he
    simp [q1, q8]
    refine goB_split (fun h => ?_) fun h => ?_
    · have hlt : i < S.length := by simpa using h
      obtain ⟨b, hb⟩ : ∃ b, S[i]? = some b := ⟨_, List.getElem?_eq_getElem hlt⟩
      have ret : ∀ s4 : Sl, s4.at 2 = .sc (.bool false) → (decide (S.length ≤ 256) && S.all asc) = false → Q .ret s4 (m.new [int 4, int N, .sc (.string ⟨⟨S⟩⟩), .lst (M.map int), .lst (encs L), .lst (encs T)] false) := fun s4 a2 hf => hQ _ _ _ (leave_sc (.inr rfl) a2 ⟨by simp [alone, hf], .new _ _ _⟩)
      by_cases e5 : (256 : Int) ≤ i
      · simp [q1, q8, e5]
        refine he _ _ _ (by simp) ?_
        simp
        refine ret _ (by simp) ?_
        have : ¬ S.length ≤ 256 := by omega
        simp [this]
      · simp [q1, q8, e5, aindex_str Tryz.underlying9 hb]
        by_cases e6 : (127 : Int) < b.toNat
        · simp [e6]
          refine he _ _ _ (by simp) ?_
          simp
          refine ret _ (by simp) ?_
          have : S.all asc = false := by
            rw [List.all_eq_false]
            exact ⟨b, List.mem_of_getElem? hb, by rw [asc_false (by omega)]; simp⟩
          simp [this]
        · simp [e6, q8]
          refine hn' (S.length - (i + 1)) _ _ (by omega) ⟨rfl, i + 1, rfl, by simp [q1], by simp [q3], by simp [q5], by simp [q6], by simp [q7], ?_, hlt, by omega, fun j b' hj hb' => ?_⟩
          · rw [at_set_eq, IntWalk.i64_in _ (by omega)]; rfl
          · rcases Nat.lt_or_ge j i with h2 | h2
            · exact hno j b' h2 hb'
            · have : j = i := by omega
              subst this
              rw [hb] at hb'
              cases hb'
              exact asc_true (by omega)
    · simp
      refine he _ _ _ (by simp) ?_
      have hle : i = S.length := by simp at h hi ⊢; omega
      have hall : S.all asc = true := by
        rw [List.all_eq_true]
        intro b hb
        obtain ⟨j, hj, e⟩ := List.getElem_of_mem hb
        exact hno j b (by omega) (by rw [List.getElem?_eq_getElem hj, e])
      have hlen : S.length ≤ 256 := by omega
      cases bn <;> cases bm <;> cases bl <;> cases bt
      all_goals
        simp [q3, q5, q6, q7]
        exact hQ _ _ _ (leave_sc (.inr rfl) at_set_eq ⟨by simp [alone, hn, hbs, eM, eL, eT, hall, hlen], .new _ _ _⟩)
  by_cases h5 : K = 5
  · subst h5
    simp
    refine go_loop (fun n s m' => m' = m.new [int 5, int N, .sc (.string ⟨⟨S⟩⟩), .lst (M.map int), .lst (encs L), .lst (encs T)] false ∧ ∃ i : Nat, n = M.length - i ∧ s.at 1 = .ptr m.next 0 ∧ s.at 3 = .sc (.bool bn) ∧ s.at 6 = .sc (.bool bl) ∧ s.at 7 = .sc (.bool bt) ∧ s.at 9 = int i ∧ i ≤ M.length ∧ i ≤ 16 ∧ ∀ j b, j < i → M[j]? = some b → wrong b = false) M.length ⟨rfl, 0, by simp⟩ ?_
    rintro n s _ ⟨rfl, i, rfl, q1, q3, q6, q7, q9, hi, hi2, hno⟩ Q' hn' he
    simp [q1, q9]
    refine goB_split (fun h => ?_) fun h => ?_
    · have hlt : i < M.length := by simpa using h
      obtain ⟨b, hb⟩ : ∃ b, M[i]? = some b := ⟨_, List.getElem?_eq_getElem hlt⟩
      have hx : (M.map int)[i]? = some (int b) := by simp [hb]
      have ret : ∀ s4 : Sl, s4.at 2 = .sc (.bool false) → (decide (M.length ≤ 16) && !M.any wrong) = false → Q .ret s4 (m.new [int 5, int N, .sc (.string ⟨⟨S⟩⟩), .lst (M.map int), .lst (encs L), .lst (encs T)] false) := fun s4 a2 hf => hQ _ _ _ (leave_sc (.inr rfl) a2 ⟨by simp [alone, hf], .new _ _ _⟩)
      by_cases e5 : (16 : Int) ≤ i
      · simp [q1, q9, e5]
        refine he _ _ _ (by simp) ?_
        simp
        refine ret _ (by simp) ?_
        have : ¬ M.length ≤ 16 := by omega
        simp [this]
      · have bad : wrong b = true → (decide (M.length ≤ 16) && !M.any wrong) = false := by
          intro hw
          have : M.any wrong = true := by
            rw [List.any_eq_true]
            exact ⟨b, List.mem_of_getElem? hb, hw⟩
          simp [this]
        by_cases e6 : b < 1
        · simp [q1, q9, e5, aindexAddr_lst Tryz.underlying54 tsize3 hx, e6]
          refine he _ _ _ (by simp) ?_
          simp
          exact ret _ (by simp) (bad (by simp [wrong, e6]))
        · by_cases e7 : 1048576 < b
          · simp [q1, q9, e5, aindexAddr_lst Tryz.underlying54 tsize3 hx, e6, e7]
            refine he _ _ _ (by simp) ?_
            simp
            exact ret _ (by simp) (bad (by simp [wrong, e7]))
          · simp [q1, q9, e5, aindexAddr_lst Tryz.underlying54 tsize3 hx, e6, e7]
            refine hn' (M.length - (i + 1)) _ _ (by omega) ⟨rfl, i + 1, rfl, by simp [q1], by simp [q3], by simp [q6], by simp [q7], ?_, hlt, by omega, fun j b' hj hb' => ?_⟩
            · rw [at_set_eq, IntWalk.i64_in _ (by omega)]; rfl
            · rcases Nat.lt_or_ge j i with h2 | h2
              · exact hno j b' h2 hb'
              · have : j = i := by omega
                subst this
                rw [hb] at hb'
                cases hb'
                simp [wrong]
                omega
    · simp
      refine he _ _ _ (by simp) ?_
      have hle : i = M.length := by simp at h hi ⊢; omega
      have hall : M.any wrong = false := by
        rw [List.any_eq_false]
        intro b hb
        obtain ⟨j, hj, e⟩ := List.getElem_of_mem hb
        rw [hno j b (by omega) (by rw [List.getElem?_eq_getElem hj, e])]
        simp
      have hlen : M.length ≤ 16 := by omega
      simp [q1]
      refine goH_gives (g13 S (by omega)) fun m1 k1 => ?_
      have k1' : Kp m m1 := .trans (.new _ _ _) k1
      cases hs2 : Sym S <;> cases bn <;> cases bl <;> cases bt
      all_goals
        simp [q3, q6, q7]
        exact hQ _ _ _ (leave_sc (.inr rfl) at_set_eq ⟨by simp [alone, hn, eL, eT, hall, hlen, hs2], k1'⟩)
  · simp [h1, h2, h3, h4, h5, h6, h7, h8]
    exact hQ _ _ _ (leave_sc (.inr rfl) at_set_eq ⟨by simp [alone, h1, h2, h3, h4, h5, h6, h7, h8], .new _ _ _⟩)
end Go.Proofs.YtnhcmcfgemoehaaGreat
