import Derived.Test.YtnhcmcfgemoehaaGreatYSym
/- What may be by itself. -/
set_option linter.unusedSimpArgs false
set_option linter.unusedVariables false
set_option linter.unusedSectionVars false
namespace Go.Proofs.YtnhcmcfgemoehaaGreat
set_option maxRecDepth 4000
open Go.V

theorem wrap_nat {n : Nat} (h : n < 2 ^ 63) : IntKind.i64.wrap (n : Int) = n := IntWalk.i64_in _ (by omega)

theorem three_empty {α β γ : Type} (M : List α) (L : List β) (T : List γ) : decide ((M.length : Int) + L.length + T.length = 0) = (M.isEmpty && L.isEmpty && T.isEmpty) := by
  cases M <;> cases L <;> cases T <;> simp <;> omega

/-- empty -/
theorem g67 {K N : Int} {S : List UInt8} {M L T : List AV} (hM : M.length < 2 ^ 21) (hL : L.length < 2 ^ 21) (hT : T.length < 2 ^ 21) :
    Gives Tryz.prog cf 156 [.agg [int K, int N, .sc (.string ⟨⟨S⟩⟩), .lst M, .lst L, .lst T]] (.sc (.bool (decide (N = 0) && decide (S = []) && (M.isEmpty && L.isEmpty && T.isEmpty)))) := by
  refine gives_go Tryz.func156 rfl rfl rfl (by simp [Tryz.f156]) (by simp [Tryz.f156]) fun m Q hQ => ?_
  simp only [Tryz.f156, show cf.keepRes 156 = false from rfl] at hQ ⊢
  have w1 : IntKind.i64.wrap ((M.length : Int) + L.length) = M.length + L.length := IntWalk.i64_in _ (by omega)
  have w2 : IntKind.i64.wrap ((M.length : Int) + L.length + T.length) = M.length + L.length + T.length := IntWalk.i64_in _ (by omega)
  by_cases h1 : N = 0 <;> by_cases h2 : S = []
  all_goals
    simp [h1, h2, w1, w2]
    exact hQ _ _ _ (leave_sc (.inr rfl) at_set_eq ⟨by simp [h1, h2, three_empty], .new _ _ _⟩)

def asc (c : UInt8) : Bool := decide ((c.toNat : Int) < 128)

theorem asc_false {b : UInt8} (h : (128 : Int) ≤ b.toNat) : asc b = false := decide_eq_false (Int.not_lt.2 h)
theorem asc_true {b : UInt8} (h : ¬ (128 : Int) ≤ b.toNat) : asc b = true := decide_eq_true (Int.not_le.1 h)

/-- ascii -/
theorem g68 (l : List UInt8) (hl : l.length < 2 ^ 21) : Gives Tryz.prog cf 157 [.sc (.string ⟨⟨l⟩⟩)] (.sc (.bool (decide (l.length ≤ 256) && l.all asc))) := by
  refine gives_go Tryz.func157 rfl rfl rfl (by simp [Tryz.f157]) (by simp [Tryz.f157]) fun m Q hQ => ?_
  simp only [Tryz.f157, show cf.keepRes 157 = false from rfl] at hQ ⊢
  by_cases e4 : (256 : Int) < l.length
  · simp [e4]
    exact hQ _ _ _ (leave_sc (.inr rfl) at_set_eq ⟨by simp; omega, .refl m⟩)
  · simp [e4]
    refine go_loop (fun n s m' => m' = m ∧ ∃ i : Nat, n = l.length - i ∧ s.at 0 = .sc (.string ⟨⟨l⟩⟩) ∧ s.at 8 = int l.length ∧ s.at 9 = int i ∧ i ≤ l.length ∧ ∀ j b, j < i → l[j]? = some b → asc b = true) l.length ⟨rfl, 0, by simp⟩ ?_
    rintro n s _ ⟨rfl, i, rfl, h0, h8, h9, hi, hno⟩ Q' hn he
    simp [h0, h8, h9]
    refine goB_split (fun h => ?_) fun h => ?_
    · have hlt : i < l.length := by simp at h; omega
      obtain ⟨b, hb⟩ : ∃ b, l[i]? = some b := ⟨_, List.getElem?_eq_getElem hlt⟩
      simp [h0, h9, aindex_str Tryz.underlying9 hb]
      by_cases e6 : (128 : Int) ≤ b.toNat
      · simp [e6]
        refine he _ _ _ (by simp) ?_
        simp
        refine hQ _ _ _ (leave_sc (.inr rfl) at_set_eq ⟨?_, .refl _⟩)
        have : l.all asc = false := by
          rw [List.all_eq_false]
          exact ⟨b, List.mem_of_getElem? hb, by rw [asc_false e6]; simp⟩
        simp [this]
      · simp [e6, h9]
        refine hn (l.length - (i + 1)) _ _ (by omega) ⟨rfl, i + 1, rfl, by simp [h0], by simp [h8], ?_, hlt, fun j b' hj hb' => ?_⟩
        · rw [at_set_eq, IntWalk.i64_in _ (by omega)]; rfl
        · rcases Nat.lt_or_ge j i with h2 | h2
          · exact hno j b' h2 hb'
          · have : j = i := by omega
            subst this
            rw [hb] at hb'
            cases hb'
            exact asc_true e6
    · simp
      refine he _ _ _ (by simp) ?_
      simp
      refine hQ _ _ _ (leave_sc (.inr rfl) at_set_eq ⟨?_, .refl _⟩)
      have hle : i = l.length := by simp at h hi ⊢; omega
      have : l.all asc = true := by
        rw [List.all_eq_true]
        intro b hb
        obtain ⟨j, hj, e⟩ := List.getElem_of_mem hb
        exact hno j b (by omega) (by rw [List.getElem?_eq_getElem hj, e])
      simp [this]
      omega

/-- Is a mark wrong? -/
def wrong (n : Int) : Bool := decide (n < 1) || decide (1048576 < n)

theorem g69 (n : Int) : Gives Tryz.prog cf 158 [int n] (.sc (.bool (wrong n))) := by
  refine gives_go Tryz.func158 rfl rfl rfl (by simp [Tryz.f158]) (by simp [Tryz.f158]) fun m Q hQ => ?_
  simp only [Tryz.f158, show cf.keepRes 158 = false from rfl] at hQ ⊢
  by_cases h1 : n < 1
  all_goals
    simp [h1]
    exact hQ _ _ _ (leave_sc (.inr rfl) at_set_eq ⟨by simp [wrong, h1], .refl _⟩)

/-- slices.IndexFunc with the marks' test: is its answer negative? -/
theorem g72 (l : List Int) (hl : l.length < 2 ^ 21) : ∃ r : Int, (0 ≤ r ↔ l.any wrong = true) ∧ Gives Tryz.prog cf 177 [.lst (l.map int), .fn (.func 158) [] []] (int r) := by
  refine ⟨match l.findIdx? wrong with | some i => i | none => -1, ?_, ?_⟩
  · cases hf : l.findIdx? wrong with
    | none =>
      rw [List.findIdx?_eq_none_iff] at hf
      simp
      exact hf
    | some i =>
      rw [List.findIdx?_eq_some_iff_getElem] at hf
      obtain ⟨h1, h2, _⟩ := hf
      simp only [List.any_eq_true]
      exact ⟨fun _ => ⟨_, List.getElem_mem h1, h2⟩, fun _ => by omega⟩
  refine gives_go Tryz.func177 rfl rfl rfl (by simp [Tryz.f177]) (by simp [Tryz.f177]) fun m Q hQ => ?_
  simp only [Tryz.f177, show cf.keepRes 177 = false from rfl] at hQ ⊢
  simp
  refine go_loop (fun n s m' => Kp m m' ∧ ∃ i : Nat, n = l.length - i ∧ s.at 0 = .lst (l.map int) ∧ s.at 1 = .fn (.func 158) [] [] ∧ s.at 7 = int l.length ∧ s.at 8 = int i ∧ i ≤ l.length ∧ ∀ j b, j < i → l[j]? = some b → wrong b = false) l.length ⟨.refl m, 0, by simp⟩ ?_
  rintro n s m1 ⟨k1, i, rfl, h0, h1, h7, h8, hi, hno⟩ Q' hn he
  simp [h7, h8]
  refine goB_split (fun h => ?_) fun h => ?_
  · have hlt : i < l.length := by simp at h; omega
    obtain ⟨b, hb⟩ : ∃ b, l[i]? = some b := ⟨_, List.getElem?_eq_getElem hlt⟩
    have hx : (l.map int)[i]? = some (int b) := by simp [hb]
    simp [h0, h1, h8, aindexAddr_lst Tryz.underlying54 tsize3 hx]
    refine goH_gives (g69 b) fun m2 k2 => ?_
    cases e6 : wrong b with
    | true =>
      simp
      refine he _ _ _ (by simp) ?_
      simp
      refine hQ _ _ _ (leave_sc (.inr rfl) at_set_eq ⟨?_, k1.trans k2⟩)
      have : l.findIdx? wrong = some i := by
        rw [List.findIdx?_eq_some_iff_getElem]
        obtain ⟨h2, rfl⟩ := List.getElem?_eq_some_iff.1 hb
        refine ⟨h2, e6, fun j hj => ?_⟩
        simp [hno j _ hj (List.getElem?_eq_getElem (by omega))]
      simp [this]
    | false =>
      simp [h8]
      refine hn (l.length - (i + 1)) _ _ (by omega) ⟨k1.trans k2, i + 1, rfl, by simp [h0], by simp [h1], by simp [h7], ?_, hlt, fun j b' hj hb' => ?_⟩
      · rw [at_set_eq, IntWalk.i64_in _ (by omega)]; rfl
      · rcases Nat.lt_or_ge j i with h2 | h2
        · exact hno j b' h2 hb'
        · have : j = i := by omega
          subst this
          rw [hb] at hb'
          cases hb'
          exact e6
  · simp
    refine he _ _ _ (by simp) ?_
    simp
    refine hQ _ _ _ (leave_sc (.inr rfl) at_set_eq ⟨?_, k1⟩)
    have hle : i = l.length := by simp at h hi ⊢; omega
    have : l.findIdx? wrong = none := by
      rw [List.findIdx?_eq_none_iff]
      intro b hb
      obtain ⟨j, hj, e⟩ := List.getElem_of_mem hb
      exact hno j b (by omega) (by rw [List.getElem?_eq_getElem hj, e])
    simp [this]

theorem g70 (l : List Int) (hl : l.length < 2 ^ 21) : Gives Tryz.prog cf 159 [.lst (l.map int), .fn (.func 158) [] []] (.sc (.bool (l.any wrong))) := by
  obtain ⟨r, h, hg⟩ := g72 l hl
  refine gives_go Tryz.func159 rfl rfl rfl (by simp [Tryz.f159]) (by simp [Tryz.f159]) fun m Q hQ => ?_
  simp only [Tryz.f159, show cf.keepRes 159 = false from rfl] at hQ ⊢
  simp
  refine goH_gives hg fun m1 k1 => ?_
  simp
  refine hQ _ _ _ (leave_sc (.inr rfl) at_set_eq ⟨?_, k1⟩)
  congr 2
  rw [← Bool.coe_iff_coe]
  simp [h]
end Go.Proofs.YtnhcmcfgemoehaaGreat
