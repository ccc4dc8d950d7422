import Derived.Test.YtnhcmcfgemoehaaGreatYCons2
/- How many parts a list has, and how deep it is: the plain law. -/
set_option linter.unusedSimpArgs false
set_option linter.unusedVariables false
set_option linter.unusedSectionVars false
namespace Go.Proofs.YtnhcmcfgemoehaaGreat
set_option maxRecDepth 4000

mutual
def good : Dat → Bool
  | .mk K N S M L T => alone (.mk K N S M L T) && (goods L && goods T)
def goods : List Dat → Bool
  | [] => true
  | d :: l => good d && goods l
end
mutual
/-- How deep it goes, wherever. -/
def dpt : Dat → Int
  | .mk _ _ _ _ L T => 1 + max (dpts L) (dpts T)
def dpts : List Dat → Int
  | [] => 0
  | d :: l => max (dpt d) (dpts l)
end
mutual
theorem dpt_pos : ∀ d : Dat, 1 ≤ dpt d
  | .mk _ _ _ _ L T => by have := dpts_pos L; rw [dpt]; omega
theorem dpts_pos : ∀ l : List Dat, 0 ≤ dpts l
  | [] => by rw [dpts]; omega
  | d :: l => by have := dpts_pos l; rw [dpts]; omega
end
theorem size_pos (d : Dat) : 1 ≤ d.size := by cases d; rw [Dat.size]; omega

mutual
/-- Nothing is wrong. -/
theorem wk_yes : ∀ (d : Dat) (deep p q : Int), good d = true → p + d.size ≤ 4096 → deep + dpt d - 1 ≤ 64 → wk d deep p q = (0, p + d.size, max q (deep + dpt d - 1))
  | .mk K N S M L T, deep, p, q, hg, hp, hd => by
    rw [good] at hg
    simp only [Bool.and_eq_true] at hg
    rw [Dat.size] at hp
    rw [dpt] at hd
    have dl := dpts_pos L
    have dt := dpts_pos T
    rw [wk, if_neg (by omega), if_neg (by omega), if_neg (by simp [hg.1]), wks_yes L _ _ _ hg.2.1 (by omega) (by omega)]
    simp only [nxt, if_true]
    rw [wks_yes T _ _ _ hg.2.2 (by omega) (by omega), Dat.size, dpt]
    have e1 : p + 1 + (sizes L : Int) + sizes T = p + ((1 + (sizes L + sizes T) : Nat) : Int) := by omega
    rw [e1]
    refine Prod.ext rfl (Prod.ext rfl ?_)
    dsimp only
    split <;> split <;> rename_i h1 h2 <;> rcases L with _ | ⟨l, L⟩ <;> rcases T with _ | ⟨t, T⟩ <;> simp_all [dpts] <;> omega
theorem wks_yes : ∀ (l : List Dat) (deep p q : Int), goods l = true → p + sizes l ≤ 4096 → deep + dpts l - 1 ≤ 64 → wks l deep p q = (0, p + sizes l, if l = [] then q else max q (deep + dpts l - 1))
  | [], deep, p, q, hg, hp, hd => by simp [wks, sizes]
  | d :: l, deep, p, q, hg, hp, hd => by
    rw [goods] at hg
    simp only [Bool.and_eq_true] at hg
    rw [sizes] at hp
    rw [dpts] at hd
    have dl := dpts_pos l
    have dd := dpt_pos d
    rw [wks, wk_yes d _ _ _ hg.1 (by omega) (by omega)]
    simp only [nxt, if_true]
    rw [wks_yes l _ _ _ hg.2 (by omega) (by omega), sizes, dpts]
    refine Prod.ext rfl (Prod.ext ?_ ?_)
    · dsimp only; omega
    · dsimp only
      have ne : ¬ (d :: l = []) := by simp
      rw [if_neg ne]
      split
      · rename_i e; subst e; simp only [dpts]; omega
      · omega
end

mutual
/-- All may be by itself: if there is an error, there are too many, or it is too deep. -/
theorem wk_bad : ∀ (d : Dat) (deep p q : Int), good d = true → (wk d deep p q).1 = 0 ∨ (wk d deep p q).1 = 3 ∨ (wk d deep p q).1 = 4
  | .mk K N S M L T, deep, p, q, hg => by
    rw [good] at hg
    simp only [Bool.and_eq_true] at hg
    rw [wk]
    split
    · simp
    split
    · simp
    rw [if_neg (by simp [hg.1])]
    unfold nxt
    split
    · exact wks_bad T _ _ _ hg.2.2
    · exact wks_bad L _ _ _ hg.2.1
theorem wks_bad : ∀ (l : List Dat) (deep p q : Int), goods l = true → (wks l deep p q).1 = 0 ∨ (wks l deep p q).1 = 3 ∨ (wks l deep p q).1 = 4
  | [], deep, p, q, hg => by simp [wks]
  | d :: l, deep, p, q, hg => by
    rw [goods] at hg
    simp only [Bool.and_eq_true] at hg
    rw [wks]
    unfold nxt
    split
    · exact wks_bad l _ _ _ hg.2
    · exact wk_bad d _ _ _ hg.1
end

mutual
/-- What may be is such. -/
theorem wk_good : ∀ (d : Dat) (deep p q : Int), (wk d deep p q).1 = 0 → good d = true ∧ deep + dpt d - 1 ≤ 64
  | .mk K N S M L T, deep, p, q, h => by
    rw [wk] at h
    split at h
    · simp at h
    split at h
    · simp at h
    split at h
    · simp at h
    rename_i h1 h2 h3
    obtain ⟨a, b⟩ := nxt_zero h
    have hL := wks_good L _ _ _ a
    have hT := wks_good T _ _ _ b
    have dl := dpts_pos L
    have dt := dpts_pos T
    rw [good, dpt]
    refine ⟨by simp at h3; simp [h3, hL.1, hT.1], ?_⟩
    omega
theorem wks_good : ∀ (l : List Dat) (deep p q : Int), (wks l deep p q).1 = 0 → goods l = true ∧ (dpts l = 0 ∨ deep + dpts l - 1 ≤ 64)
  | [], deep, p, q, h => by simp [goods, dpts]
  | d :: l, deep, p, q, h => by
    rw [wks] at h
    obtain ⟨a, b⟩ := nxt_zero h
    have hd := wk_good d _ _ _ a
    have hl := wks_good l _ _ _ b
    rw [goods, dpts]
    refine ⟨by simp [hd.1, hl.1], ?_⟩
    omega
end
theorem chk_good {d : Dat} (h : chk d = 0) : good d = true ∧ d.size ≤ 4096 ∧ dpt d ≤ 64 := by
  have := wk_good d 1 0 0 h
  exact ⟨this.1, chk_size h, by omega⟩
theorem chk_iff {d : Dat} : chk d = 0 ↔ good d = true ∧ d.size ≤ 4096 ∧ dpt d ≤ 64 := ⟨chk_good, fun ⟨a, b, c⟩ => by unfold chk; rw [wk_yes d 1 0 0 a (by omega) (by omega)]⟩
theorem siz_eq {d : Dat} (h : chk d = 0) : siz d = d.size := by
  obtain ⟨a, b, c⟩ := chk_good h
  unfold siz
  rw [if_pos h, wk_yes d 1 0 0 a (by omega) (by omega)]
  dsimp only; omega
theorem dep_eq {d : Dat} (h : chk d = 0) : dep d = dpt d := by
  obtain ⟨a, b, c⟩ := chk_good h
  have := dpt_pos d
  unfold dep
  rw [if_pos h, wk_yes d 1 0 0 a (by omega) (by omega)]
  dsimp only; omega
theorem siz_no {d : Dat} (h : chk d ≠ 0) : siz d = 0 := if_neg h
theorem dep_no {d : Dat} (h : chk d ≠ 0) : dep d = 0 := if_neg h

theorem goods_of : ∀ {l : List Dat}, (∀ d ∈ l, chk d = 0) → goods l = true
  | [], h => by simp [goods]
  | d :: l, h => by rw [goods, (chk_good (h d (by simp))).1, goods_of fun d hd => h d (by simp [hd])]; rfl
/-- The law of lists. -/
theorem chk_lis {l : List Dat} (h : ∀ d ∈ l, chk d = 0) : if 4096 < 1 + sizes l ∨ 64 ≤ dpts l then (chk (lis l) = 3 ∨ chk (lis l) = 4) else chk (lis l) = 0 ∧ siz (lis l) = 1 + sizes l ∧ dep (lis l) = dpts l + 1 := by
  have hg : good (lis l) = true := by simp [lis, good, alone, goods_of h, goods]
  have hs : (lis l).size = 1 + sizes l := by simp [lis, Dat.size, sizes]
  have hd : dpt (lis l) = 1 + dpts l := by have := dpts_pos l; simp [lis, dpt, dpts]; omega
  split
  · rename_i hc
    have := wk_bad (lis l) 1 0 0 hg
    refine this.resolve_left fun e => ?_
    have := chk_good (d := lis l) e
    omega
  · rename_i hc
    have e : chk (lis l) = 0 := chk_iff.2 ⟨hg, by omega, by omega⟩
    exact ⟨e, by rw [siz_eq e, hs]; omega, by rw [dep_eq e, hd]; omega⟩

theorem sizes_append : ∀ (a b : List Dat), sizes (a ++ b) = sizes a + sizes b
  | [], b => by simp [sizes]
  | d :: a, b => by simp [sizes, sizes_append a b]; omega
theorem dpts_append : ∀ (a b : List Dat), dpts (a ++ b) = max (dpts a) (dpts b)
  | [], b => by have := dpts_pos b; simp [dpts]; omega
  | d :: a, b => by rw [List.cons_append, dpts, dpts, dpts_append a b]; omega
theorem sizes_bound : ∀ {l : List Dat}, (∀ d ∈ l, chk d = 0) → sizes l ≤ 4096 * l.length
  | [], h => by simp [sizes]
  | d :: l, h => by
    have a := (chk_good (h d (by simp))).2.1
    have b := sizes_bound (l := l) fun x hx => h x (by simp [hx])
    simp [sizes]
    omega
end Go.Proofs.YtnhcmcfgemoehaaGreat
