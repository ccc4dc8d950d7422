import Derived.Test.YtjiijacibpgciaaGreatYRef3
import Derived.Test.YtjiijacibpgciaaGreatYHalves
/- Two data are the same if their parts are, one by one: the plain law. -/
set_option linter.unusedSimpArgs false
set_option linter.unusedVariables false
set_option linter.unusedSectionVars false
namespace Go.Proofs.YtjiijacibpgciaaGreat
set_option maxRecDepth 4000

mutual
/-- A datum's parts in order. -/
def pre : Dat → List Dat
  | .mk K N S M L T => .mk K N S M L T :: (pres L ++ pres T)
def pres : List Dat → List Dat
  | [] => []
  | d :: l => pre d ++ pres l
end
mutual
theorem rgo_pre : ∀ (d : Dat) (deep : Int) (r : RS), r.e = 0 → (rgo d deep r).e = 0 → (rgo d deep r).ps = r.ps ++ pre d
  | .mk K N S M L T, deep, r, h, he => by
    rw [rgo, if_neg (by simp [h])] at he ⊢
    split at he
    · simp at he
    rw [if_neg ‹_›]
    split at he
    · simp at he
    rw [if_neg ‹_›]
    split at he
    · simp at he
    rw [if_neg ‹_›]
    generalize hr1 : (⟨r.ps ++ [Dat.mk K N S M L T], r.ds ++ [deep], 0⟩ : RS) = r1 at he ⊢
    have e1 : r1.e = 0 := by rw [← hr1]
    have e2 : (rgos L (deep + 1) r1).e = 0 := by
      by_cases e : (rgos L (deep + 1) r1).e = 0
      · exact e
      · rw [rgos_err T _ _ e] at he; exact absurd he e
    rw [rgos_pre T _ _ e2 he, rgos_pre L _ _ e1 e2, ← hr1, pre]
    simp
theorem rgos_pre : ∀ (l : List Dat) (deep : Int) (r : RS), r.e = 0 → (rgos l deep r).e = 0 → (rgos l deep r).ps = r.ps ++ pres l
  | [], deep, r, h, he => by simp [rgos, pres]
  | d :: l, deep, r, h, he => by
    rw [rgos] at he ⊢
    have e2 : (rgo d deep r).e = 0 := by
      by_cases e : (rgo d deep r).e = 0
      · exact e
      · rw [rgos_err l _ _ e] at he; exact absurd he e
    rw [rgos_pre l _ _ e2 he, rgo_pre d _ _ h e2, pres]
    simp
end
theorem nodes_pre {d : Dat} (h : chk d = 0) : nodes d = pre d := by
  unfold nodes
  rw [if_pos h, rgo_pre d 1 rs0 rfl (by rw [rgo_e, h])]
  rfl

/-- Two parts are the same, by themselves. -/
def nsame : Dat → Dat → Bool
  | .mk K N S M L T, .mk K' N' S' M' L' T' => decide (K = K') && (decide (N = N') && (decide (S = S') && (decide (M = M') && (decide (L.length = L'.length) && decide (T.length = T'.length)))))
def all2 : List Dat → List Dat → Bool
  | [], [] => true
  | a :: l, b :: r => nsame a b && all2 l r
  | _, _ => false
theorem eqbs_length : ∀ {l r : List Dat}, eqbs l r = true → l.length = r.length
  | [], [], _ => rfl
  | [], _ :: _, h => by simp [eqbs] at h
  | _ :: _, [], h => by simp [eqbs] at h
  | a :: l, b :: r, h => by simp only [eqbs, Bool.and_eq_true] at h; simp [eqbs_length h.2]
mutual
theorem all2_pre : ∀ (a b : Dat) (x y : List Dat), all2 (pre a ++ x) (pre b ++ y) = (eqb a b && all2 x y)
  | .mk K N S M L T, .mk K' N' S' M' L' T', x, y => by
    simp only [pre, List.cons_append, all2, nsame, eqb, List.append_assoc]
    by_cases hl : L.length = L'.length
    · by_cases ht : T.length = T'.length
      · rw [all2_pres L L' _ _ hl, all2_pres T T' _ _ ht]
        simp [hl, ht, Bool.and_assoc]
      · have : eqbs T T' = false := by
          cases h : eqbs T T' with
          | false => rfl
          | true => exact absurd (eqbs_length h) ht
        simp [ht, this]
    · have : eqbs L L' = false := by
        cases h : eqbs L L' with
        | false => rfl
        | true => exact absurd (eqbs_length h) hl
      simp [hl, this]
theorem all2_pres : ∀ (l r : List Dat) (x y : List Dat), l.length = r.length → all2 (pres l ++ x) (pres r ++ y) = (eqbs l r && all2 x y)
  | [], [], x, y, h => by simp [pres, eqbs]
  | [], _ :: _, x, y, h => by simp at h
  | _ :: _, [], x, y, h => by simp at h
  | a :: l, b :: r, x, y, h => by
    simp only [pres, List.append_assoc, eqbs]
    rw [all2_pre a b, all2_pres l r x y (by simpa using h), Bool.and_assoc]
end
theorem all2_iff : ∀ (A B : List Dat), all2 A B = true ↔ A.length = B.length ∧ ∀ (j : Nat) a b, A[j]? = some a → B[j]? = some b → nsame a b = true
  | [], [] => by simp [all2]
  | [], _ :: _ => by simp [all2]
  | _ :: _, [] => by simp [all2]
  | a :: l, b :: r => by
    simp only [all2, Bool.and_eq_true, all2_iff l r]
    constructor
    · rintro ⟨h1, h2, h3⟩
      refine ⟨by simp [h2], fun j x y hx hy => ?_⟩
      cases j with
      | zero => simp at hx hy; subst hx; subst hy; exact h1
      | succ j => exact h3 j x y (by simpa using hx) (by simpa using hy)
    · rintro ⟨h1, h2⟩
      exact ⟨h2 0 a b rfl rfl, by simpa using h1, fun j x y hx hy => h2 (j + 1) x y (by simpa using hx) (by simpa using hy)⟩
theorem pre_ne (d : Dat) : pre d ≠ [] := by cases d; simp [pre]
/-- What the reference finds is what the program finds. -/
theorem sam_nodes (a b : Dat) : sam a b = (!(nodes a).isEmpty && all2 (nodes a) (nodes b)) := by
  unfold sam
  by_cases h1 : chk a = 0
  · by_cases h2 : chk b = 0
    · have e := all2_pre a b [] []
      simp only [List.append_nil, all2, Bool.and_true] at e
      rw [nodes_pre h1, nodes_pre h2, e]
      have : (pre a).isEmpty = false := by cases hp : pre a with | nil => exact absurd hp (pre_ne a) | cons x l => rfl
      simp [h1, h2, this]
    · have hb : nodes b = [] := if_neg h2
      rw [hb, nodes_pre h1]
      have : all2 (pre a) [] = false := by cases hp : pre a with | nil => exact absurd hp (pre_ne a) | cons x l => rfl
      simp [h2, this]
  · have ha : nodes a = [] := if_neg h1
    simp [h1, ha]
end Go.Proofs.YtjiijacibpgciaaGreat
