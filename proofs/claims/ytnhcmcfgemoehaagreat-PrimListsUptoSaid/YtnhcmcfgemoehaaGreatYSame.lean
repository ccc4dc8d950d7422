import Derived.Test.YtnhcmcfgemoehaaGreatYDat
/- Two data are the same. -/
set_option linter.unusedSimpArgs false
set_option linter.unusedVariables false
set_option linter.unusedSectionVars false
namespace Go.Proofs.YtnhcmcfgemoehaaGreat
set_option maxRecDepth 4000
open Go.V
attribute [local simp] Nat.add_assoc

mutual
def eqb : Dat → Dat → Bool
  | .mk K N S M L T, .mk K' N' S' M' L' T' => decide (K = K') && (decide (N = N') && (decide (S = S') && (decide (M = M') && (eqbs L L' && eqbs T T'))))
def eqbs : List Dat → List Dat → Bool
  | [], [] => true
  | a :: l, b :: r => eqb a b && eqbs l r
  | _, _ => false
end
theorem eqbs_iff : ∀ (L R : List Dat), eqbs L R = true ↔ L.length = R.length ∧ ∀ (j : Nat) a b, L[j]? = some a → R[j]? = some b → eqb a b = true
  | [], [] => by simp [eqbs]
  | [], _ :: _ => by simp [eqbs]
  | _ :: _, [] => by simp [eqbs]
  | a :: l, b :: r => by
    simp only [eqbs, Bool.and_eq_true, eqbs_iff l r]
    constructor
    · rintro ⟨h1, h2, h3⟩
      refine ⟨by simp [h2], fun j x y hx hy => ?_⟩
      cases j with
      | zero => simp at hx hy; subst hx; subst hy; exact h1
      | succ j => exact h3 j x y (by simpa using hx) (by simpa using hy)
    · rintro ⟨h1, h2⟩
      exact ⟨h2 0 a b rfl rfl, by simpa using h1, fun j x y hx hy => h2 (j + 1) x y (by simpa using hx) (by simpa using hy)⟩

end Go.Proofs.YtnhcmcfgemoehaaGreat
