import Derived.Test.YtnhcmcfgemoehaaGreatYDat
/- One in memory of its own. -/
set_option linter.unusedSimpArgs false
set_option linter.unusedVariables false
set_option linter.unusedSectionVars false
namespace Go.Proofs.YtnhcmcfgemoehaaGreat
set_option maxRecDepth 4000
open Go.V
attribute [local simp] Nat.add_assoc

mutual
/-- A datum with its marks turned so. -/
def Dat.re (f : List Int → List Int) : Dat → Dat
  | .mk K N S M L T => .mk K N S (f M) (res f L) (res f T)
def res (f : List Int → List Int) : List Dat → List Dat
  | [] => []
  | d :: l => d.re f :: res f l
end
theorem res_map (f : List Int → List Int) : ∀ l, res f l = l.map (Dat.re f)
  | [] => by simp [res]
  | d :: l => by simp [res, res_map f l]
@[simp] theorem res_length (f : List Int → List Int) (l : List Dat) : (res f l).length = l.length := by simp [res_map]

/-- What 'own' is handed for the marks. -/
def Marks (g : FuncId) (f : List Int → List Int) : Prop := ∀ (M : List Int) (m : Mem), M.length < 2 ^ 21 → EH Tryz.prog cf (.func g) [.lst (M.map int)] m (.lst ((f M).map int)) m
mutual
theorem re_id : ∀ d : Dat, d.re id = d
  | .mk K N S M L T => by simp [Dat.re, res_id L, res_id T]
theorem res_id : ∀ l : List Dat, res id l = l
  | [] => by simp [res]
  | d :: l => by simp [res, re_id d, res_id l]
end
/-- Without marks. -/
def Dat.plain (d : Dat) : Dat := d.re fun _ => []
end Go.Proofs.YtnhcmcfgemoehaaGreat
