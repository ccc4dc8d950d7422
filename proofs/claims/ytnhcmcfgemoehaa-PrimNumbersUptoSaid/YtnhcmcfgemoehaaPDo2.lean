import Derived.Test.YtnhcmcfgemoehaaPDo
import Derived.Test.YtnhcmcfgemoehaaPRows
/- The procedures of numbers. -/
set_option linter.unusedSimpArgs false
set_option linter.unusedVariables false
set_option linter.unusedSectionVars false
namespace Go.Proofs.Ytnhcmcfgemoehaa
open Go.V
attribute [local simp] Nat.add_assoc

/-- The procedures that are asked for. -/
def numP (p : Int) : Prop := p = 0 ∨ p = 2 ∨ p = 3 ∨ p = 4 ∨ p = 51 ∨ p = 52
/-- What 'reckons' and 'do' make. -/
def Mk (f : FuncId) (p : Int) (l : List Int) (t n k : Int) : Prop := ∀ C A m, Cl C A p l 0 m → wph Try.prog cp (.func f) [.ptr C 0] m fun u m' => u = .agg [int t, int n] ∧ KC C m m' ∧ Cl C A p l k m'
set_option maxRecDepth 20000 in
set_option maxHeartbeats 8000000 in
theorem e19 {p : Int} {l : List Int} {t n k : Int} (hp : numP p) (h30 : Mk 30 p l t n k) : Mk 19 p l t n k := by
  intro C A m h
  obtain ⟨v, hv⟩ := h.get
  have hc := h.c
  have n1 : C ≠ m.next := by omega
  have q := h30 C A (m.new [int 0, int 0] false) (h.kp (Kp.new _ _ _))
  have fin : ∀ Q : Ex → Sl → Mem → Prop, (∀ (e : Ex) (s : Sl) (m_1 : Mem), leave Try.prog false [ResultVar.cell 2 29] (fun u m' => u = .agg [int t, int n] ∧ KC C m m' ∧ Cl C A p l k m') e s m_1 → Q e s m_1) → ∀ (s : Sl) (m' : Mem), s.at 2 = .ptr m.next 0 → KC C (m.new [int 0, int 0] false) m' → Cl C A p l k m' → Q .ret s (m'.set m.next [int t, int n]) := by
    intro Q hQ s m' e2 k1 k2
    obtain ⟨w, hw⟩ : ∃ v, m'.get m.next = some (.cells [int 0, int 0] false v) := ⟨_, by rw [k1.get m.next (by simp) (by omega)]; simp; rfl⟩
    refine hQ _ _ _ ?_
    simp [e2, hw]
    exact ⟨KC.fin k1 rfl, k2.fin (by omega)⟩
  refine wph_go Try.func19 rfl rfl (by simp [Try.f19]) (by simp [Try.f19]) fun Q hQ => ?_
  simp only [Try.f19, show cp.keepRes 19 = false from rfl, show cp.keepArgs 19 = false from rfl] at hQ ⊢
  rcases hp with rfl | rfl | rfl | rfl | rfl | rfl
  all_goals
    simp [hv, n1]
    refine goH_of q ?_
    rintro u m' ⟨rfl, k1, k2⟩
    obtain ⟨w, hw⟩ : ∃ v, m'.get m.next = some (.cells [int 0, int 0] false v) := ⟨_, by rw [k1.get m.next (by simp) (by omega)]; simp; rfl⟩
    simp [hw]
    refine fin Q hQ _ m' (by simp) k1 k2
set_option maxRecDepth 20000 in
set_option maxHeartbeats 8000000 in
theorem e18 {C A : Nat} {p k : Int} {l : List Int} {i : Nat} {n : Int} {m : Mem} (hp : numP p) (h : Cl C A p l k m) (hi : l[i]? = some n) : EH Try.prog cp (.func 18) [.ptr C 0, int i] m (.sc (.bool true)) m := by
  obtain ⟨v, hv⟩ := h.get
  have hc := h.c
  have n1 : C ≠ m.next := by omega
  have hx := aindexAddr_lst (q := .i64) (x := numA n) (l := l.map numA) (i := i) Try.underlying33 tsize29 (by rw [List.getElem?_map, hi]; rfl) (by simp [numA])
  refine eh_run Try.func18 rfl rfl rfl rfl (args1 := [.ptr C 0, int i]) (m1 := m) (by simp) (by simp) (by simp [Try.f18]) (by simp [Try.f18]) ?_
  simp only [Try.f18, show cp.keepRes 18 = false from rfl]
  rcases hp with rfl | rfl | rfl | rfl | rfl | rfl
  all_goals
    simp [hv, n1, hx]
    simp [numA, n1, hv]
end Go.Proofs.Ytnhcmcfgemoehaa
