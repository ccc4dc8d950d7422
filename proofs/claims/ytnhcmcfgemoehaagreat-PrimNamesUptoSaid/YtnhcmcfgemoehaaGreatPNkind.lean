import Derived.Test.YtnhcmcfgemoehaaGreatPNref
/- The faults' names. -/
set_option linter.unusedSimpArgs false
set_option linter.unusedVariables false
set_option linter.unusedSectionVars false
namespace Go.Proofs.YtnhcmcfgemoehaaGreat
open Go.V
attribute [local simp] Nat.add_assoc
def kinds : List (List UInt8) := [[], [116, 121, 112, 101], [97, 114, 105, 116, 121], [110, 97, 109, 101], [111, 118, 101, 114], [122, 101, 114, 111], [114, 97, 110, 103, 101], [97, 112, 112, 108, 121], [114, 111, 111, 109], [115, 104, 111, 116], [111, 119, 110, 101, 114], [99, 108, 111, 115, 101, 100], [110, 101, 115, 116], [101, 114, 114, 111, 114], [100, 101, 101, 112]]
def kindA (n : Int) : List UInt8 := if n < 1 ∨ 15 ≤ n then [] else (kinds[n.toNat]?).getD []
theorem kind_cases {n : Int} (h : ¬ n < 1) (h2 : ¬ 15 ≤ n) : n = 1 ∨ n = 2 ∨ n = 3 ∨ n = 4 ∨ n = 5 ∨ n = 6 ∨ n = 7 ∨ n = 8 ∨ n = 9 ∨ n = 10 ∨ n = 11 ∨ n = 12 ∨ n = 13 ∨ n = 14 := by omega
theorem kind_out {n : Int} (h : n < 1 ∨ 15 ≤ n) : kindA n = [] := by unfold kindA; rw [if_pos h]
theorem telem84 : telem Tryz.prog 84 = none := by kernel_rfl
set_option maxRecDepth 100000 in
set_option maxHeartbeats 4000000 in
theorem gk14 (n : Int) : Gives Tryz.prog cz 14 [int n] (.sc (.string ⟨⟨kindA n⟩⟩)) := by
  refine gives_run Tryz.func14 rfl rfl rfl rfl (by simp) (by simp [Tryz.f14]) (by simp [Tryz.f14]) fun m => ?_
  simp [Tryz.f14, show cz.keepRes 14 = false from rfl, abuild, placesOf, fillAt]
  by_cases h : n < 1
  · simp [h, kind_out (.inl h)]
  · by_cases h2 : 15 ≤ n
    · simp [h, h2, kind_out (.inr h2)]
    · rcases kind_cases h h2 with rfl | rfl | rfl | rfl | rfl | rfl | rfl | rfl | rfl | rfl | rfl | rfl | rfl | rfl <;> simp [aindexAddr, telem84, kindA, kinds]
set_option maxRecDepth 100000 in
set_option maxHeartbeats 4000000 in
theorem gk15 (n : Int) : Gives Tryz.prog cz 15 [int n] (.sc (.string ⟨⟨kindA n⟩⟩)) := by
  refine gives_run Tryz.func15 rfl rfl rfl rfl (by simp) (by simp [Tryz.f15]) (by simp [Tryz.f15]) fun m => ?_
  simp [Tryz.f15, show cz.keepRes 15 = false from rfl, abuildSlice, placesOf, fillAt, zeros]
  by_cases h : n < 1
  · simp [h, kind_out (.inl h)]
  · by_cases h2 : 15 ≤ n
    · simp [h, h2, kind_out (.inr h2)]
    · rcases kind_cases h h2 with rfl | rfl | rfl | rfl | rfl | rfl | rfl | rfl | rfl | rfl | rfl | rfl | rfl | rfl <;> simp [aindexAddr, telem84, kindA, kinds]

/-- Lists of procedures that are alike. -/
theorem two35 : Two Tryz.prog 35 3 9 := ⟨⟨_, _, Tryz.underlying35, by decide, by decide, rfl, rfl, rfl, rfl⟩, tagg3, tagg9, by kernel_rfl, by kernel_rfl⟩
theorem nm_neq {xo yo : Operand} (i : Nat) (s : List UInt8) : abin Tryz.prog .neq 35 xo yo (nmA i s) (nmA i s) = some (.sc (.bool false)) := by
  have := (abin_two (xo := xo) (yo := yo) two35 (x1 := .int .i64 i) (y1 := .int .i64 i) (x2 := .string ⟨⟨s⟩⟩) (y2 := .string ⟨⟨s⟩⟩) (b1 := true) (b2 := true) (fun d => by rw [equalIn_int Tryz.underlying3]; simp) (fun d => by rw [equalIn_str Tryz.underlying9]; simp)).2
  simpa [nmA] using this
def nms (l : List (Nat × List UInt8)) : List AV := l.map fun p => nmA p.1 p.2
theorem nms_at {l : List (Nat × List UInt8)} {i : Nat} {p : Nat × List UInt8} (h : l[i]? = some p) : (nms l)[i]? = some (nmA p.1 p.2) := by unfold nms; rw [List.getElem?_map, h]; rfl
theorem nms_length (l : List (Nat × List UInt8)) : (nms l).length = l.length := by unfold nms; rw [List.length_map]
set_option maxRecDepth 100000 in
set_option maxHeartbeats 4000000 in
theorem gk16 (l : List (Nat × List UInt8)) (hl : l.length ≤ 100) : Gives Tryz.prog cz 16 [.lst (nms l), .lst (nms l)] (.sc (.bool true)) := by
  refine gives_run Tryz.func16 rfl rfl rfl rfl (by simp) (by simp [Tryz.f16]) (by simp [Tryz.f16]) fun m => ?_
  simp [Tryz.f16, show cz.keepRes 16 = false from rfl, nms_length]
  refine go_count 13 l.length (fun i s' m' => Kp m m' ∧ s'.at 0 = .lst (nms l) ∧ s'.at 1 = .lst (nms l) ∧ s'.at 12 = int l.length) (by simp) (by omega) ⟨by simp, by simp, by simp, by simp⟩ ?_
  rintro i s' m' hi e13 ⟨hkp, e0, e1, e12⟩ hsame hw Q' hn he
  simp [e13, e12]
  refine goB_split (fun h => ?_) fun h => ?_
  · have hlt : i < l.length := by have := of_decide_eq_true h; omega
    obtain ⟨p, hp⟩ : ∃ p, l[i]? = some p := ⟨_, List.getElem?_eq_getElem hlt⟩
    have hx := aindexAddr_lst (q := .i64) Tryz.underlying31 tsize35 (nms_at hp) (by simp [nmA])
    have hne := fun (xo yo : Operand) => nm_neq (xo := xo) (yo := yo) p.1 p.2
    simp
    refine go_draw0 (by kernel_rfl) (by kernel_rfl) ?_
    simp [e0, e1, e13, hx, hne]
    simp only [nmA] at hx hne ⊢
    simp [e0, e1, e13, hx, hne, hw]
    rw [hne]
    simp [e0, e1, e13, hw]
    refine hn _ _ hlt (by simp) ⟨hkp, by simp [e0], by simp [e1], by simp [e12]⟩
  · have hge : i = l.length := by have := of_decide_eq_false h; omega
    subst hge
    simp
    refine he _ _ _ (by simp) ?_
    simp
    exact hkp
end Go.Proofs.YtnhcmcfgemoehaaGreat
