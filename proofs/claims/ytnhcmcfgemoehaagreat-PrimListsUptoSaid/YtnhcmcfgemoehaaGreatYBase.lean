import Derived.Test.YtnhcmcfgemoehaaGreatYTypes
/- What is kept as it is; the functions told by hand; the types; a datum. -/
set_option linter.unusedSimpArgs false
set_option linter.unusedVariables false
set_option linter.unusedSectionVars false
namespace Go.Proofs.YtnhcmcfgemoehaaGreat
set_option maxRecDepth 4000
open Go.V
/-- The functions that leave something in memory. -/
def leaves : List Nat := [73, 104, 143]
noncomputable def cf : Cfg := ⟨fun _ => false, fun _ => false, fun f => none, fun f => if leaves.contains f then 0 else 1⟩
/-- An int. -/
abbrev int (n : Int) : AV := .sc (.int .i64 n)

inductive Dat where
  | mk (K N : Int) (S : List UInt8) (M : List Int) (L T : List Dat)

mutual
def enc : Dat → AV
  | .mk K N S M L T => .agg [int K, int N, .sc (.string ⟨⟨S⟩⟩), .lst (M.map int), .lst (encs L), .lst (encs T)]
def encs : List Dat → List AV
  | [] => []
  | d :: l => enc d :: encs l
end
theorem encs_map : ∀ l, encs l = l.map enc
  | [] => by simp [encs]
  | d :: l => by simp [encs, encs_map l]
@[simp] theorem encs_length (l : List Dat) : (encs l).length = l.length := by simp [encs_map]
theorem encs_get (l : List Dat) (i : Nat) : (encs l)[i]? = (l[i]?).map enc := by simp [encs_map]
@[simp] theorem fzv_enc (m : Mem) (d : Dat) : fzv m (enc d) = (enc d, m) := by
  cases d
  simp [enc]
@[simp] theorem enc_okc (d : Dat) : (enc d).okc = true := by cases d; simp [enc]
@[simp] theorem enc_cells_length (d : Dat) : (enc d).cells.length = 6 := by cases d; simp [enc]
@[simp] theorem enc_take (d : Dat) : List.take 6 (enc d).cells = (enc d).cells := List.take_of_length_le (by simp)
@[simp] theorem enc_agg (d : Dat) : AV.agg (enc d).cells = enc d := by cases d; simp [enc]
@[simp] theorem okAll_ints (l : List Int) : okAll 1 (l.map int) = true := by
  induction l with
  | nil => rfl
  | cons x l ih => simp [okAll_cons, ih]
@[simp] theorem okAll_encs (l : List Dat) : okAll 6 (encs l) = true := by
  induction l with
  | nil => rfl
  | cons x l ih => simp [encs, okAll_cons, ih]
@[simp] theorem fzvs_ints (m : Mem) (l : List Int) : fzvs m (l.map int) = (l.map int, m) := by
  induction l with
  | nil => rfl
  | cons x l ih => simp [fzvs, ih]
@[simp] theorem fzvs_encs (m : Mem) (l : List Dat) : fzvs m (encs l) = (encs l, m) := by
  induction l with
  | nil => rfl
  | cons x l ih => simp [encs, fzvs, ih]
theorem flat_ints (l : List Int) : flat (l.map int) = l.map int := by
  induction l with
  | nil => rfl
  | cons x l ih => simp [flat_cons, ih]
@[simp] theorem bels_ints (n : Nat) (l : List Int) : AV.bels n (l.map int) = true := by
  induction l with
  | nil => rfl
  | cons x l ih => simp [AV.bels, AV.bel, ih]
mutual
@[simp] theorem bel_enc (n : Nat) : ∀ d : Dat, (enc d).bel n = true
  | .mk K N S M L T => by simp [enc, AV.bel, AV.bels, bels_encs n L, bels_encs n T]
@[simp] theorem bels_encs (n : Nat) : ∀ l : List Dat, AV.bels n (encs l) = true
  | [] => by simp [encs, AV.bels]
  | d :: l => by simp [encs, AV.bels, bel_enc n d, bels_encs n l]
end
@[simp] theorem fz1_ints {m : Mem} {id v : Nat} {f : Bool} {cap : Option Nat} {l : List Int} {n : Nat} (hn : n = l.length) (hg : m.get id = some (.cells (l.map int) f v)) : fz1 m (.sl id 0 n 1 false cap) = (.lst (l.map int), m.mark id (l.map int) v) := by
  subst hn
  have := fz1_row (m := m) (id := id) (k := 1) (ag := false) (cap := cap) (ys := l.map int) (v := v) (f := f) rfl (by rw [flat_ints]; exact hg) (fun y hy => by obtain ⟨x, _, rfl⟩ := List.mem_map.1 hy; simp) (okAll_ints l)
  rw [flat_ints] at this
  simpa using this
@[simp] theorem fz1_encs {m : Mem} {id v : Nat} {f : Bool} {cap : Option Nat} {l : List Dat} {n : Nat} (hn : n = l.length) (hg : m.get id = some (.cells (flat (encs l)) f v)) : fz1 m (.sl id 0 n 6 true cap) = (.lst (encs l), m.mark id (flat (encs l)) v) := by
  subst hn
  have := fz1_row (m := m) (id := id) (k := 6) (ag := true) (cap := cap) (ys := encs l) (v := v) (f := f) rfl hg (fun y hy => by rw [encs_map] at hy; obtain ⟨x, _, rfl⟩ := List.mem_map.1 hy; simp) (okAll_encs l)
  simpa using this
end Go.Proofs.YtnhcmcfgemoehaaGreat
