import Derived.Test.YtnhcmcfgemoehaaGreatYBase
import Derived.ProofKit
import Derived.Test.YtnhcmcfgemoehaaGreatVK
/- The settings; the table of procedures. -/
set_option linter.unusedSimpArgs false
set_option linter.unusedVariables false
set_option linter.unusedSectionVars false
namespace Go.Proofs.YtnhcmcfgemoehaaGreat
set_option maxRecDepth 4000
open Go.V

theorem follows_mixed : Tryz.prog.follows .mixedOrders = true := by kernel_rfl
theorem cl24 : CloneAt Tryz.prog 62 := ⟨fun m => by kernel_rfl, fun m => ⟨1, false, by kernel_rfl⟩⟩
theorem cl38 : CloneAt Tryz.prog 110 := ⟨fun m => by kernel_rfl, fun m => ⟨2, true, by kernel_rfl⟩⟩
theorem cl39 : CloneAt Tryz.prog 111 := ⟨fun m => by kernel_rfl, fun m => ⟨1, false, by kernel_rfl⟩⟩
theorem mcl37 : ByHand Tryz.prog 109 mcloneH := told_mclone Tryz.func109 (by kernel_rfl) rfl (by kernel_rfl) (by kernel_rfl)

/-- Closed runs. -/
noncomputable def ck : Cfg := ⟨fun _ => true, fun _ => true, fun f => if f == 62 || f == 110 || f == 111 then some (cloneH Tryz.prog f) else if f == 109 then some mcloneH else none, fun _ => 0⟩
theorem told_ck (f : FuncId) (h : List AV → Mem → Option (AV × Mem)) (e : ck.hook f = some h) : ByHand Tryz.prog f h := by
  unfold ck at e
  dsimp only at e
  split at e
  · rename_i hc
    cases e
    have : f = 62 ∨ f = 110 ∨ f = 111 := by simpa [or_assoc] using hc
    rcases this with rfl | rfl | rfl
    · exact ⟨fun B W args m v m' e2 hv => cloneH_sound follows_mixed cl24 e2 hv, fun args m v m' e2 => cloneH_ver (W := default) e2⟩
    · exact ⟨fun B W args m v m' e2 hv => cloneH_sound follows_mixed cl38 e2 hv, fun args m v m' e2 => cloneH_ver (W := default) e2⟩
    · exact ⟨fun B W args m v m' e2 hv => cloneH_sound follows_mixed cl39 e2 hv, fun args m v m' e2 => cloneH_ver (W := default) e2⟩
  · split at e
    · rename_i hc
      have : f = 109 := by simpa using hc
      subst this
      cases e
      exact mcl37
    · cases e

/-- The functions that leave something in memory. -/
def leavesP : List Nat := [20, 37, 39, 32, 63, 42, 66, 76, 113, 118, 134]
noncomputable def cp : Cfg := ⟨fun _ => false, fun _ => false, fun f => if f == 62 || f == 110 || f == 111 then some (cloneP Tryz.prog f) else if f == 109 then some mcloneH else if f == 7 || f == 33 then some (roH (limH Tryz.prog ck f)) else none, fun f => if leavesP.contains f then 0 else 1⟩
theorem told_cp (f : FuncId) (h : List AV → Mem → Option (AV × Mem)) (e : cp.hook f = some h) : ByHand Tryz.prog f h := by
  unfold cp at e
  dsimp only at e
  split at e
  · rename_i hc
    cases e
    have : f = 62 ∨ f = 110 ∨ f = 111 := by simpa [or_assoc] using hc
    rcases this with rfl | rfl | rfl
    · exact ⟨fun B W args m v m' e2 hv => cloneP_sound follows_mixed cl24 e2 hv, fun args m v m' e2 => cloneP_ver (W := default) e2⟩
    · exact ⟨fun B W args m v m' e2 hv => cloneP_sound follows_mixed cl38 e2 hv, fun args m v m' e2 => cloneP_ver (W := default) e2⟩
    · exact ⟨fun B W args m v m' e2 hv => cloneP_sound follows_mixed cl39 e2 hv, fun args m v m' e2 => cloneP_ver (W := default) e2⟩
  · split at e
    · rename_i hc
      have : f = 109 := by simpa using hc
      subst this
      cases e
      exact mcl37
    · split at e
      · cases e; exact told_ro (told_lim follows_mixed told_ck f)
      · cases e
theorem hooks (B : Bs) (W : World) : Hooks Tryz.prog B W cp := hooks_of told_cp

/-- A closed run, as a run that only looks. -/
theorem ro_run {P : Program} {cfg c2 : Cfg} {n : Nat} {f : FuncId} {v : AV} {m : Mem} (hk : cfg.hook f = some (roH (limH P c2 f))) (h : (afn P c2 n (.func f) [] Mem.empty).map (·.1) = some v) (hv : v.out = true) : EH P cfg (.func f) [] m v m := by
  refine eh_hook hk ?_
  obtain ⟨⟨v', m'⟩, h1, h2⟩ := Option.map_eq_some_iff.1 h
  cases h2
  have h3 : limH P c2 f [] Mem.empty = some (v', m') := lim_eq (.of h1)
  unfold roH
  simp [fzvs, AV.bels, h3, hv]

/-- The procedures: a name, how many values at the least, at the most. -/
def rws : List (List UInt8 × Int × Int) :=
  [([43], 0, -1),
   ([45], 1, -1),
   ([42], 0, -1),
   ([113, 117, 111, 116, 105, 101, 110, 116], 2, 2),
   ([114, 101, 109, 97, 105, 110, 100, 101, 114], 2, 2),
   ([109, 111, 100, 117, 108, 111], 2, 2),
   ([61], 1, -1),
   ([60], 1, -1),
   ([62], 1, -1),
   ([60, 61], 1, -1),
   ([62, 61], 1, -1),
   ([122, 101, 114, 111, 63], 1, 1),
   ([110, 111, 116], 1, 1),
   ([101, 113, 63], 2, 2),
   ([101, 113, 117, 97, 108, 63], 2, 2),
   ([99, 111, 110, 115], 2, 2),
   ([99, 97, 114], 1, 1),
   ([99, 100, 114], 1, 1),
   ([115, 101, 116, 45, 99, 97, 114, 33], 2, 2),
   ([115, 101, 116, 45, 99, 100, 114, 33], 2, 2),
   ([112, 97, 105, 114, 63], 1, 1),
   ([110, 117, 108, 108, 63], 1, 1),
   ([108, 105, 115, 116], 0, -1),
   ([108, 101, 110, 103, 116, 104], 1, 1),
   ([97, 112, 112, 101, 110, 100], 0, -1),
   ([114, 101, 118, 101, 114, 115, 101], 1, 1),
   ([108, 105, 115, 116, 45, 114, 101, 102], 2, 2),
   ([118, 101, 99, 116, 111, 114], 0, -1),
   ([109, 97, 107, 101, 45, 118, 101, 99, 116, 111, 114], 1, 2),
   ([118, 101, 99, 116, 111, 114, 45, 114, 101, 102], 2, 2),
   ([118, 101, 99, 116, 111, 114, 45, 115, 101, 116, 33], 3, 3),
   ([118, 101, 99, 116, 111, 114, 45, 108, 101, 110, 103, 116, 104], 1, 1),
   ([115, 116, 114, 105, 110, 103, 45, 108, 101, 110, 103, 116, 104], 1, 1),
   ([115, 116, 114, 105, 110, 103, 45, 114, 101, 102], 2, 2),
   ([115, 116, 114, 105, 110, 103, 45, 97, 112, 112, 101, 110, 100], 0, -1),
   ([115, 117, 98, 115, 116, 114, 105, 110, 103], 3, 3),
   ([115, 116, 114, 105, 110, 103, 61, 63], 2, 2),
   ([115, 121, 109, 98, 111, 108, 45, 62, 115, 116, 114, 105, 110, 103], 1, 1),
   ([115, 116, 114, 105, 110, 103, 45, 62, 115, 121, 109, 98, 111, 108], 1, 1),
   ([110, 117, 109, 98, 101, 114, 45, 62, 115, 116, 114, 105, 110, 103], 1, 1),
   ([115, 116, 114, 105, 110, 103, 45, 62, 110, 117, 109, 98, 101, 114], 1, 1),
   ([99, 104, 97, 114, 45, 62, 105, 110, 116, 101, 103, 101, 114], 1, 1),
   ([105, 110, 116, 101, 103, 101, 114, 45, 62, 99, 104, 97, 114], 1, 1),
   ([115, 121, 109, 98, 111, 108, 63], 1, 1),
   ([115, 116, 114, 105, 110, 103, 63], 1, 1),
   ([110, 117, 109, 98, 101, 114, 63], 1, 1),
   ([98, 111, 111, 108, 101, 97, 110, 63], 1, 1),
   ([99, 104, 97, 114, 63], 1, 1),
   ([112, 114, 111, 99, 101, 100, 117, 114, 101, 63], 1, 1),
   ([118, 101, 99, 116, 111, 114, 63], 1, 1),
   ([97, 98, 115], 1, 1),
   ([109, 105, 110], 1, -1),
   ([109, 97, 120], 1, -1),
   ([101, 120, 112, 116], 2, 2),
   ([103, 99, 100], 0, -1),
   ([], 0, 0),
   ([], 0, 0),
   ([], 0, 0),
   ([], 0, 0),
   ([], 0, 0),
   ([], 0, 0),
   ([], 0, 0),
   ([], 0, 0),
   ([], 0, 0),
   ([97, 112, 112, 108, 121], 2, 2),
   ([99, 97, 108, 108, 47, 49, 99, 99], 1, 1),
   ([101, 114, 114, 111, 114], 1, -1),
   ([115, 112, 97, 119, 110], 1, 1),
   ([121, 105, 101, 108, 100], 0, 0),
   ([106, 111, 105, 110], 1, 1),
   ([115, 101, 108, 102], 0, 0),
   ([109, 97, 107, 101, 45, 99, 104, 97, 110, 110, 101, 108], 1, 1),
   ([115, 101, 110, 100], 2, 2),
   ([114, 101, 99, 101, 105, 118, 101], 1, 1),
   ([99, 108, 111, 115, 101], 1, 1),
   ([109, 97, 107, 101, 45, 109, 117, 116, 101, 120], 0, 0),
   ([108, 111, 99, 107], 1, 1),
   ([117, 110, 108, 111, 99, 107], 1, 1),
   ([109, 97, 107, 101, 45, 99, 111, 110, 100, 105, 116, 105, 111, 110], 0, 0),
   ([119, 97, 105, 116], 2, 2),
   ([115, 105, 103, 110, 97, 108], 1, 1),
   ([98, 114, 111, 97, 100, 99, 97, 115, 116], 1, 1),
   ([109, 97, 107, 101, 45, 101, 110, 103, 105, 110, 101], 1, 1),
   ([114, 117, 110, 45, 101, 110, 103, 105, 110, 101], 4, 4),
   ([100, 105, 115, 112, 108, 97, 121], 1, 1)]
def rowC (r : List UInt8 × Int × Int) : List AV := [.sc (.string ⟨⟨r.1⟩⟩), int r.2.1, int r.2.2]
def tableA : AV := .agg (rws.flatMap rowC)
theorem rws_length : rws.length = 85 := rfl
theorem rows_length (l : List (List UInt8 × Int × Int)) : (l.flatMap rowC).length = 3 * l.length := by
  induction l with
  | nil => rfl
  | cons r l ih => rw [List.flatMap_cons, List.length_append, ih, List.length_cons]; show 3 + _ = _; omega
theorem rows_at : ∀ (l : List (List UInt8 × Int × Int)) (i : Nat) (r : List UInt8 × Int × Int), l[i]? = some r → ((l.flatMap rowC).drop (i * 3)).take 3 = rowC r
  | [], i, r, h => by simp at h
  | q :: l, 0, r, h => by
    simp at h; subst h
    rfl
  | q :: l, i + 1, r, h => by
    have := rows_at l i r (by simpa using h)
    rw [List.flatMap_cons, show (i + 1) * 3 = (rowC q).length + i * 3 by show _ = 3 + _; omega, List.drop_append, List.drop_eq_nil_of_le (by omega), Nat.add_sub_cancel_left]
    exact this

theorem run22 : (afn Tryz.prog ck 3 (.func 33) [] Mem.empty).map (·.1) = some tableA := by kernel_rfl
theorem table_out : tableA.out = true := by kernel_rfl
theorem g22 (m : Mem) : EH Tryz.prog cp (.func 33) [] m tableA m := ro_run rfl run22 table_out
theorem run6 : (afn Tryz.prog ck 40 (.func 7) [] Mem.empty).map (·.1) = some (.sc (.bool true)) := by kernel_rfl
theorem g6 (m : Mem) : EH Tryz.prog cp (.func 7) [] m (.sc (.bool true)) m := ro_run rfl run6 rfl
theorem table_at {i : Nat} {r : List UInt8 × Int × Int} (h : rws[i]? = some r) : aindex Tryz.prog 87 tableA (int i) = some (.agg (rowC r)) := by
  have hi : i < 85 := by
    have := (List.getElem?_eq_some_iff.1 h).1
    rwa [rws_length] at this
  have hl : (rws.flatMap rowC).length = 255 := by rw [rows_length, rws_length]
  unfold aindex tableA
  have h0 : ¬ ((i : Int) < 0) := by omega
  simp only [h0, if_false, tarr87, tsize81, Int.toNat_natCast, hi, if_true]
  rw [partOf_ag tagg81 tsize81, if_pos (by omega), rows_at rws i r h]
attribute [irreducible] rws
end Go.Proofs.YtnhcmcfgemoehaaGreat
