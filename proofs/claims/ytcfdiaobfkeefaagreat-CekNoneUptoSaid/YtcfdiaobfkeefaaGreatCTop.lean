import Derived.Test.YtcfdiaobfkeefaaGreatCBase
import Derived.WalkKit
import Derived.ProofKit
import Derived.OpenShut
import Derived.JoinedCond
/- From the walk to the row. -/
set_option linter.unusedSimpArgs false
set_option linter.unusedVariables false
set_option linter.unusedSectionVars false
namespace Go.Proofs.YtcfdiaobfkeefaaGreat
open Go.V
theorem own_knob : ownKnob Tryz.prog.godebug = none := by kernel_rfl
theorem laid_out : laidOutB Tryz.prog = true := by kernel_rfl
theorem cellsV : Tryz.prog.cellsOf 23 = 2 := by kernel_rfl
theorem cellsF : Tryz.prog.cellsOf 25 = 3 := by kernel_rfl
theorem cells3 : Tryz.prog.cellsOf 3 = 1 := by kernel_rfl
theorem cells2 : Tryz.prog.cellsOf 2 = 1 := by kernel_rfl
section
variable {H : Type} {en : TypeId × Value → H} {W : World}
set_option maxRecDepth 100000 in
theorem val_in {fuel : Nat} {cs : List Value} {d : DataW H} {ps : List MemPlace} (h : rd en Tryz.prog W fuel 23 cs = some (d, ps)) : ∃ a b : Int, cs = [.int .i64 a, .int .i64 b] := by
  cases fuel with
  | zero => cases h
  | succ fuel =>
    simp only [rd, DataW.trod, Tryz.underlying23, cellsV] at h
    split at h
    · rename_i hlen
      rw [Option.map_eq_some_iff] at h
      obtain ⟨xs, h1, h2⟩ := h
      obtain ⟨c0, c1, rfl⟩ : ∃ c0 c1, cs = [c0, c1] := by
        rcases cs with _ | ⟨c0, _ | ⟨c1, _ | ⟨c2, cs⟩⟩⟩ <;> simp at hlen
        exact ⟨_, _, rfl⟩
      simp only [List.mapM_cons, List.mapM_nil, Option.bind_eq_bind, Option.bind_eq_some_iff, Option.pure_def, Option.some.injEq, cells3, cells2, List.drop_zero, List.drop_succ_cons, List.take_succ_cons, List.take_zero] at h1
      obtain ⟨x0, q0, _, ⟨x1, q1, _, rfl, rfl⟩, rfl⟩ := h1
      obtain ⟨K, rK, _, _⟩ := rd_int Tryz.underlying3 (d := x0.1) (ps := x0.2) q0
      obtain ⟨N, rN, _, _⟩ := rd_int Tryz.underlying2 (d := x1.1) (ps := x1.2) q1
      cases rK; cases rN
      exact ⟨K, N, rfl⟩
    · cases h
set_option maxRecDepth 100000 in
theorem fault_in {fuel : Nat} {cs : List Value} {d : DataW H} {ps : List MemPlace} (h : rd en Tryz.prog W fuel 25 cs = some (d, ps)) : ∃ a b c : Int, cs = [.int .i64 a, .int .i64 b, .int .i64 c] := by
  cases fuel with
  | zero => cases h
  | succ fuel =>
    simp only [rd, DataW.trod, Tryz.underlying25, cellsF] at h
    split at h
    · rename_i hlen
      rw [Option.map_eq_some_iff] at h
      obtain ⟨xs, h1, h2⟩ := h
      obtain ⟨c0, c1, c2, rfl⟩ : ∃ c0 c1 c2, cs = [c0, c1, c2] := by
        rcases cs with _ | ⟨c0, _ | ⟨c1, _ | ⟨c2, _ | ⟨c3, cs⟩⟩⟩⟩ <;> simp at hlen
        exact ⟨_, _, _, rfl⟩
      simp only [List.mapM_cons, List.mapM_nil, Option.bind_eq_bind, Option.bind_eq_some_iff, Option.pure_def, Option.some.injEq, cells3, cells2, cellsV, List.drop_zero, List.drop_succ_cons, List.take_succ_cons, List.take_zero] at h1
      obtain ⟨x0, q0, _, ⟨x1, q1, _, rfl, rfl⟩, rfl⟩ := h1
      obtain ⟨K, rK, _, _⟩ := rd_int Tryz.underlying3 (d := x0.1) (ps := x0.2) q0
      obtain ⟨a, b, rN⟩ := val_in (d := x1.1) (ps := x1.2) q1
      cases rK; cases rN
      exact ⟨K, a, b, rfl⟩
    · cases h
set_option maxRecDepth 100000 in
theorem trod_val {v : Value} {d : DataW H} {p : List MemPlace} {base : Nat} (hv : Value.okWide Tryz.prog W .any base 23 v) (h : DataW.Trod en Tryz.prog W 0 (fun _ => true) true 23 v d p) (hb : Rows.uptoBulk d ≤ 1048576) : ∃ x : Int × Int, Rel (G.start W) (.agg [int x.1, int x.2]) v ∧ True := by
  obtain ⟨fuel, h⟩ := h
  obtain ⟨a, b, hc⟩ := val_in h
  obtain rfl : v = .agg #[.int .i64 a, .int .i64 b] := by
    cases v with
    | agg cs => simp only [Value.cells] at hc; rw [← hc]
    | _ => simp [Value.cells] at hc
  refine ⟨(a, b), ⟨[_, _], rfl, .cons rfl (.cons rfl .nil), ?_⟩, trivial⟩
  intro u hu
  simp only [List.mem_cons, List.not_mem_nil, or_false] at hu
  rcases hu with rfl | rfl <;> rfl
set_option maxRecDepth 100000 in
theorem trod_fault {v : Value} {d : DataW H} {p : List MemPlace} {base : Nat} (hv : Value.okWide Tryz.prog W .any base 25 v) (h : DataW.Trod en Tryz.prog W 0 (fun _ => true) true 25 v d p) (hb : Rows.uptoBulk d ≤ 1048576) : ∃ x : Int × Int × Int, Rel (G.start W) (.agg [int x.1, int x.2.1, int x.2.2]) v ∧ True := by
  obtain ⟨fuel, h⟩ := h
  obtain ⟨a, b, c, hc⟩ := fault_in h
  obtain rfl : v = .agg #[.int .i64 a, .int .i64 b, .int .i64 c] := by
    cases v with
    | agg cs => simp only [Value.cells] at hc; rw [← hc]
    | _ => simp [Value.cells] at hc
  refine ⟨(a, b, c), ⟨[_, _, _], rfl, .cons rfl (.cons rfl (.cons rfl .nil)), ?_⟩, trivial⟩
  intro u hu
  simp only [List.mem_cons, List.not_mem_nil, or_false] at hu
  rcases hu with rfl | rfl | rfl <;> rfl
end
end Go.Proofs.YtcfdiaobfkeefaaGreat
