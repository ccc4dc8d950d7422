import Derived.Test.YtipmoeclkamciaaYRead
import Derived.WalkKit
import Derived.ProofKit
import Derived.OpenShut
import Derived.JoinedCond
/- From the walks to the rows. -/
set_option linter.unusedSimpArgs false
set_option linter.unusedVariables false
set_option linter.unusedSectionVars false
namespace Go.Proofs.Ytipmoeclkamciaa
open Go.V

theorem cl45 : CloneAt Try.prog 45 := ⟨fun m => by kernel_rfl, fun m => ⟨6, true, by kernel_rfl⟩⟩
theorem cl48 : CloneAt Try.prog 48 := ⟨fun m => by kernel_rfl, fun m => ⟨1, false, by kernel_rfl⟩⟩
theorem follows_mixed : Try.prog.follows .mixedOrders = true := by kernel_rfl
theorem hooks (B : Nat) (W : World) : Hooks Try.prog B W cf := by
  constructor
  · intro f h e args m v m' e2 hv
    have : f = 45 ∨ f = 48 := by
      unfold cf at e
      dsimp only at e
      split at e
      · rename_i hc; simpa using hc
      · cases e
    rcases this with rfl | rfl
    · have : h = cloneP Try.prog 45 := by cases e; rfl
      subst this
      exact cloneP_sound follows_mixed cl45 e2 hv
    · have : h = cloneP Try.prog 48 := by cases e; rfl
      subst this
      exact cloneP_sound follows_mixed cl48 e2 hv
  · intro f h e args m v m' e2
    have : f = 45 ∨ f = 48 := by
      unfold cf at e
      dsimp only at e
      split at e
      · rename_i hc; simpa using hc
      · cases e
    rcases this with rfl | rfl
    · have : h = cloneP Try.prog 45 := by cases e; rfl
      subst this
      exact cloneP_ver W e2
    · have : h = cloneP Try.prog 48 := by cases e; rfl
      subst this
      exact cloneP_ver W e2
theorem own_knob : ownKnob Try.prog.godebug = none := by kernel_rfl
theorem laid_out : laidOutB Try.prog = true := by kernel_rfl
theorem readable25 : Try.prog.readableRec 25 = true ∧ 25 < Try.prog.types.size := ⟨by kernel_rfl, of_decide_eq_true (by kernel_rfl)⟩
theorem readable23 : Try.prog.readableRec 23 = true ∧ 23 < Try.prog.types.size := ⟨by kernel_rfl, of_decide_eq_true (by kernel_rfl)⟩
theorem readable9 : Try.prog.readableRec 9 = true ∧ 9 < Try.prog.types.size := ⟨by kernel_rfl, of_decide_eq_true (by kernel_rfl)⟩
theorem readable5 : Try.prog.readableRec 5 = true ∧ 5 < Try.prog.types.size := ⟨by kernel_rfl, of_decide_eq_true (by kernel_rfl)⟩

section
variable {H : Type} {en : TypeId × Value → H} {W : World}
theorem trod_datum {v : Value} {d : DataW H} {p : List MemPlace} (h : DataW.Trod en Try.prog W 0 (fun _ => true) true 25 v d p) (hb : Rows.uptoBulk d ≤ 1048576) : ∃ x : Dat, Rel (G.start W) (enc x) v ∧ x.fits := by
  obtain ⟨fuel, h⟩ := h
  have hv : v = .agg v.cells := by
    have hl : v.cells.toList.length = 6 := by
      cases fuel with
      | zero => cases h
      | succ fuel =>
        simp only [DataW.trod, Try.underlying25, cells25] at h
        split at h
        · assumption
        · cases h
    cases v <;> first | rfl | (simp [Value.cells] at hl)
  obtain ⟨x, h1, h2⟩ := datum_in fuel _ d p h hb
  refine ⟨x, ?_, h2⟩
  rw [hv]
  simpa using h1
theorem trod_dats {v : Value} {d : DataW H} {p : List MemPlace} {base : Nat} (hv : Value.okWide Try.prog W .any base 23 v) (h : DataW.Trod en Try.prog W 0 (fun _ => true) true 23 v d p) (hb : Rows.uptoBulk d ≤ 1048576) : ∃ L : List Dat, Rel (G.start W) (.lst (encs L)) v ∧ fitss L ∧ L.length < 2 ^ 21 := by
  obtain ⟨fuel, h⟩ := h
  have hv : v.cells.toList = [v] := by
    cases v with
    | agg cs => simp [Value.okWide, Cell.okWide, Cell.ok, Try.underlying23] at hv
    | _ => rfl
  rw [hv] at h
  exact dats_in h hb
end
end Go.Proofs.Ytipmoeclkamciaa
