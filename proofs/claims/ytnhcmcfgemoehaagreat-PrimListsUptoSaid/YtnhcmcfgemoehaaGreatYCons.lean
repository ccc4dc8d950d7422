import Derived.Test.YtnhcmcfgemoehaaGreatYPair
/- Putting together, and taking apart. -/
set_option linter.unusedSimpArgs false
set_option linter.unusedVariables false
set_option linter.unusedSectionVars false
namespace Go.Proofs.YtnhcmcfgemoehaaGreat
set_option maxRecDepth 4000
open Go.V
attribute [local simp] Nat.add_assoc

theorem nxt_zero {r : Int × Int × Int} {f : Int → Int → Int × Int × Int} (h : (nxt r f).1 = 0) : r.1 = 0 ∧ (f r.2.1 r.2.2).1 = 0 := by
  unfold nxt at h
  split at h
  · exact ⟨‹_›, h⟩
  · exact absurd h ‹_›
theorem chk_alone {d : Dat} (h : chk d = 0) : alone d = true := by
  obtain ⟨K, N, S, M, L, T⟩ := d
  unfold chk at h
  rw [wk] at h
  split at h
  · simp at h
  split at h
  · simp at h
  split at h
  · simp at h
  · rename_i ha; simpa using ha
theorem alone_dot {N : Int} {S : List UInt8} {M : List Int} {L T : List Dat} (h : alone (.mk 7 N S M L T) = true) : (∃ l L', L = l :: L') ∧ ∃ t, T = [t] := by
  cases L <;> rcases T with _ | ⟨t, _ | ⟨t2, r⟩⟩ <;> simp [alone] at h ⊢
theorem alone_list {N : Int} {S : List UInt8} {M : List Int} {L T : List Dat} (h : alone (.mk 6 N S M L T) = true) : T = [] := by
  cases T <;> simp [alone] at h ⊢

/-- The halves of a pair, and an error. -/
def hlv : Dat → Dat × Dat × Int
  | .mk K N S M L T =>
    if chk (.mk K N S M L T) = 0 then
      if K = 6 ∨ K = 7 then
        match L with
        | [] => (.zero, .zero, 6)
        | l :: r => if K = 7 ∧ r = [] then (l, T.headD .zero, 0) else (l, .mk K 0 [] [] r T, 0)
      else (.zero, .zero, 6)
    else (.zero, .zero, chk (.mk K N S M L T))
theorem enc_mk0 {K : Int} {L T : List Dat} : AV.agg [int K, int 0, .sc (.string ⟨⟨[]⟩⟩), .lst [], .lst (encs L), .lst (encs T)] = enc (.mk K 0 [] [] L T) := by simp [enc]
end Go.Proofs.YtnhcmcfgemoehaaGreat
