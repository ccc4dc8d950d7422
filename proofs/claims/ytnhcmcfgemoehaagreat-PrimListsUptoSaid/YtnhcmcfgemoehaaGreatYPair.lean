import Derived.Test.YtnhcmcfgemoehaaGreatYSame
import Derived.Test.YtnhcmcfgemoehaaGreatYOwn
import Derived.Test.YtnhcmcfgemoehaaGreatYWalk2
/- The pairs of data. -/
set_option linter.unusedSimpArgs false
set_option linter.unusedVariables false
set_option linter.unusedSectionVars false
namespace Go.Proofs.YtnhcmcfgemoehaaGreat
set_option maxRecDepth 4000
open Go.V
attribute [local simp] Nat.add_assoc

/-- The zero datum. -/
def Dat.zero : Dat := .mk 0 0 [] [] [] []
theorem enc_zero : enc .zero = .agg [int 0, int 0, .sc (.string ⟨⟨[]⟩⟩), .lst [], .lst [], .lst []] := by simp [Dat.zero, enc, encs]
@[simp] theorem fzr_enc (m : Mem) (d : Dat) : fzr m (enc d) = (enc d, m) := by
  have : fzr m (enc d) = fzv m (enc d) := by cases d; simp only [enc]; exact fzr_agg
  rw [this, fzv_enc]
@[simp] theorem fzs_zero (m : Mem) : fzs m zeroCells = ((enc .zero).cells, m) := by simp [zeroCells, fzs, enc_zero]
@[simp] theorem zero_cells_length : (enc Dat.zero).cells.length = 6 := by simp

def sam (a b : Dat) : Bool := decide (chk a = 0) && (decide (chk b = 0) && eqb a b)
def cln (d : Dat) : Dat := if chk d = 0 then d else .zero
def pln (d : Dat) : Dat := if chk d = 0 then d.plain else .zero
def lis (l : List Dat) : Dat := .mk 6 0 [] [] l []
theorem enc_lis (l : List Dat) : enc (lis l) = .agg [int 6, int 0, .sc (.string ⟨⟨[]⟩⟩), .lst [], .lst (encs l), .lst []] := by simp [lis, enc, encs]
theorem aapp_in {T : TypeId} {k id len v : Nat} {ag ag' : Bool} {ys ys' cs : List AV} {m m' : Mem} (h : ElemOf Tryz.prog T k ag) (hy : ys ≠ []) (ho : okAll k ys = true) (hf : fzx Tryz.prog T m ys = (ys', m')) (hg : m'.get id = some (.cells cs false v)) (hc : (len + ys.length) * k ≤ cs.length) (hb : len + ys.length ≤ 2 ^ 26) :
    aappend Tryz.prog T (.sl id 0 len k ag' none) none (some ys) m = some (.sl id 0 (len + ys.length) k ag none, m'.set id (splice cs (len * k) (flat ys'))) := by
  obtain ⟨⟨e, b, z, h1, h2, h3, h4, h5, h6, h7, _⟩, hk⟩ := h
  have hlen : ys'.length = ys.length := by rw [← fzx_length Tryz.prog T ys m, hf]
  have hm : (len + ys.length) * b ≤ 2 ^ 26 * 2 ^ 16 := Nat.mul_le_mul hb h7
  unfold aappend
  simp only [h1, h2, h3, h4, h5]
  rw [if_pos ⟨hk, h6, ho⟩]
  cases ys with
  | nil => exact absurd rfl hy
  | cons y ys =>
    simp only [hf, hlen, hg, Nat.zero_add]
    rw [if_pos ⟨trivial, by omega, by omega, by rw [Nat.add_mul] at hc; omega⟩, if_neg (by simp [full]), if_pos hc]
    rfl

theorem flat_zeros (n : Nat) : (flat (List.replicate n (enc .zero))).length = n * 6 := by
  induction n with
  | zero => simp [flat]
  | succ n ih => rw [List.replicate_succ, flat_cons, List.length_append, ih]; simp; omega

end Go.Proofs.YtnhcmcfgemoehaaGreat
