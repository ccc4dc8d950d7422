import Derived.Test.YtnhcmcfgemoehaaGreatYCons
/- Putting together. -/
set_option linter.unusedSimpArgs false
set_option linter.unusedVariables false
set_option linter.unusedSectionVars false
namespace Go.Proofs.YtnhcmcfgemoehaaGreat
set_option maxRecDepth 4000
open Go.V
attribute [local simp] Nat.add_assoc

theorem goH_fz {P : Program} {cfg : Cfg} {N : Nat} {Q : Ex → Sl → Mem → Prop} {f : FuncId} {args args0 : List AV} {r : AV} {d : Option Tmp} {k : List It} {s : Sl} {m : Mem} (h : Gives P cfg f args r) (hz : (fzvs m args0).1 = args) (hk : goP P cfg N Q (aput N s d r) k (fzvs m args0).2) : goH P cfg N Q (.func f) args0 d k s m := by
  rw [h.goF (m1 := (fzvs m args0).2) (by rw [← hz])]; exact hk

theorem gives_of {P : Program} {cfg : Cfg} {f : FuncId} {fn : Func} {c : Code} {args : List AV} {r : AV} (hf : P.funcs[f]? = some fn) (hb : fn.body = some c) (hk : cfg.hook f = none) (hka : cfg.keepArgs f = false) (hz : ∀ m, fzvs m args = (args, m)) (h : ∀ m, EH P cfg (.func f) args m r m) : Gives P cfg f args r := by
  intro m0 args0 m hm
  obtain ⟨n, hn⟩ := (h m).one
  have hlen : args.length = args0.length := by rw [← fzvs_length args0 m0, hm]
  refine .of (n := n) ?_
  cases n with
  | zero => cases hn
  | succ n =>
    simp only [afn, hk, abody, hf, hb, hka, Bool.false_eq_true, if_false, hm, hz, hlen] at hn ⊢
    exact hn
mutual
theorem wk_ok : ∀ (d : Dat) (deep p q : Int), (wk d deep p q).1 = 0 → (wk d deep p q).2.1 = p + d.size ∧ p + d.size ≤ 4096
  | .mk K N S M L T, deep, p, q, h => by
    rw [wk] at h ⊢
    split at h
    · simp at h
    rw [if_neg ‹_›]
    split at h
    · simp at h
    rw [if_neg ‹_›]
    split at h
    · simp at h
    rw [if_neg ‹_›]
    obtain ⟨h1, h2⟩ := nxt_zero h
    have a := wks_ok L _ _ _ h1
    have b := wks_ok T _ _ _ h2
    unfold nxt
    rw [if_pos h1, Dat.size]
    dsimp only
    omega
theorem wks_ok : ∀ (l : List Dat) (deep p q : Int), (wks l deep p q).1 = 0 → (wks l deep p q).2.1 = p + sizes l ∧ (sizes l = 0 ∨ p + sizes l ≤ 4096)
  | [], deep, p, q, h => by simp [wks, sizes]
  | d :: l, deep, p, q, h => by
    rw [wks] at h ⊢
    obtain ⟨h1, h2⟩ := nxt_zero h
    have a := wk_ok d _ _ _ h1
    have b := wks_ok l _ _ _ h2
    unfold nxt
    rw [if_pos h1, sizes]
    dsimp only
    omega
end
theorem length_le_sizes : ∀ l : List Dat, l.length ≤ sizes l
  | [] => by simp [sizes]
  | .mk K N S M L T :: l => by have := length_le_sizes l; simp [sizes, Dat.size]; omega
theorem chk_size {d : Dat} (h : chk d = 0) : d.size ≤ 4096 := by have := (wk_ok d 1 0 0 h).2; omega
theorem chk_len {K N : Int} {S : List UInt8} {M : List Int} {L T : List Dat} (h : chk (.mk K N S M L T) = 0) : L.length ≤ 4096 ∧ T.length ≤ 4096 := by
  have a := chk_size h
  have b := length_le_sizes L
  have c := length_le_sizes T
  rw [Dat.size] at a
  omega
theorem fits_mk {K : Int} {L T : List Dat} (hL : fitss L) (hT : fitss T) (h1 : L.length < 2 ^ 21) (h2 : T.length < 2 ^ 21) : (Dat.mk K 0 [] [] L T).fits := by
  rw [Dat.fits]; exact ⟨⟨by omega, by simp, by simp, h1, h2⟩, hL, hT⟩

/-- What is put together, before it is looked at. -/
def raw (a d : Dat) : Dat := match d with
  | .mk K N S M L T => if K = 6 ∨ K = 7 then .mk K 0 [] [] (a :: L) T else .mk 7 0 [] [] [a] [.mk K N S M L T]
def cns (a d : Dat) : Dat × Int := if chk a = 0 then if chk d = 0 then if chk (raw a d) = 0 then (raw a d, 0) else (.zero, chk (raw a d)) else (.zero, chk d) else (.zero, chk a)
theorem raw_fits {a d : Dat} (ha : a.fits) (hd : d.fits) (h : chk d = 0) : (raw a d).fits := by
  obtain ⟨K, N, S, M, L, T⟩ := d
  have l := chk_len h
  have h2 := hd
  rw [Dat.fits] at h2
  unfold raw
  dsimp only
  split
  · exact fits_mk ⟨ha, h2.2.1⟩ h2.2.2 (by simp; omega) (by omega)
  · exact fits_mk ⟨ha, trivial⟩ ⟨hd, trivial⟩ (by simp) (by simp)
end Go.Proofs.YtnhcmcfgemoehaaGreat
