import Derived.Test.YtpagdpaiienjcaaGreatDoorYSame
import Derived.Test.YtpagdpaiienjcaaGreatDoorYOwn
import Derived.Test.YtpagdpaiienjcaaGreatDoorYWalk2
/- The pairs of data. -/
set_option linter.unusedSimpArgs false
set_option linter.unusedVariables false
set_option linter.unusedSectionVars false
namespace Go.Proofs.YtpagdpaiienjcaaGreatDoor
set_option maxRecDepth 4000
open Go.V
attribute [local simp] Nat.add_assoc

/-- The zero datum. -/
def Dat.zero : Dat := .mk 0 0 [] [] [] []
theorem enc_zero : enc .zero = .agg [int 0, int 0, .sc (.string ⟨⟨[]⟩⟩), .lst [], .lst [], .lst []] := by simp [Dat.zero, enc, encs]
@[simp] theorem fzr_enc (m : Mem) (d : Dat) : fzr m (enc d) = (enc d, m) := by
  have : fzr m (enc d) = fzv m (enc d) := by cases d; simp only [enc]; exact fzr_agg
  rw [this, fzv_enc]
@[simp] theorem fzs_zero (m : Mem) : fzs m zeroCells = ((enc .zero).cells, m) := by simp [zeroCells, fzs, enc_zero]
@[simp] theorem zero_cells_length : (enc Dat.zero).cells.length = 6 := by simp

def sam (a b : Dat) : Bool := decide (chk a = 0) && (decide (chk b = 0) && eqb a b)
theorem g31 (a b : Dat) (ha : a.fits) (hb : b.fits) : Gives Tryz.prog cf 160 [enc a, enc b] (.sc (.bool (sam a b))) := by
  refine gives_run Tryz.func160 rfl rfl rfl rfl (by simp) (by simp [Tryz.f160]) (by simp [Tryz.f160]) fun m => ?_
  simp +contextual [Tryz.f160, show cf.keepRes 160 = false from rfl, (g14 a ha).go, (g14 b hb).go, (g54 a b ha hb).go, goB_imp, goW_imp, sam]
def cln (d : Dat) : Dat := if chk d = 0 then d else .zero
theorem g33 (a : Dat) (ha : a.fits) : Gives Tryz.prog cf 20 [enc a] (enc (cln a)) := by
  refine gives_run Tryz.func20 rfl rfl rfl rfl (by simp) (by simp [Tryz.f20]) (by simp [Tryz.f20]) fun m => ?_
  simp +contextual [Tryz.f20, show cf.keepRes 20 = false from rfl, (g14 a ha).go, (g47 a ha _).go, goB_imp, cln, abuild, placesOf, fillAt]
def pln (d : Dat) : Dat := if chk d = 0 then d.plain else .zero
theorem g36 (a : Dat) (ha : a.fits) : Gives Tryz.prog cf 82 [enc a] (enc (pln a)) := by
  refine gives_run Tryz.func82 rfl rfl rfl rfl (by simp) (by simp [Tryz.f82]) (by simp [Tryz.f82]) fun m => ?_
  simp +contextual [Tryz.f82, show cf.keepRes 82 = false from rfl, (g14 a ha).go, (g47p a ha _).go, goB_imp, pln, abuild, placesOf, fillAt]
def lis (l : List Dat) : Dat := .mk 6 0 [] [] l []
theorem enc_lis (l : List Dat) : enc (lis l) = .agg [int 6, int 0, .sc (.string ⟨⟨[]⟩⟩), .lst [], .lst (encs l), .lst []] := by simp [lis, enc, encs]
/-- slices.Grow from nil. -/
theorem g61 (N : Nat) (hN : N < 2 ^ 22) (m : Mem) : EH Tryz.prog cf (.func 111) [.emp 0, int N] m (if N = 0 then .emp 0 else .sl m.next 0 0 6 true none) (if N = 0 then m else m.new (flat (List.replicate N (enc .zero))) false) := by
  refine eh_of (wph_go Tryz.func111 rfl rfl (by simp [Tryz.f111]) (by simp [Tryz.f111]) fun Q hQ => ?_)
  simp only [Tryz.f111, show cf.keepRes 111 = true from rfl, show cf.keepArgs 111 = true from rfl] at hQ ⊢
  have w0 : IntKind.i64.wrap (N : Int) = N := IntWalk.i64_in _ (by omega)
  have n0 : ¬ ((N : Int) < 0) := by omega
  have o0 : obnd (some (AV.sc (.int .i64 0))) = some (some 0) := by simp [obnd]
  have w1 : IntKind.i64.wrap 0 = 0 := by decide
  simp [n0, w0, w1]
  by_cases hz : N = 0
  · subst hz
    simp
    exact hQ _ _ _ ⟨.inr rfl, _, rfl, by simp⟩
  · have hp : (0 : Int) < N := by omega
    have e1 := aslice_emp (P := Tryz.prog) (T := 23) (b := 0) (lo := none) Tryz.underlying23 tsize25 obnd_none o0 rfl rfl (by omega)
    have hok : okAll 6 (List.replicate N (AV.agg zeroCells)) = true := by simp [okAll]
    have hfz : ∀ n, fzvs m (List.replicate n (AV.agg zeroCells)) = (List.replicate n (enc .zero), m) := by
      intro n
      induction n with
      | zero => rfl
      | succ n ih => simp [List.replicate_succ, fzvs, ih]
    have e2 := aapp_emp (m := m) (n := 0) (by omega) el23 (ys := List.replicate N (AV.agg zeroCells)) (by simp [hz]) hok (hfz N) (by simp; omega)
    simp only [List.length_replicate] at e2
    have e3 : aslice Tryz.prog 23 (.sl m.next 0 N 6 true none) none (some (int 0)) none = some (.sl m.next 0 0 6 true none) := aslice_sl (c := 0) Tryz.underlying23 tsize25 obnd_none o0 (Nat.le_refl 0) (Nat.zero_le N)
    have hp' : 0 < N := by omega
    simp [hp', e1, abuiltin_appn (P := Tryz.prog) (T := 23) (u := 3) (R := 23) (s := .emp 0) (m := m) (n := N) Tryz.underlying3 (by omega), aappend_zeros telem23 tzero25, e2, e3]
    exact hQ _ _ _ ⟨.inr rfl, _, rfl, by simp [hz]⟩

theorem aapp_in {T : TypeId} {k id len v : Nat} {ag ag' : Bool} {ys ys' cs : List AV} {m m' : Mem} (h : ElemOf Tryz.prog T k ag) (hy : ys ≠ []) (ho : okAll k ys = true) (hf : fzx Tryz.prog T m ys = (ys', m')) (hg : m'.get id = some (.cells cs false v)) (hc : (len + ys.length) * k ≤ cs.length) (hb : len + ys.length ≤ 2 ^ 26) :
    aappend Tryz.prog T (.sl id 0 len k ag' none) none (some ys) m = some (.sl id 0 (len + ys.length) k ag none, m'.set id (splice cs (len * k) (flat ys'))) := by
  obtain ⟨⟨e, b, z, h1, h2, h3, h4, h5, h6, h7, _⟩, hk⟩ := h
  have hlen : ys'.length = ys.length := by rw [← fzx_length Tryz.prog T ys m, hf]
  have hm : (len + ys.length) * b ≤ 2 ^ 26 * 2 ^ 16 := Nat.mul_le_mul hb h7
  unfold aappend
  simp only [h1, h2, h3, h4, h5]
  rw [if_pos ⟨hk, h6, ho⟩]
  cases ys with
  | nil => exact absurd rfl hy
  | cons y ys =>
    simp only [hf, hlen, hg, Nat.zero_add]
    rw [if_pos ⟨trivial, by omega, by omega, by rw [Nat.add_mul] at hc; omega⟩, if_neg (by simp [full]), if_pos hc]
    rfl

theorem flat_zeros (n : Nat) : (flat (List.replicate n (enc .zero))).length = n * 6 := by
  induction n with
  | zero => simp [flat]
  | succ n ih => rw [List.replicate_succ, flat_cons, List.length_append, ih]; simp; omega

/-- slices.Concat of one and a list. -/
theorem g46 (a : Dat) (L : List Dat) (hL : L.length < 2 ^ 21) : Gives Tryz.prog cf 74 [.lst [.lst [enc a], .lst (encs L)]] (.lst (encs (a :: L))) := by
  refine gives_go Tryz.func74 rfl rfl rfl (by simp [Tryz.f74]) (by simp [Tryz.f74]) (fun m Q hQ => ?_) rfl (by intro n; simp [AV.bel])
  simp only [Tryz.f74, show cf.keepRes 74 = false from rfl] at hQ ⊢
  simp
  let ls : List AV := [.lst [enc a], .lst (encs L)]
  refine go_count 11 2 (fun i s m' => m = m' ∧ s.at 3 = int ((if i = 0 then 0 else if i = 1 then 1 else L.length + 1 : Nat) : Int)) (by simp) (by omega) ⟨rfl, by simp⟩ ?_
  rintro i s _ hi e11 ⟨rfl, e3⟩ hs hw Q' hn he
  have e9 : s.at 9 = .lst ls := (hs 9 (by kernel_rfl)).trans (by simp [ls])
  have e10 : s.at 10 = int 2 := (hs 10 (by kernel_rfl)).trans (by simp)
  have e0 : s.at 0 = .lst ls := (hs 0 (by kernel_rfl)).trans (by simp [ls])
  rcases (by omega : i = 0 ∨ i = 1 ∨ i = 2) with rfl | rfl | rfl
  · have x0 : ls[0]? = some (.lst [enc a]) := rfl
    have w1 : IntKind.i64.wrap 1 = 1 := by decide
    simp at e11 e3
    clear hs
    simp [e11, e10, e9, ls, aindexAddr_lst0 Tryz.underlying120 tsize23, e3, w1]
    exact hn _ _ (by omega) (by simp) ⟨rfl, by simp⟩
  · have x1 : ls[1]? = some (.lst (encs L)) := rfl
    have w1 : IntKind.i64.wrap (1 + (L.length : Int)) = 1 + (L.length : Int) := IntWalk.i64_in _ (by omega)
    have w2 : IntKind.i64.wrap 2 = 2 := by decide
    have ix := aindexAddr_lst (P := Tryz.prog) (T := 120) (q := .i64) Tryz.underlying120 tsize23 x1 (by simp)
    have nn : ¬ (1 + (L.length : Int) < 0) := by omega
    simp at e11 e3 ix
    clear hs
    simp [e11, e10, e9, ix, e3, w1, w2, nn]
    exact hn _ _ (by omega) (by simp) ⟨rfl, by simp; omega⟩
  · simp at e11 e3
    have w1 : IntKind.i64.wrap ((L.length : Int) + 1) = (L.length : Int) + 1 := IntWalk.i64_in _ (by omega)
    clear hs
    simp [e11, e10]
    refine he _ _ _ (by simp) ?_
    have hG := g61 (L.length + 1) (by omega) m
    simp at hG
    simp [e3, hG.go, e0, ls]
    refine go_count 27 2 (fun i s m' => s.at 6 = .sl m.next 0 (if i = 0 then 0 else if i = 1 then 1 else L.length + 1) 6 true none ∧ Kp m m' ∧ ∃ v, m'.get m.next = some (.cells (if i = 0 then flat (List.replicate (L.length + 1) (enc .zero)) else if i = 1 then flat (enc a :: List.replicate L.length (enc .zero)) else flat (enc a :: encs L)) false v)) (by simp) (by omega) ⟨by simp, by simp, by simp⟩ ?_
    rintro i s m' hi e27 ⟨e6, hkp, ver, hg⟩ hs hw Q' hn he
    have e25 : s.at 25 = .lst ls := (hs 25 (by kernel_rfl)).trans (by simp [ls])
    have e26 : s.at 26 = int 2 := (hs 26 (by kernel_rfl)).trans (by simp)
    clear hs
    rcases (by omega : i = 0 ∨ i = 1 ∨ i = 2) with rfl | rfl | rfl
    · have w1 : IntKind.i64.wrap 1 = 1 := by decide
      simp at e27 e6 hg
      have e2 := aapp_in (m := m') (len := 0) el23 (ys := [enc a]) (ys' := [enc a]) (by simp) (by simp [okAll_cons, okAll_nil]) (by simp [fzvs]) hg (by rw [flat_zeros]; simp; omega) (by simp) (ag' := true)
      simp [e27, e26, e25, ls, aindexAddr_lst0 Tryz.underlying120 tsize23, e6, w1, srcOf, elemsOf, e2]
      refine hn _ _ (by omega) (by simp) ⟨by simp, by simp [hkp], ?_⟩
      simp [List.replicate_succ, flat_cons, flat_nil]
    · have x1 : ls[1]? = some (.lst (encs L)) := rfl
      have w2 : IntKind.i64.wrap 2 = 2 := by decide
      have ix := aindexAddr_lst (P := Tryz.prog) (T := 120) (q := .i64) Tryz.underlying120 tsize23 x1 (by simp)
      simp at e27 e6 hg ix
      cases L with
      | nil =>
        have e2 := aapp_none (m := m') (s := .sl m.next 0 1 6 true none) el23 (.inr ⟨_, _, _, _, _, _, rfl⟩)
        simp [e27, e26, e25, ix, e6, w2, srcOf, elemsOf, encs, e2]
        exact hn _ _ (by omega) (by simp) ⟨by simp, by simp [hkp], _, by simpa [encs] using hg⟩
      | cons b r =>
        have e2 := aapp_in (m := m') (len := 1) el23 (ys := encs (b :: r)) (ys' := encs (b :: r)) (by simp [encs]) (by simp) (by simp) hg (by rw [flat_cons, List.length_append, flat_zeros]; simp; omega) (by simp at hL ⊢; omega) (ag' := true)
        simp [e27, e26, e25, ix, e6, w2, srcOf, elemsOf, e2]
        refine hn _ _ (by omega) (by simp) ⟨by simp; omega, by simp [hkp], ?_⟩
        have hz : (flat (encs (b :: r))).length = (r.length + 1) * 6 := by rw [flat_length (okAll_encs _)]; simp
        have hz2 := flat_zeros (r.length + 1)
        simp [flat_cons, hz]
        omega
    · simp at e27 e6 hg
      simp [e27, e26]
      refine he _ _ _ (by simp) ?_
      have hf : fz1 m' (.sl m.next 0 (L.length + 1) 6 true none) = (.lst (encs (a :: L)), m'.mark m.next (flat (enc a :: encs L)) ver) := by
        have := fz1_encs (m := m') (id := m.next) (v := ver) (f := false) (cap := none) (l := a :: L) (n := L.length + 1) (by simp) (by simpa [encs] using hg)
        simpa [encs] using this
      simp [e6]
      refine hQ _ _ _ ⟨.inr rfl, _, rfl, ?_⟩
      simp [hf, hkp]
end Go.Proofs.YtpagdpaiienjcaaGreatDoor
