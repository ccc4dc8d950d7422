import Derived.Test.YtjiijacibpgciaaGreatYDat
/- One in memory of its own. -/
set_option linter.unusedSimpArgs false
set_option linter.unusedVariables false
set_option linter.unusedSectionVars false
namespace Go.Proofs.YtjiijacibpgciaaGreat
set_option maxRecDepth 4000
open Go.V
attribute [local simp] Nat.add_assoc

/-- Clone of ints is it. -/
theorem clone48 (l : List Int) (hl : l.length < 2 ^ 21) (m : Mem) : EH Tryz.prog cf (.func 37) [.lst (l.map int)] m (.lst (l.map int)) m := by
  refine clone_lst rfl (by simp) ?_
  intro x0 l0 e0
  cases l with
  | nil => cases e0
  | cons x l =>
  refine ⟨(m.new [] false).new (int x :: l.map int) false, .inr ⟨1, false, m.next + 1, m.clock + 2, eh_of ?_, by simp, by omega, by simp [flat_cons, flat_ints], rfl, fun y hy => by obtain ⟨x, _, rfl⟩ := List.mem_map.1 hy; simp, okAll_ints _⟩⟩
  refine wph_go Tryz.func37 rfl rfl (by simp [Tryz.f37]) (by simp [Tryz.f37]) fun Q hQ => ?_
  simp only [Tryz.f37, show cf0.keepRes 37 = true from rfl, show cf0.keepArgs 37 = true from rfl] at hQ ⊢
  have e1 := nilTest_cons (T := 22) Tryz.underlying22 (x := int x) (l := l.map int)
  have e2 := aapp_full (m := m.new [] false) (m' := m.new [] false) (ys := int x :: l.map int) (ys' := int x :: l.map int) (id := m.next) (v := m.clock + 1) (ag' := false) el22 (by simp) (by simp [okAll_cons]) (by simp [fzvs]) (by simp) (by simp at hl ⊢; omega)
  simp [abin, plain, e1, abuildSlice, zeros, fillAt, abuiltin, srcOf, elemsOf, e2]
  refine hQ _ _ _ ⟨.inr rfl, _, rfl, ?_⟩
  simp [oneOf, flat_cons, flat_ints]
mutual
/-- A datum with its marks turned so. -/
def Dat.re (f : List Int → List Int) : Dat → Dat
  | .mk K N S M L T => .mk K N S (f M) (res f L) (res f T)
def res (f : List Int → List Int) : List Dat → List Dat
  | [] => []
  | d :: l => d.re f :: res f l
end
theorem res_map (f : List Int → List Int) : ∀ l, res f l = l.map (Dat.re f)
  | [] => by simp [res]
  | d :: l => by simp [res, res_map f l]
@[simp] theorem res_length (f : List Int → List Int) (l : List Dat) : (res f l).length = l.length := by simp [res_map]

/-- What 'own' is handed for the marks. -/
def Marks (g : FuncId) (f : List Int → List Int) : Prop := ∀ (M : List Int) (m : Mem), M.length < 2 ^ 21 → EH Tryz.prog cf (.func g) [.lst (M.map int)] m (.lst ((f M).map int)) m
theorem marks48 : Marks 37 id := fun M m hM => clone48 M hM m
/-- What 'own' and its closure do, together. -/
def OwnAt (g : FuncId) (f : List Int → List Int) (n : Nat) : Prop := ∀ (d : Dat), d.size ≤ n → d.fits → ∀ m, EH Tryz.prog cf (.func 42) [enc d, .fn (.func g) [] []] m (enc (d.re f)) m

theorem own_list {g : FuncId} {f : List Int → List Int} {n : Nat} (ih : OwnAt g f n) (L : List Dat) (hs : sizes L ≤ n) (hf : fitss L) (hl : L.length < 2 ^ 21) (m : Mem) (B : Nat) (hB : has m B [.fn (.func g) [] []]) : EH Tryz.prog cf (.func 56) [.lst (encs L), .ptr B 0] m (.lst (encs (res f L))) m := by
  refine eh_run Tryz.func56 rfl rfl rfl rfl (args1 := [.lst (encs L), .ptr B 0]) (by simp) (by simp) (by simp [Tryz.f56]) (by simp [Tryz.f56]) ?_
  simp only [Tryz.f56, show cf.keepRes 56 = false from rfl]
  simp
  refine go_count 9 L.length (fun i s m' => Acc m m' 6 true (encs (res f (L.take i))) (s.at 4) ∧ Kp m m') (by simp) (by omega) ⟨by simpa [res, encs] using Acc.nil, by simp⟩ ?_
  rintro i s m' hi e9 ⟨hacc, hkp⟩ hsame hw Q' hn he
  have e7 : s.at 7 = .lst (encs L) := (hsame 7 (by kernel_rfl)).trans (by simp)
  have e8 : s.at 8 = int L.length := (hsame 8 (by kernel_rfl)).trans (by simp)
  have e1 : s.at 1 = .ptr B 0 := (hsame 1 (by kernel_rfl)).trans (by simp)
  simp [e9, e8]
  refine goB_split (fun h => ?_) fun h => ?_
  · have hlt : i < L.length := by simpa using h
    obtain ⟨x, hx⟩ : ∃ x, L[i]? = some x := ⟨_, List.getElem?_eq_getElem hlt⟩
    have hxe : (encs L)[i]? = some (enc x) := by rw [encs_get, hx]; rfl
    have hxm : x ∈ L := List.mem_of_getElem? hx
    obtain ⟨bl, bv, be⟩ := hB.kp hkp
    have bn : B ≠ m'.next := by omega
    simp [e7, e9, aindexAddr_lst Tryz.underlying23 tsize25 hxe (enc_cells_length x), e1, be, bn]
    have := size_mem hxm
    rw [(ih x (by omega) (fits_mem hf hxm) _).go]
    have hsrc := src_one (m := ((m'.new zeroCells false).set m'.next (enc x).cells).new (enc (x.re f)).cells false) (id := m'.next + 1) (c := some 1) (k := 6) (ag := true) (x := enc (x.re f)) (w := m'.clock + 3) (f := false) rfl (by simp) (by simp) (by simp)
    have kp2 : Kp m' (((m'.new zeroCells false).set m'.next (enc x).cells).new (enc (x.re f)).cells false) := by simp
    obtain ⟨v', m3, h1, h2, h3⟩ := (hacc.kp kp2).app (okAll_encs _) el23 (zs := [enc (x.re f)]) (zs' := [enc (x.re f)]) (List.cons_ne_nil _ _) (by simp [okAll_cons, okAll_nil]) (by simp [fzvs]) (.refl _) (by simp [encs_map, res_map]; omega) (hkp.trans kp2) rfl
    simp [abuildSlice, fillAt, zeros, abuiltin, hsrc, h1, e9, hw]
    refine hn _ _ hlt (by simp) ⟨?_, h3⟩
    have ht : L.take (i + 1) = L.take i ++ [x] := by
      obtain ⟨h1, h2⟩ := List.getElem?_eq_some_iff.1 hx
      rw [List.take_succ_eq_append_getElem h1, h2]
    rw [ht]
    simpa [encs_map, res_map] using h2
  · simp
    refine he _ _ _ (by simp) ?_
    have hle : i = L.length := by simp at h hi ⊢; omega
    subst hle
    simp
    obtain ⟨m2, h1, h2⟩ := hacc.fz hkp rfl (fun y hy => by rw [encs_map] at hy; obtain ⟨x, _, rfl⟩ := List.mem_map.1 hy; simp) (okAll_encs _)
    rw [hacc.fzr, h1]
    simpa using h2

theorem own_at {g : FuncId} {f : List Int → List Int} (hg : Marks g f) (hc : ∀ M, (f M).length ≤ M.length) : ∀ n, OwnAt g f n
  | 0, d, hs, hf, m => by cases d; simp [Dat.size] at hs
  | n + 1, .mk K N S M L T, hs, hf, m => by
    have ft := alone_fits hf
    rw [Dat.fits] at hf
    rw [Dat.size] at hs
    refine eh_run Tryz.func42 rfl rfl rfl rfl (args1 := [enc (.mk K N S M L T), .fn (.func g) [] []]) (by simp) (by simp) (by simp [Tryz.f42]) (by simp [Tryz.f42]) ?_
    simp only [Tryz.f42, show cf.keepRes 42 = false from rfl, enc]
    simp
    rw [(hg M _ ft.m).go]
    simp
    refine go_draw_of (by kernel_rfl) ?_
    simp
    rw [(own_list (own_at hg hc n) L (by omega) hf.2.1 ft.l _ (m.next + 1) ⟨by simp, by simp⟩).go]
    simp
    rw [(own_list (own_at hg hc n) T (by omega) hf.2.2 ft.t _ (m.next + 1) ⟨by simp, by simp⟩).go]
    simp
    refine goM_of (l := [(3, 6)]) (by kernel_rfl) ?_ ?_
    · simp [metAt, metOk, rank, objOf, verKept, Region.wanted, Mem.ver]
    simp [Dat.re, enc]

mutual
theorem re_id : ∀ d : Dat, d.re id = d
  | .mk K N S M L T => by simp [Dat.re, res_id L, res_id T]
theorem res_id : ∀ l : List Dat, res id l = l
  | [] => by simp [res]
  | d :: l => by simp [res, re_id d, res_id l]
end
/-- Without marks. -/
def Dat.plain (d : Dat) : Dat := d.re fun _ => []
theorem g47 (d : Dat) (hd : d.fits) (m : Mem) : EH Tryz.prog cf (.func 42) [enc d, .fn (.func 37) [] []] m (enc d) m := by
  have := own_at marks48 (fun _ => Nat.le_refl _) d.size d (Nat.le_refl _) hd m
  rwa [re_id] at this
end Go.Proofs.YtjiijacibpgciaaGreat
