import Derived.Test.YtpagdpaiienjcaaGreatDoorYRef3
import Derived.Test.YtpagdpaiienjcaaGreatDoorETab3
import Derived.Test.YtpagdpaiienjcaaGreatDoorVK
/- ExpandNone: an expander that no call made. -/
set_option linter.unusedSimpArgs false
set_option linter.unusedVariables false
set_option linter.unusedSectionVars false
namespace Go.Proofs.YtpagdpaiienjcaaGreatDoor
open Go.V
attribute [local simp] Nat.add_assoc

/-- The datum's setting. -/
theorem told_cf (f : FuncId) (h : List AV → Mem → Option (AV × Mem)) (e : cf.hook f = some h) : ByHand Tryz.prog f h := by
  unfold cf at e
  dsimp only at e
  split at e
  · rename_i hc
    have : f = 47 := by simpa using hc
    subst this
    cases e
    exact ⟨fun B W args m v m' e2 hv => cloneP_sound follows_mixed cl47 e2 hv, fun args m v m' e2 => cloneP_ver (W := default) e2⟩
  · cases e
/-- The empty core. -/
def zc : AV := .agg [int 0, int 0, .sc (.string ⟨⟨[]⟩⟩), int 0, int 0, .sc (.string ⟨⟨[]⟩⟩), .lst [], .lst [], .lst [], .lst [], .lst []]
def rowsZ : List Row := [([zc, zc], .sc (.bool true))]
set_option maxRecDepth 100000 in
theorem rowsZ_ok : rowsZ.all (rowRun Tryz.prog ck 200 8) = true := by kernel_rfl
/-- The law's setting. -/
noncomputable def cs : Cfg := ⟨fun _ => false, fun _ => false, fun f => if f == 4 then some (rowH rows4) else if f == 8 then some (rowH rowsZ) else if f == 16 then some (limH Tryz.prog cf 16) else none, fun f => if f == 10 then 0 else 1⟩
theorem told_cs (f : FuncId) (h : List AV → Mem → Option (AV × Mem)) (e : cs.hook f = some h) : ByHand Tryz.prog f h := by
  unfold cs at e
  dsimp only at e
  split at e
  · rename_i hc
    have : f = 4 := by simpa using hc
    subst this
    cases e
    exact told_cl 4 _ rfl
  · split at e
    · rename_i hc
      have : f = 8 := by simpa using hc
      subst this
      cases e
      exact told_row follows_mixed told_ck rowsZ_ok
    · split at e
      · rename_i hc
        have : f = 16 := by simpa using hc
        subst this
        cases e
        exact told_lim follows_mixed told_cf 16
      · cases e
theorem hooksE (B : Bs) (W : World) : Hooks Tryz.prog B W cs := hooks_of told_cs

theorem e4 (m : Mem) : EH Tryz.prog cs (.func 4) [] m (.sc (.bool true)) m := eh_hook (h := rowH rows4) rfl rfl
theorem e8 (m : Mem) : EH Tryz.prog cs (.func 8) [zc, zc] m (.sc (.bool true)) m := eh_hook (h := rowH rowsZ) rfl rfl
theorem e16 (d : Dat) (hd : d.fits) (m : Mem) : EH Tryz.prog cs (.func 16) [enc d] m (int (siz d)) m := eh_hook (h := limH Tryz.prog cf 16) rfl (lim_eq (g34 d hd m [enc d] m (by simp [fzvs])))

/-- No expander, or one that no call made. -/
def Nn (x : AV) (m : Mem) : Prop := x = .sc (.pointer none) ∨ ∃ i v, x = .ptr i 0 ∧ i < m.next ∧ m.get i = some (.cells [.sc (.pointer none), .emp 0, .sc (.map none), int 0] false v)
theorem Nn.kp {x : AV} {m m' : Mem} (h : Nn x m) (k : Kp m m') : Nn x m' := by
  rcases h with rfl | ⟨i, v, rfl, h1, h2⟩
  · exact .inl rfl
  · exact .inr ⟨i, v, rfl, Nat.lt_of_lt_of_le h1 k.next, by rw [k.get i h1]; exact h2⟩
theorem nn28 {xo yo : Operand} : abin Tryz.prog .eql 28 xo yo (.sc (.pointer none)) (.sc (.pointer none)) = some (.sc (.bool true)) := by kernel_rfl
theorem nn29 {xo yo : Operand} : abin Tryz.prog .eql 29 xo yo (.sc (.pointer none)) (.sc (.pointer none)) = some (.sc (.bool true)) := by kernel_rfl
theorem np28 {xo yo : Operand} : abin Tryz.prog .neq 28 xo yo (.sc (.pointer none)) (.sc (.pointer none)) = some (.sc (.bool false)) := by kernel_rfl
theorem pp28 {x y : Operand} {i j : Nat} : abin Tryz.prog .eql 28 x y (.ptr i j) (.sc (.pointer none)) = some (.sc (.bool false)) := by
  have : nilTest Tryz.prog 28 (.ptr i j) (.sc (.pointer none)) = some false := by
    unfold nilTest
    rw [Tryz.underlying28]
  simp [abin, plain, this]
theorem e17 {x : AV} {m : Mem} (h : Nn x m) : EH Tryz.prog cs (.func 17) [x] m (.sc (.bool true)) m := by
  rcases h with rfl | ⟨i, v, rfl, h1, h2⟩
  · refine eh_run Tryz.func17 rfl rfl rfl rfl (args1 := [.sc (.pointer none)]) (m1 := m) (by simp) (by simp) (by simp [Tryz.f17]) (by simp [Tryz.f17]) ?_
    simp [Tryz.f17, show cs.keepRes 17 = false from rfl, nn28, undefV, undef]
  · refine eh_run Tryz.func17 rfl rfl rfl rfl (args1 := [.ptr i 0]) (m1 := m) (by simp) (by simp) (by simp [Tryz.f17]) (by simp [Tryz.f17]) ?_
    simp [Tryz.f17, show cs.keepRes 17 = false from rfl, pp28, nn29, h2]
theorem nn_arg {x : AV} {m : Mem} (h : Nn x m) : (∀ M : Mem, fzv M x = (x, M)) ∧ x.okc = true ∧ x.cells = [x] := by
  rcases h with rfl | ⟨i, v, rfl, _⟩ <;> exact ⟨fun M => by simp, by simp, by simp⟩
theorem e6 {x : AV} {m : Mem} (h : Nn x m) (d : Dat) : EH Tryz.prog cs (.func 6) [x, enc d] m (.tup [zc, int 2]) m := by
  obtain ⟨a1, a2, a3⟩ := nn_arg h
  refine eh_run Tryz.func6 rfl rfl rfl rfl (args1 := [x, enc d]) (m1 := m) (by simp [fzvs, a1]) (by simp [zc, AV.bel, AV.bels]) (by simp [Tryz.f6]) (by simp [Tryz.f6]) ?_
  have e := e17 (h.kp (m' := (m.new (enc d).cells false).new [int 0, int 0, .sc (.string ⟨⟨[]⟩⟩), int 0, int 0, .sc (.string ⟨⟨[]⟩⟩), .emp 0, .emp 0, .emp 0, .emp 0, .emp 0] false) (by simp))
  simp [Tryz.f6, show cs.keepRes 6 = false from rfl, e.go, abuild, placesOf, fillAt, zc]
theorem e7 {x : AV} {m m0 : Mem} {args0 : List AV} (h : Nn x m) (d : Dat) (hz : fzvs m0 args0 = ([x, .lst [enc d]], m)) : EH Tryz.prog cs (.func 7) args0 m0 (.tup [zc, int 0, int 2]) m := by
  obtain ⟨a1, a2, a3⟩ := nn_arg h
  have hl : args0.length = 2 := by have := fzvs_length args0 m0; rw [hz] at this; simpa using this.symm
  refine eh_run Tryz.func7 rfl rfl rfl rfl hz (by simp [zc, AV.bel, AV.bels]) (by simp [Tryz.f7]) (by simp [Tryz.f7, hl]) ?_
  have e := e17 (h.kp (m' := m.new [int 0, int 0, .sc (.string ⟨⟨[]⟩⟩), int 0, int 0, .sc (.string ⟨⟨[]⟩⟩), .emp 0, .emp 0, .emp 0, .emp 0, .emp 0] false) (by simp))
  simp [Tryz.f7, show cs.keepRes 7 = false from rfl, e.go, abuild, placesOf, fillAt, zc]
theorem e7f {x : AV} {m0 : Mem} {args0 : List AV} (h : Nn x (fzvs m0 args0).2) (d : Dat) (hz : (fzvs m0 args0).1 = [x, .lst [enc d]]) : EH Tryz.prog cs (.func 7) args0 m0 (.tup [zc, int 0, int 2]) (fzvs m0 args0).2 := e7 h d (by rw [← hz])
theorem e11 {x : AV} {m : Mem} (h : Nn x m) : EH Tryz.prog cs (.func 11) [x] m (int 0) m := by
  obtain ⟨a1, a2, a3⟩ := nn_arg h
  refine eh_run Tryz.func11 rfl rfl rfl rfl (args1 := [x]) (m1 := m) (by simp [fzvs, a1]) (by simp) (by simp [Tryz.f11]) (by simp [Tryz.f11]) ?_
  simp [Tryz.f11, show cs.keepRes 11 = false from rfl, (e17 h).go]
theorem e12 {x : AV} {m : Mem} (h : Nn x m) : EH Tryz.prog cs (.func 12) [x] m (.sc (.pointer none)) m := by
  obtain ⟨a1, a2, a3⟩ := nn_arg h
  refine eh_run Tryz.func12 rfl rfl rfl rfl (args1 := [x]) (m1 := m) (by simp [fzvs, a1]) (by simp [AV.bel]) (by simp [Tryz.f12]) (by simp [Tryz.f12]) ?_
  simp [Tryz.f12, show cs.keepRes 12 = false from rfl, (e17 h).go]
theorem e10 {x : AV} {m : Mem} (h : Nn x m) : EH Tryz.prog cs (.func 10) [x] m (.fn (.func 26) [] [.ptr m.next 0]) (m.new [.emp 0] false) := by
  obtain ⟨a1, a2, a3⟩ := nn_arg h
  refine eh_of ?_
  refine wph_go Tryz.func10 rfl rfl (by simp [Tryz.f10]) (by simp [Tryz.f10]) fun Q hQ => ?_
  simp only [Tryz.f10, show cs.keepRes 10 = false from rfl, show cs.keepArgs 10 = false from rfl] at hQ ⊢
  have e := e17 (h.kp (m' := m.new [.emp 0] false) (by simp))
  simp [fzvs, a1, e.go]
  refine hQ _ _ _ ?_
  simp
theorem e26 {lo p v : Nat} {m : Mem} (h : m.get p = some (.cells [.emp 0] false v)) : EH Tryz.prog cs (.func 26) [.yl lo, .ptr p 0] m (.tup []) m := by
  refine eh_run Tryz.func26 rfl rfl rfl rfl (args1 := [.yl lo, .ptr p 0]) (m1 := m) (by simp) (by simp [AV.bel, AV.bels]) (by simp [Tryz.f26]) (by simp [Tryz.f26]) ?_
  simp [Tryz.f26, show cs.keepRes 26 = false from rfl, h]
  refine go_count 7 0 (fun i s' m' => Kp m m' ∧ s'.at 6 = int 0) (by simp) (by omega) ⟨by simp, by simp⟩ ?_
  rintro i s' m' hi e7 ⟨hkp, e6⟩ hsame hw Q' hn he
  obtain rfl : i = 0 := by omega
  simp [e7, e6]
  refine he _ _ _ (by simp) ?_
  simp
  rw [leave_none (.inl rfl)]
  exact ⟨rfl, hkp⟩
/-- Has a datum so little? -/
def smB : Dat → Bool
  | .mk K N S M L T => !decide ((1000 : Int) < S.length) && (!decide ((100 : Int) < M.length) && (!decide ((300 : Int) < L.length) && (!decide ((10 : Int) < T.length) && !decide (400 < siz (.mk K N S M L T)))))
set_option maxRecDepth 20000 in
theorem e5 (d : Dat) (hd : d.fits) : Gives Tryz.prog cs 5 [.lst [enc d]] (.sc (.bool (smB d))) := by
  have hx := aindexAddr_lst0 (P := Tryz.prog) (T := 23) (q := .i64) (x := enc d) (l := []) Tryz.underlying23 tsize25 (by simp)
  have h16 := e16 d hd
  refine gives_run Tryz.func5 rfl rfl rfl rfl (by simp [fzvs]) (by simp [Tryz.f5]) (by simp [Tryz.f5]) fun m => ?_
  obtain ⟨K, N, S, M, L, T⟩ := d
  simp [Tryz.f5, show cs.keepRes 5 = false from rfl]
  refine go_count 10 1 (fun i s' m' => Kp m m' ∧ s'.at 8 = .lst [enc (.mk K N S M L T)] ∧ s'.at 9 = int 1 ∧ (i = 1 → smB (.mk K N S M L T) = true)) (by simp) (by omega) ⟨by simp, by simp, by simp, fun h => by omega⟩ ?_
  rintro i s' m' hi e10 ⟨hkp, e8, e9, hc⟩ hsame hw Q' hn he
  simp [e10, e9]
  refine goB_split (fun h => ?_) fun h => ?_
  · have h0 : i = 0 := by have := of_decide_eq_true h; omega
    subst h0
    have kp1 : ∀ cs ds, Kp m ((m'.new cs false).set m'.next ds) := fun cs ds => (hkp.newr _ _).set (by have := hkp.next; omega) _
    simp only [enc] at hx h16
    simp [e10, e8, enc, hx]
    by_cases h1 : (1000 : Int) < S.length
    · simp [h1]
      refine he _ _ _ (by simp) ?_
      simp [smB, h1]
      exact kp1 _ _
    · by_cases h2 : (100 : Int) < M.length
      · simp [h1, h2]
        refine he _ _ _ (by simp) ?_
        simp [smB, h1, h2]
        exact kp1 _ _
      · by_cases h3 : (300 : Int) < L.length
        · simp [h1, h2, h3]
          refine he _ _ _ (by simp) ?_
          simp [smB, h1, h2, h3]
          exact kp1 _ _
        · by_cases h4 : (10 : Int) < T.length
          · simp [h1, h2, h3, h4]
            refine he _ _ _ (by simp) ?_
            simp [smB, h1, h2, h3, h4]
            exact kp1 _ _
          · simp [h1, h2, h3, h4, (h16 _).go]
            by_cases h5 : 400 < siz (.mk K N S M L T)
            · simp [h5]
              refine he _ _ _ (by simp) ?_
              simp [smB, h1, h2, h3, h4, h5]
              exact kp1 _ _
            · simp [h5, e10, hw]
              refine hn _ _ (by omega) (by simp <;> decide) ⟨kp1 _ _, by simp [e8, enc], by simp [e9], fun _ => by simp [smB, h1, h2, h3, h4, h5]⟩
  · have h1 : i = 1 := by have := of_decide_eq_false h; omega
    simp
    refine he _ _ _ (by simp) ?_
    simp [hc h1]
    exact hkp
theorem goH_eh {N : Nat} {Q : Ex → Sl → Mem → Prop} {fn : Fn} {args : List AV} {d : Option Tmp} {k : List It} {s : Sl} {m m' : Mem} {r : AV} (h : EH Tryz.prog cs fn args m r m') (hk : goP Tryz.prog cs N Q (aput N s d r) k m') : goH Tryz.prog cs N Q fn args d k s m := by
  rw [h.go]; exact hk
theorem eqNilF {x y : Operand} {f : Fn} {a b : List AV} : abin Tryz.prog .eql 47 x y (.fn f a b) (.sc .nilFunc) = some (.sc (.bool false)) := by
  have : nilTest Tryz.prog 47 (.fn f a b) (.sc .nilFunc) = some false := by
    unfold nilTest
    rw [Tryz.underlying47]
  simp [abin, plain, this]
theorem e9 {p v : Nat} {m : Mem} (hp : p < m.next) (h : m.get p = some (.cells [.emp 0] false v)) : EH Tryz.prog cs (.func 9) [.fn (.func 26) [] [.ptr p 0], int 9] m (.lst []) m := by
  refine eh_run Tryz.func9 rfl rfl rfl rfl (args1 := [.fn (.func 26) [] [.ptr p 0], int 9]) (m1 := m) (by simp) (by simp [AV.bel, AV.bels]) (by simp [Tryz.f9]) (by simp [Tryz.f9]) ?_
  simp [Tryz.f9, show cs.keepRes 9 = false from rfl, eqNilF]
  refine go_range (f := 26) (a := []) (b := [.ptr p 0]) (by simp) (by kernel_rfl) ?_
  simp only [List.nil_append]
  have n0 : p ≠ m.next := by omega
  have n1 : p ≠ m.next + 1 := by omega
  refine ⟨_, _, e26 (v := v) (by simp [n0, n1, h]), ?_⟩
  refine ⟨_, .normal, by simp; rfl, by simp, rfl, ?_⟩
  simp
/-- The empty core, as it is built. -/
def zb : AV := .agg [int 0, int 0, .sc (.string ⟨⟨[]⟩⟩), int 0, int 0, .sc (.string ⟨⟨[]⟩⟩), .emp 0, .emp 0, .emp 0, .emp 0, .emp 0]
theorem e8b (m : Mem) : EH Tryz.prog cs (.func 8) [zc, zb] m (.sc (.bool true)) m := eh_hook (h := rowH rowsZ) rfl rfl
end Go.Proofs.YtpagdpaiienjcaaGreatDoor
