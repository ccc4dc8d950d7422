import Derived.Test.YtipmoeclkamciaaYRef4
import Derived.Test.YtipmoeclkamciaaYCons2
/- The reference: making a datum anew. -/
set_option linter.unusedSimpArgs false
set_option linter.unusedVariables false
set_option linter.unusedSectionVars false
namespace Go.Proofs.Ytipmoeclkamciaa
open Go.V
attribute [local simp] Nat.add_assoc

theorem go_facts {P : Program} {cfg : Cfg} {N : Nat} {Q : Ex → Sl → Mem → Prop} {k : List It} {s : Sl} {m : Mem} (A : Sl → Mem → Prop) (h : A s m) (hh : ∀ s m, A s m → go P cfg N Q k s m) : go P cfg N Q k s m := hh _ _ h

theorem acc_fzX {m m' : Mem} {k : Nat} {ag : Bool} {ys : List AV} {v : AV} (h : Acc m m' k ag ys v) (ha : (ag || k == 1) = true) (hy : ∀ y ∈ ys, y.cells.length = k ∧ (if ag then AV.agg y.cells = y else y.cells = [y])) (ho : okAll k ys = true) : ∃ m2, fz1 m' v = (.lst ys, m2) ∧ KpX (owns v) m' m2 := by
  rcases h with ⟨rfl, rfl⟩ | ⟨h, id, w, rfl, h2, h3, h4⟩
  · exact ⟨m', rfl, KpX.refl _ _⟩
  · exact ⟨_, fz1_row ha h4 hy ho, ⟨Nat.le_of_eq (Mem.next_mark _ _ _ _).symm, fun j hj hn => by rw [Mem.get_mark, if_neg (fun e => hn e.symm)], (XK.refl _).same rfl rfl⟩⟩

/-- A list appended to nil. -/
theorem app_lst0 (M : List Int) (hM : M.length < 2 ^ 21) (m : Mem) : ∃ q : AV × Mem, abuiltin Try.prog .append #[22, 22] 22 [.emp 0, .lst (M.map int)] m = some q ∧ Acc m q.2 1 false (M.map int) q.1 ∧ Kp m q.2 := by
  cases M with
  | nil => exact ⟨(.emp 0, m), by
      have := aapp_none (m := m) (s := .emp 0) el22 (.inl ⟨_, rfl⟩)
      rw [List.map_nil, abuiltin_app Try.underlying22]
      exact this, .inl ⟨rfl, rfl⟩, .refl _⟩
  | cons x M =>
    have e := aapp_emp (m := m) (n := 0) (m' := m) (ys := int x :: M.map int) (ys' := int x :: M.map int) (by omega) el22 (by simp) (by simp [okAll_cons]) (by simp [fzvs]) (by simp at hM ⊢; omega)
    exact ⟨_, by
      rw [List.map_cons, abuiltin_app Try.underlying22]
      exact e, .inr ⟨by simp, m.next, m.clock + 1, by simp, by omega, by simp, by simp⟩, by simp⟩

def fb (b : Bool) (M : List Int) : List Int := if b then M else []
def MadeAt (b : Bool) (n : Nat) : Prop := ∀ (d : Dat), d.size ≤ n → d.fits → Gives Try.prog cf 55 [enc d, .sc (.bool b)] (enc (d.re (fb b)))

/-- What is between the rounds. -/
structure Mk (i0 : Nat) (m m' : Mem) (bx : List AV) (os : List AV) : Prop where
  box : has m' i0 bx
  out : has m' (i0 + 2) os
  kp : KpX (fun k => k = i0 + 2) m m'

set_option maxHeartbeats 4000000 in
set_option maxRecDepth 100000 in
theorem made_at (b : Bool) : ∀ n, MadeAt b n
  | 0, d, hs, hf => by cases d; simp [Dat.size] at hs
  | n + 1, .mk K N S M L T, hs, hf => by
    have ft := alone_fits hf
    rw [Dat.fits] at hf
    rw [Dat.size] at hs
    have ih := made_at b n
    obtain ⟨qf, hq⟩ := Classical.axiomOfChoice (app_lst0 M ft.m)
    refine gives_run Try.func55 rfl rfl rfl rfl (by simp) (by simp [Try.f55]) (by simp [Try.f55]) fun m => ?_
    simp only [Try.f55, show cf.keepRes 55 = false from rfl, enc]
    have hq1 := fun m => (hq m).1
    cases b
    · simp [hq1, abuild, placesOf, fillAt, zeroCells]
      refine go_facts (fun s m' => s.at 1 = .sc (.bool false) ∧ s.at 2 = .ptr m.next 0 ∧ s.at 4 = .ptr (m.next + 1) 0 ∧ s.at 5 = .ptr (m.next + 2) 0 ∧ s.at 6 = int 0 ∧ Kp m m' ∧ has m' m.next [int K, int N, .sc (.string ⟨⟨S⟩⟩), .lst (M.map int), .lst (encs L), .lst (encs T)] ∧ has m' (m.next + 1) zeroCells ∧ ∃ Mv m0, m0.next = m.next + 3 ∧ has m' (m.next + 2) [int K, int N, .sc (.string ⟨⟨S⟩⟩), Mv, .emp 0, .emp 0] ∧ Acc m0 m' 1 false ((fb false M).map int) Mv) ⟨by simp, by simp, by simp, by simp, by simp, by simp, ⟨by simp, by simp⟩, ⟨by simp, by simp [zeroCells]⟩, .emp 0, ((m.new [] false).new [] false).new [] false, by simp, ⟨by simp, by simp⟩, .inl ⟨by simp [fb], rfl⟩⟩ fun s1 m1 hA => ?_
      obtain ⟨h1, h2, h4, h5, h6, hkp, hbox, hcell, Mv, m0, hn0, hout, hM⟩ := hA
      have lL := ft.l
      have lT := ft.t
      refine go_count 6 L.length (fun i s m' => ∃ v, Acc m1 m' 6 true (encs (res (fb false) (L.take i))) v ∧ has m' (m.next + 2) [int K, int N, .sc (.string ⟨⟨S⟩⟩), Mv, v, .emp 0] ∧ KpX (fun k => k = m.next + 2) m1 m') (by simp [h6]) (by omega) ⟨_, .inl ⟨by simp [res, encs], rfl⟩, hout, .refl _ _⟩ ?_
      rintro i s m' hi e6 ⟨v, hv, hout', hkx⟩ hs hw Q' hn he
      have a1 := (hs 1 (by kernel_rfl)).trans h1
      have a2 := (hs 2 (by kernel_rfl)).trans h2
      have a4 := (hs 4 (by kernel_rfl)).trans h4
      have a5 := (hs 5 (by kernel_rfl)).trans h5
      clear hs
      obtain ⟨bl, bv, be⟩ := hbox.kept hkx (by omega)
      obtain ⟨ol, ov, oe⟩ := hout'
      have nv : ∀ j, owns v j → m1.next ≤ j ∧ j < m'.next := acc_lt hv
      simp [e6, a2, be]
      refine goB_split (fun h => ?_) fun h => ?_
      · have hlt : i < L.length := by simpa using h
        obtain ⟨x, hx⟩ : ∃ x, L[i]? = some x := ⟨_, List.getElem?_eq_getElem hlt⟩
        have hxe : (encs L)[i]? = some (enc x) := by rw [encs_get, hx]; rfl
        have hxm : x ∈ L := List.mem_of_getElem? hx
        have sz := size_mem hxm
        have c := ih x (by omega) (fits_mem hf.2.1 hxm)
        have hsrc := src_one (m := m'.new (enc (x.re (fb false))).cells false) (id := m'.next) (c := some 1) (k := 6) (ag := true) (x := enc (x.re (fb false))) (w := m'.clock + 1) (f := false) rfl (by simp) (by simp) (by simp)
        obtain ⟨m3, q1, q2, ⟨w3, q3⟩, q4, q4x⟩ := acc_app2 (hv.kp (.new m' (enc (x.re (fb false))).cells false)) (okAll_encs _) el23 (zs := [enc (x.re (fb false))]) (zs' := [enc (x.re (fb false))]) (List.cons_ne_nil _ _) (by simp [okAll_cons, okAll_nil]) (by simp [fzvs]) (.refl _) (by simp; omega)
        simp at q1 q2 q3 q4
        have nw : ¬ owns v (m.next + 2) := fun h => by have := (nv _ h).1; have := hout.1; omega
        have go3 := q4 (m.next + 2) (by omega) nw
        rw [if_neg (by omega), oe] at go3
        have n1 : m.next + 2 ≠ m'.next := by omega
        have n2 : m.next ≠ m'.next := by omega
        have n3 : m.next + 2 ≠ m.next := by omega
        simp
        refine go_draw_of (by kernel_rfl) ?_
        simp [a1, a2, a5, e6, be, oe, aindexAddr_lst Try.underlying23 tsize25 hxe (enc_cells_length x), c.go, abuildSlice, fillAt, zeros, abuiltin, hsrc, q1, go3, n1, n2]
        refine goM_of (l := [(1, 8), (1, 9)]) (by kernel_rfl) (?_ : List.all _ _ = true) ?_
        · simp [metAt, metOk, rank, objOf, verKept, Region.wanted, Mem.ver, oe, n1, n2]
        simp [e6, hw]
        have ht : L.take (i + 1) = L.take i ++ [x] := by
          obtain ⟨h1, h2⟩ := List.getElem?_eq_some_iff.1 hx
          rw [List.take_succ_eq_append_getElem h1, h2]
        have hr : encs (res (fb false) (L.take (i + 1))) = encs (res (fb false) (L.take i)) ++ [enc (x.re (fb false))] := by rw [ht]; simp [encs_map, res_map]
        have hle : m1.next ≤ m'.next := hkx.next
        refine hn _ _ hlt (by simp) ⟨_, .inr ⟨by rw [hr]; simp, m'.next + 1, w3, by rw [hr], by omega, by simp <;> omega, ?_⟩, ⟨by simp <;> omega, m3.clock + 1, by simp⟩, ⟨by simp <;> omega, fun j hj hn => ?_, (hkx.x.trans hkx.next ((Kp.new m' _ _).x.trans (Kp.new m' _ _).next q4x)).same rfl rfl⟩⟩
        · rw [hr]
          simp [q3]
          omega
        · have g1 : ¬ owns v j := fun h => by have := (nv _ h).1; omega
          have g2 := q4 j (by omega) g1
          rw [if_neg (by omega)] at g2
          simp [hn, g2, hkx.get j hj hn]
      · simp
        refine he _ _ _ (by simp) ?_
        have hle : i = L.length := by simp at h hi ⊢; omega
        subst hle
        simp
        rw [List.take_length] at hv
        obtain ⟨v1, hv1⟩ : ∃ v1, v1 = v := ⟨_, rfl⟩
        subst hv1
        have hbox' := hbox.kept hkx (by omega)
        have hcell' := hcell.kept hkx (by omega)
        have hM' := acc_keptX hM hkx (fun j hj e => by have := (acc_lt hM j hj).1; omega)
        have hout2 : has m' (m.next + 2) [int K, int N, .sc (.string ⟨⟨S⟩⟩), Mv, v1, .emp 0] := ⟨ol, ov, oe⟩
        have kp' : Kp m m' := hkx.kp hkp (fun j hj e => by omega)
        have vlo : ∀ j, owns v1 j → m.next + 3 ≤ j := fun j hj => by have := (nv j hj).1; have := hout.1; omega
        have MV : ∀ j, owns Mv j → ¬ owns v1 j := fun j hj h => by have := (nv j h).1; have := (acc_lt hM j hj).2; omega
        refine go_facts (fun s2 m2 => s2.at 1 = .sc (.bool false) ∧ s2.at 2 = .ptr m.next 0 ∧ s2.at 4 = .ptr (m.next + 1) 0 ∧ s2.at 5 = .ptr (m.next + 2) 0 ∧ s2.at 7 = int 0 ∧ m2 = m') ⟨by simp [a1], by simp [a2], by simp [a4], by simp [a5], by simp, rfl⟩ fun s2 m2 hB => ?_
        clear hn he e6 a1 a2 a4 a5 h1 h2 h4 h5 h6 be bv bl h hi hw
        obtain ⟨h1, h2, h4, h5, h7, rfl⟩ := hB
        clear hbox hcell hout oe
        have hbox := hbox'
        have hcell := hcell'
        have hout := hout2
        clear hbox' hcell' hout2
        have hv1 := hv
        have nv1 := nv
        clear hv nv ol ov
        refine go_count 7 T.length (fun i s m' => ∃ v, Acc m2 m' 6 true (encs (res (fb false) (T.take i))) v ∧ has m' (m.next + 2) [int K, int N, .sc (.string ⟨⟨S⟩⟩), Mv, v1, v] ∧ KpX (fun k => k = m.next + 2) m2 m') (by simp [h7]) (by omega) ⟨_, .inl ⟨by simp [res, encs], rfl⟩, hout, .refl _ _⟩ ?_
        rintro i s m' hi e7 ⟨v, hv, hout', hkx⟩ hs hw Q' hn he
        have a1 := (hs 1 (by kernel_rfl)).trans h1
        have a2 := (hs 2 (by kernel_rfl)).trans h2
        have a4 := (hs 4 (by kernel_rfl)).trans h4
        have a5 := (hs 5 (by kernel_rfl)).trans h5
        clear hs
        obtain ⟨bl, bv, be⟩ := hbox.kept hkx (by omega)
        obtain ⟨ol, ov, oe⟩ := hout'
        have nv : ∀ j, owns v j → m2.next ≤ j ∧ j < m'.next := acc_lt hv
        simp [e7, a2, be]
        refine goB_split (fun h => ?_) fun h => ?_
        · have hlt : i < T.length := by simpa using h
          obtain ⟨x, hx⟩ : ∃ x, T[i]? = some x := ⟨_, List.getElem?_eq_getElem hlt⟩
          have hxe : (encs T)[i]? = some (enc x) := by rw [encs_get, hx]; rfl
          have hxm : x ∈ T := List.mem_of_getElem? hx
          have sz := size_mem hxm
          have c := ih x (by omega) (fits_mem hf.2.2 hxm)
          have hsrc := src_one (m := m'.new (enc (x.re (fb false))).cells false) (id := m'.next) (c := some 1) (k := 6) (ag := true) (x := enc (x.re (fb false))) (w := m'.clock + 1) (f := false) rfl (by simp) (by simp) (by simp)
          obtain ⟨m3, q1, q2, ⟨w3, q3⟩, q4, q4x⟩ := acc_app2 (hv.kp (.new m' (enc (x.re (fb false))).cells false)) (okAll_encs _) el23 (zs := [enc (x.re (fb false))]) (zs' := [enc (x.re (fb false))]) (List.cons_ne_nil _ _) (by simp [okAll_cons, okAll_nil]) (by simp [fzvs]) (.refl _) (by simp; omega)
          simp at q1 q2 q3 q4
          have nw : ¬ owns v (m.next + 2) := fun h => by have := (nv _ h).1; have := hout.1; omega
          have go3 := q4 (m.next + 2) (by omega) nw
          rw [if_neg (by omega), oe] at go3
          have n1 : m.next + 2 ≠ m'.next := by omega
          have n2 : m.next ≠ m'.next := by omega
          have n3 : m.next + 2 ≠ m.next := by omega
          simp
          refine go_draw_of (by kernel_rfl) ?_
          simp [a1, a2, a5, e7, be, oe, aindexAddr_lst Try.underlying23 tsize25 hxe (enc_cells_length x), c.go, abuildSlice, fillAt, zeros, abuiltin, hsrc, q1, go3, n1, n2]
          refine goM_of (l := [(1, 8), (1, 9)]) (by kernel_rfl) (?_ : List.all _ _ = true) ?_
          · simp [metAt, metOk, rank, objOf, verKept, Region.wanted, Mem.ver, oe, n1, n2]
          simp [e7, hw]
          have ht : T.take (i + 1) = T.take i ++ [x] := by
            obtain ⟨h1, h2⟩ := List.getElem?_eq_some_iff.1 hx
            rw [List.take_succ_eq_append_getElem h1, h2]
          have hr : encs (res (fb false) (T.take (i + 1))) = encs (res (fb false) (T.take i)) ++ [enc (x.re (fb false))] := by rw [ht]; simp [encs_map, res_map]
          have hle : m2.next ≤ m'.next := hkx.next
          refine hn _ _ hlt (by simp) ⟨_, .inr ⟨by rw [hr]; simp, m'.next + 1, w3, by rw [hr], by omega, by simp <;> omega, ?_⟩, ⟨by simp <;> omega, m3.clock + 1, by simp⟩, ⟨by simp <;> omega, fun j hj hn => ?_, (hkx.x.trans hkx.next ((Kp.new m' _ _).x.trans (Kp.new m' _ _).next q4x)).same rfl rfl⟩⟩
          · rw [hr]
            simp [q3]
            omega
          · have g1 : ¬ owns v j := fun h => by have := (nv _ h).1; omega
            have g2 := q4 j (by omega) g1
            rw [if_neg (by omega)] at g2
            simp [hn, g2, hkx.get j hj hn]
        · simp
          refine he _ _ _ (by simp) ?_
          have hle : i = T.length := by simp at h hi ⊢; omega
          subst hle
          simp
          rw [List.take_length] at hv
          have hM2 := acc_keptX hM' hkx (fun j hj e => by have := (acc_lt hM j hj).1; omega)
          have hv2 := acc_keptX hv1 hkx (fun j hj e => by have := vlo j hj; omega)
          have kp2 : Kp m m' := hkx.kp kp' (fun j hj e => by omega)
          obtain ⟨cl, cv, ce⟩ := hcell.kept hkx (by omega)
          have n2lo : m.next + 3 ≤ m2.next := hout.1
          clear hn he e7 a1 a2 h1 h2 h4 h5 h7 be bv bl h hi hw hbox hcell hout
          have n3 : m.next + 2 ≠ m.next + 1 := by omega
          simp [a4, a5, oe, ce, zeroCells]
          have kx1 : KpX (fun k => k = m.next + 1) m' (m'.set (m.next + 1) [int K, int N, .sc (.string ⟨⟨S⟩⟩), Mv, v1, v]) := (KpX.refl (fun k => k = m.next + 1) m').set (id := m.next + 1) rfl _
          generalize m'.set (m.next + 1) [int K, int N, .sc (.string ⟨⟨S⟩⟩), Mv, v1, v] = m3 at *
          have A1 := acc_keptX hM2 kx1 (fun j hj e => by have := (acc_lt hM j hj).1; omega)
          have A2 := acc_keptX hv2 kx1 (fun j hj e => by have := vlo j hj; omega)
          have A3 := acc_keptX hv kx1 (fun j hj e => by have := (nv j hj).1; omega)
          obtain ⟨m4, f1, k1⟩ := acc_fzX A1 rfl (fun y hy => by obtain ⟨x, _, rfl⟩ := List.mem_map.1 hy; simp) (okAll_ints _)
          have B2 := acc_keptX A2 k1 (fun j hj e => MV j e hj)
          have B3 := acc_keptX A3 k1 (fun j hj e => by have := (nv j hj).1; have := (acc_lt hM' j e).2; omega)
          obtain ⟨m5, f2, k2⟩ := acc_fzX B2 rfl (fun y hy => by rw [encs_map] at hy; obtain ⟨x, _, rfl⟩ := List.mem_map.1 hy; simp) (okAll_encs _)
          have C3 := acc_keptX B3 k2 (fun j hj e => by have := (nv j hj).1; have := (nv1 j e).2; omega)
          obtain ⟨m6, f3, k3⟩ := acc_fzX C3 rfl (fun y hy => by rw [encs_map] at hy; obtain ⟨x, _, rfl⟩ := List.mem_map.1 hy; simp) (okAll_encs _)
          simp only [f1, f2, f3]
          refine ⟨by simp [Dat.re, enc], k3.kp (k2.kp (k1.kp (kx1.kp kp2 fun j hj e => by omega) fun j hj e => by have := (acc_lt hM j e).1; omega) fun j hj e => by have := vlo j e; omega) fun j hj e => by have := (nv j e).1; omega⟩
    · simp [abuild, placesOf, fillAt, zeroCells]
      generalize hM0 : ((((m.new [int K, int N, .sc (.string ⟨⟨S⟩⟩), .lst (M.map int), .lst (encs L), .lst (encs T)] false).new [AV.sc (Value.int IntKind.i64 0), AV.sc (Value.int IntKind.i64 0), .sc (.string ⟨⟨[]⟩⟩), AV.emp 0, AV.emp 0, AV.emp 0] false).new [AV.sc (Value.int IntKind.i64 0), AV.sc (Value.int IntKind.i64 0), .sc (.string ⟨⟨[]⟩⟩), AV.emp 0, AV.emp 0, AV.emp 0] false).set (m.next + 2) [AV.sc (Value.int IntKind.i64 K), AV.sc (Value.int IntKind.i64 N), .sc (.string ⟨⟨S⟩⟩), AV.emp 0, AV.emp 0, AV.emp 0]) = M0
      have b0 : has M0 m.next [int K, int N, .sc (.string ⟨⟨S⟩⟩), .lst (M.map int), .lst (encs L), .lst (encs T)] := by rw [← hM0]; exact ⟨by simp, by simp⟩
      have b1 : has M0 (m.next + 1) zeroCells := by rw [← hM0]; exact ⟨by simp, by simp [zeroCells]⟩
      have b2 : has M0 (m.next + 2) [int K, int N, .sc (.string ⟨⟨S⟩⟩), .emp 0, .emp 0, .emp 0] := by rw [← hM0]; exact ⟨by simp, by simp⟩
      have b3 : M0.next = m.next + 3 := by rw [← hM0]; simp
      have b4 : Kp m M0 := by rw [← hM0]; simp
      obtain ⟨qe, qa, qk⟩ := hq M0
      generalize qf M0 = q at *
      obtain ⟨qv, qm⟩ := q
      simp only at qa qk
      obtain ⟨cl2, cv2, ce2⟩ := b2.kp qk
      clear hM0 hq hq1
      rw [abuiltin_app Try.underlying22] at qe
      simp [qe, ce2, qa.okc.1, qa.okc.2]
      have kx0 : KpX (fun k => k = m.next + 2) qm (qm.set (m.next + 2) [int K, int N, .sc (.string ⟨⟨S⟩⟩), qv, .emp 0, .emp 0]) := (KpX.refl (fun k => k = m.next + 2) qm).set (id := m.next + 2) rfl _
      refine go_facts (fun s m' => s.at 1 = .sc (.bool true) ∧ s.at 2 = .ptr m.next 0 ∧ s.at 4 = .ptr (m.next + 1) 0 ∧ s.at 5 = .ptr (m.next + 2) 0 ∧ s.at 6 = int 0 ∧ Kp m m' ∧ has m' m.next [int K, int N, .sc (.string ⟨⟨S⟩⟩), .lst (M.map int), .lst (encs L), .lst (encs T)] ∧ has m' (m.next + 1) zeroCells ∧ ∃ Mv m0, m0.next = m.next + 3 ∧ has m' (m.next + 2) [int K, int N, .sc (.string ⟨⟨S⟩⟩), Mv, .emp 0, .emp 0] ∧ Acc m0 m' 1 false ((fb true M).map int) Mv) ⟨by simp, by simp, by simp, by simp, by simp, kx0.kp (b4.trans qk) (fun j hj e => by omega), (b0.kp qk).kept kx0 (by omega), (b1.kp qk).kept kx0 (by omega), qv, M0, b3, ⟨by simp; omega, by simp⟩, by simpa [fb] using acc_keptX qa kx0 (fun j hj e => by have := (acc_lt qa j hj).1; omega)⟩ fun s1 m1 hA => ?_
      obtain ⟨h1, h2, h4, h5, h6, hkp, hbox, hcell, Mv, m0, hn0, hout, hM⟩ := hA
      have lL := ft.l
      have lT := ft.t
      refine go_count 6 L.length (fun i s m' => ∃ v, Acc m1 m' 6 true (encs (res (fb true) (L.take i))) v ∧ has m' (m.next + 2) [int K, int N, .sc (.string ⟨⟨S⟩⟩), Mv, v, .emp 0] ∧ KpX (fun k => k = m.next + 2) m1 m') (by simp [h6]) (by omega) ⟨_, .inl ⟨by simp [res, encs], rfl⟩, hout, .refl _ _⟩ ?_
      rintro i s m' hi e6 ⟨v, hv, hout', hkx⟩ hs hw Q' hn he
      have a1 := (hs 1 (by kernel_rfl)).trans h1
      have a2 := (hs 2 (by kernel_rfl)).trans h2
      have a4 := (hs 4 (by kernel_rfl)).trans h4
      have a5 := (hs 5 (by kernel_rfl)).trans h5
      clear hs
      obtain ⟨bl, bv, be⟩ := hbox.kept hkx (by omega)
      obtain ⟨ol, ov, oe⟩ := hout'
      have nv : ∀ j, owns v j → m1.next ≤ j ∧ j < m'.next := acc_lt hv
      simp [e6, a2, be]
      refine goB_split (fun h => ?_) fun h => ?_
      · have hlt : i < L.length := by simpa using h
        obtain ⟨x, hx⟩ : ∃ x, L[i]? = some x := ⟨_, List.getElem?_eq_getElem hlt⟩
        have hxe : (encs L)[i]? = some (enc x) := by rw [encs_get, hx]; rfl
        have hxm : x ∈ L := List.mem_of_getElem? hx
        have sz := size_mem hxm
        have c := ih x (by omega) (fits_mem hf.2.1 hxm)
        have hsrc := src_one (m := m'.new (enc (x.re (fb true))).cells false) (id := m'.next) (c := some 1) (k := 6) (ag := true) (x := enc (x.re (fb true))) (w := m'.clock + 1) (f := false) rfl (by simp) (by simp) (by simp)
        obtain ⟨m3, q1, q2, ⟨w3, q3⟩, q4, q4x⟩ := acc_app2 (hv.kp (.new m' (enc (x.re (fb true))).cells false)) (okAll_encs _) el23 (zs := [enc (x.re (fb true))]) (zs' := [enc (x.re (fb true))]) (List.cons_ne_nil _ _) (by simp [okAll_cons, okAll_nil]) (by simp [fzvs]) (.refl _) (by simp; omega)
        simp at q1 q2 q3 q4
        have nw : ¬ owns v (m.next + 2) := fun h => by have := (nv _ h).1; have := hout.1; omega
        have go3 := q4 (m.next + 2) (by omega) nw
        rw [if_neg (by omega), oe] at go3
        have n1 : m.next + 2 ≠ m'.next := by omega
        have n2 : m.next ≠ m'.next := by omega
        have n3 : m.next + 2 ≠ m.next := by omega
        simp
        refine go_draw_of (by kernel_rfl) ?_
        simp [a1, a2, a5, e6, be, oe, aindexAddr_lst Try.underlying23 tsize25 hxe (enc_cells_length x), c.go, abuildSlice, fillAt, zeros, abuiltin, hsrc, q1, go3, n1, n2]
        refine goM_of (l := [(1, 8), (1, 9)]) (by kernel_rfl) (?_ : List.all _ _ = true) ?_
        · simp [metAt, metOk, rank, objOf, verKept, Region.wanted, Mem.ver, oe, n1, n2]
        simp [e6, hw]
        have ht : L.take (i + 1) = L.take i ++ [x] := by
          obtain ⟨h1, h2⟩ := List.getElem?_eq_some_iff.1 hx
          rw [List.take_succ_eq_append_getElem h1, h2]
        have hr : encs (res (fb true) (L.take (i + 1))) = encs (res (fb true) (L.take i)) ++ [enc (x.re (fb true))] := by rw [ht]; simp [encs_map, res_map]
        have hle : m1.next ≤ m'.next := hkx.next
        refine hn _ _ hlt (by simp) ⟨_, .inr ⟨by rw [hr]; simp, m'.next + 1, w3, by rw [hr], by omega, by simp <;> omega, ?_⟩, ⟨by simp <;> omega, m3.clock + 1, by simp⟩, ⟨by simp <;> omega, fun j hj hn => ?_, (hkx.x.trans hkx.next ((Kp.new m' _ _).x.trans (Kp.new m' _ _).next q4x)).same rfl rfl⟩⟩
        · rw [hr]
          simp [q3]
          omega
        · have g1 : ¬ owns v j := fun h => by have := (nv _ h).1; omega
          have g2 := q4 j (by omega) g1
          rw [if_neg (by omega)] at g2
          simp [hn, g2, hkx.get j hj hn]
      · simp
        refine he _ _ _ (by simp) ?_
        have hle : i = L.length := by simp at h hi ⊢; omega
        subst hle
        simp
        rw [List.take_length] at hv
        obtain ⟨v1, hv1⟩ : ∃ v1, v1 = v := ⟨_, rfl⟩
        subst hv1
        have hbox' := hbox.kept hkx (by omega)
        have hcell' := hcell.kept hkx (by omega)
        have hM' := acc_keptX hM hkx (fun j hj e => by have := (acc_lt hM j hj).1; omega)
        have hout2 : has m' (m.next + 2) [int K, int N, .sc (.string ⟨⟨S⟩⟩), Mv, v1, .emp 0] := ⟨ol, ov, oe⟩
        have kp' : Kp m m' := hkx.kp hkp (fun j hj e => by omega)
        have vlo : ∀ j, owns v1 j → m.next + 3 ≤ j := fun j hj => by have := (nv j hj).1; have := hout.1; omega
        have MV : ∀ j, owns Mv j → ¬ owns v1 j := fun j hj h => by have := (nv j h).1; have := (acc_lt hM j hj).2; omega
        refine go_facts (fun s2 m2 => s2.at 1 = .sc (.bool true) ∧ s2.at 2 = .ptr m.next 0 ∧ s2.at 4 = .ptr (m.next + 1) 0 ∧ s2.at 5 = .ptr (m.next + 2) 0 ∧ s2.at 7 = int 0 ∧ m2 = m') ⟨by simp [a1], by simp [a2], by simp [a4], by simp [a5], by simp, rfl⟩ fun s2 m2 hB => ?_
        clear hn he e6 a1 a2 a4 a5 h1 h2 h4 h5 h6 be bv bl h hi hw
        obtain ⟨h1, h2, h4, h5, h7, rfl⟩ := hB
        clear hbox hcell hout oe
        have hbox := hbox'
        have hcell := hcell'
        have hout := hout2
        clear hbox' hcell' hout2
        have hv1 := hv
        have nv1 := nv
        clear hv nv ol ov
        refine go_count 7 T.length (fun i s m' => ∃ v, Acc m2 m' 6 true (encs (res (fb true) (T.take i))) v ∧ has m' (m.next + 2) [int K, int N, .sc (.string ⟨⟨S⟩⟩), Mv, v1, v] ∧ KpX (fun k => k = m.next + 2) m2 m') (by simp [h7]) (by omega) ⟨_, .inl ⟨by simp [res, encs], rfl⟩, hout, .refl _ _⟩ ?_
        rintro i s m' hi e7 ⟨v, hv, hout', hkx⟩ hs hw Q' hn he
        have a1 := (hs 1 (by kernel_rfl)).trans h1
        have a2 := (hs 2 (by kernel_rfl)).trans h2
        have a4 := (hs 4 (by kernel_rfl)).trans h4
        have a5 := (hs 5 (by kernel_rfl)).trans h5
        clear hs
        obtain ⟨bl, bv, be⟩ := hbox.kept hkx (by omega)
        obtain ⟨ol, ov, oe⟩ := hout'
        have nv : ∀ j, owns v j → m2.next ≤ j ∧ j < m'.next := acc_lt hv
        simp [e7, a2, be]
        refine goB_split (fun h => ?_) fun h => ?_
        · have hlt : i < T.length := by simpa using h
          obtain ⟨x, hx⟩ : ∃ x, T[i]? = some x := ⟨_, List.getElem?_eq_getElem hlt⟩
          have hxe : (encs T)[i]? = some (enc x) := by rw [encs_get, hx]; rfl
          have hxm : x ∈ T := List.mem_of_getElem? hx
          have sz := size_mem hxm
          have c := ih x (by omega) (fits_mem hf.2.2 hxm)
          have hsrc := src_one (m := m'.new (enc (x.re (fb true))).cells false) (id := m'.next) (c := some 1) (k := 6) (ag := true) (x := enc (x.re (fb true))) (w := m'.clock + 1) (f := false) rfl (by simp) (by simp) (by simp)
          obtain ⟨m3, q1, q2, ⟨w3, q3⟩, q4, q4x⟩ := acc_app2 (hv.kp (.new m' (enc (x.re (fb true))).cells false)) (okAll_encs _) el23 (zs := [enc (x.re (fb true))]) (zs' := [enc (x.re (fb true))]) (List.cons_ne_nil _ _) (by simp [okAll_cons, okAll_nil]) (by simp [fzvs]) (.refl _) (by simp; omega)
          simp at q1 q2 q3 q4
          have nw : ¬ owns v (m.next + 2) := fun h => by have := (nv _ h).1; have := hout.1; omega
          have go3 := q4 (m.next + 2) (by omega) nw
          rw [if_neg (by omega), oe] at go3
          have n1 : m.next + 2 ≠ m'.next := by omega
          have n2 : m.next ≠ m'.next := by omega
          have n3 : m.next + 2 ≠ m.next := by omega
          simp
          refine go_draw_of (by kernel_rfl) ?_
          simp [a1, a2, a5, e7, be, oe, aindexAddr_lst Try.underlying23 tsize25 hxe (enc_cells_length x), c.go, abuildSlice, fillAt, zeros, abuiltin, hsrc, q1, go3, n1, n2]
          refine goM_of (l := [(1, 8), (1, 9)]) (by kernel_rfl) (?_ : List.all _ _ = true) ?_
          · simp [metAt, metOk, rank, objOf, verKept, Region.wanted, Mem.ver, oe, n1, n2]
          simp [e7, hw]
          have ht : T.take (i + 1) = T.take i ++ [x] := by
            obtain ⟨h1, h2⟩ := List.getElem?_eq_some_iff.1 hx
            rw [List.take_succ_eq_append_getElem h1, h2]
          have hr : encs (res (fb true) (T.take (i + 1))) = encs (res (fb true) (T.take i)) ++ [enc (x.re (fb true))] := by rw [ht]; simp [encs_map, res_map]
          have hle : m2.next ≤ m'.next := hkx.next
          refine hn _ _ hlt (by simp) ⟨_, .inr ⟨by rw [hr]; simp, m'.next + 1, w3, by rw [hr], by omega, by simp <;> omega, ?_⟩, ⟨by simp <;> omega, m3.clock + 1, by simp⟩, ⟨by simp <;> omega, fun j hj hn => ?_, (hkx.x.trans hkx.next ((Kp.new m' _ _).x.trans (Kp.new m' _ _).next q4x)).same rfl rfl⟩⟩
          · rw [hr]
            simp [q3]
            omega
          · have g1 : ¬ owns v j := fun h => by have := (nv _ h).1; omega
            have g2 := q4 j (by omega) g1
            rw [if_neg (by omega)] at g2
            simp [hn, g2, hkx.get j hj hn]
        · simp
          refine he _ _ _ (by simp) ?_
          have hle : i = T.length := by simp at h hi ⊢; omega
          subst hle
          simp
          rw [List.take_length] at hv
          have hM2 := acc_keptX hM' hkx (fun j hj e => by have := (acc_lt hM j hj).1; omega)
          have hv2 := acc_keptX hv1 hkx (fun j hj e => by have := vlo j hj; omega)
          have kp2 : Kp m m' := hkx.kp kp' (fun j hj e => by omega)
          obtain ⟨cl, cv, ce⟩ := hcell.kept hkx (by omega)
          have n2lo : m.next + 3 ≤ m2.next := hout.1
          clear hn he e7 a1 a2 h1 h2 h4 h5 h7 be bv bl h hi hw hbox hcell hout
          have n3 : m.next + 2 ≠ m.next + 1 := by omega
          simp [a4, a5, oe, ce, zeroCells]
          have kx1 : KpX (fun k => k = m.next + 1) m' (m'.set (m.next + 1) [int K, int N, .sc (.string ⟨⟨S⟩⟩), Mv, v1, v]) := (KpX.refl (fun k => k = m.next + 1) m').set (id := m.next + 1) rfl _
          generalize m'.set (m.next + 1) [int K, int N, .sc (.string ⟨⟨S⟩⟩), Mv, v1, v] = m3 at *
          have A1 := acc_keptX hM2 kx1 (fun j hj e => by have := (acc_lt hM j hj).1; omega)
          have A2 := acc_keptX hv2 kx1 (fun j hj e => by have := vlo j hj; omega)
          have A3 := acc_keptX hv kx1 (fun j hj e => by have := (nv j hj).1; omega)
          obtain ⟨m4, f1, k1⟩ := acc_fzX A1 rfl (fun y hy => by obtain ⟨x, _, rfl⟩ := List.mem_map.1 hy; simp) (okAll_ints _)
          have B2 := acc_keptX A2 k1 (fun j hj e => MV j e hj)
          have B3 := acc_keptX A3 k1 (fun j hj e => by have := (nv j hj).1; have := (acc_lt hM' j e).2; omega)
          obtain ⟨m5, f2, k2⟩ := acc_fzX B2 rfl (fun y hy => by rw [encs_map] at hy; obtain ⟨x, _, rfl⟩ := List.mem_map.1 hy; simp) (okAll_encs _)
          have C3 := acc_keptX B3 k2 (fun j hj e => by have := (nv j hj).1; have := (nv1 j e).2; omega)
          obtain ⟨m6, f3, k3⟩ := acc_fzX C3 rfl (fun y hy => by rw [encs_map] at hy; obtain ⟨x, _, rfl⟩ := List.mem_map.1 hy; simp) (okAll_encs _)
          simp only [f1, f2, f3]
          refine ⟨by simp [Dat.re, enc], k3.kp (k2.kp (k1.kp (kx1.kp kp2 fun j hj e => by omega) fun j hj e => by have := (acc_lt hM j e).1; omega) fun j hj e => by have := vlo j e; omega) fun j hj e => by have := (nv j e).1; omega⟩
end Go.Proofs.Ytipmoeclkamciaa
