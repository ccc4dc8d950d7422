import Derived.Test.YtjiijacibpgciaaGreatTCover
/- Whether what is got may be. -/
set_option linter.unusedSimpArgs false
set_option linter.unusedVariables false
set_option linter.unusedSectionVars false
namespace Go.Proofs.YtjiijacibpgciaaGreat
set_option maxRecDepth 4000
open Go.V
attribute [local simp] Nat.add_assoc

mutual
/-- What is so if it may be. -/
def mayP : Got → Prop
  | .mk _ n D L => (n = 0 → L = [] ∧ chk D = 0) ∧ (n ≠ 0 → D = .mk 0 0 [] [] [] [] ∧ mayPs L)
def mayPs : List Got → Prop
  | [] => True
  | g :: l => mayP g ∧ mayPs l
end
theorem mayPs_of : ∀ {l : List Got}, (∀ g ∈ l, mayP g) → mayPs l
  | [], _ => by simp [mayPs]
  | x :: l, h => by rw [mayPs]; exact ⟨h x (by simp), mayPs_of fun g hg => h g (by simp [hg])⟩
theorem mayPs_mem : ∀ {l : List Got}, mayPs l → ∀ {g : Got}, g ∈ l → mayP g
  | x :: l, h, g, hg => by
    rw [mayPs] at h
    rcases List.mem_cons.1 hg with rfl | hg
    · exact h.1
    · exact mayPs_mem h.2 hg
mutual
def Got.size : Got → Nat
  | .mk _ _ _ L => 1 + gsizes L
def gsizes : List Got → Nat
  | [] => 0
  | g :: l => g.size + gsizes l
end
theorem gsize_mem : ∀ {l : List Got} {g : Got}, g ∈ l → g.size ≤ gsizes l
  | x :: l, g, h => by
    rw [gsizes]
    rcases List.mem_cons.1 h with rfl | h
    · omega
    · have := gsize_mem h; omega
theorem take_gs {L : List Got} {i : Nat} {x : Got} (h : L[i]? = some x) : gsizes (L.take (i + 1)) = gsizes (L.take i) + x.size := by
  obtain ⟨hi, e⟩ := List.getElem?_eq_some_iff.1 h
  have key : ∀ (a : List Got), gsizes (a ++ [x]) = gsizes a + x.size := by
    intro a
    induction a with
    | nil => simp [gsizes]
    | cons y a ih => rw [List.cons_append, gsizes, ih, gsizes]; omega
  rw [List.take_succ_eq_append_getElem hi, e, key]
/-- What a call of may does. -/
def MayK (P : Nat) (g : Got) (k : Int) (m : Mem) (v : AV) (m' : Mem) : Prop := ∃ b : Bool, v = .sc (.bool b) ∧ (b = true → mayP g) ∧ (∃ k' : Int, has m' P [int k'] ∧ (b = true → k' = k + g.size ∧ k' ≤ 4096)) ∧ KpC (fun i => i = P) m m'

set_option maxHeartbeats 8000000 in
theorem t16 (P : Nat) : ∀ (n : Nat) (g : Got), g.size ≤ n → g.fits → ∀ (k : Int) (m : Mem), 0 ≤ k → k ≤ 4096 → has m P [int k] → wph Tryz.prog cw (.func 16) [encG g, .ptr P 0] m (MayK P g k m)
  | 0, g, hs, _ => by cases g; simp [Got.size] at hs
  | n + 1, g, hs, hf => by
    intro k m hk0 hk4 hP
    have ih := t16 P n
    obtain ⟨pl, pv, pe⟩ := hP
    obtain ⟨hfI, hfD, hfn, hlL, hfL⟩ := Got.fits_i hf
    refine wph_go Tryz.func16 rfl rfl (by simp [Tryz.f16]) (by simp [Tryz.f16]) fun Q hQ => ?_
    simp only [Tryz.f16, show cw.keepRes 16 = false from rfl, show cw.keepArgs 16 = false from rfl] at hQ ⊢
    obtain ⟨I, dp, D, L⟩ := g
    simp only [Got.id, Got.dat, Got.deep, Got.subs] at hfI hfD hfn hlL hfL
    rw [Got.size] at hs
    have pn : P ≠ m.next := by omega
    have pn' : m.next ≠ P := Ne.symm pn
    have hbox : (encG (.mk I dp D L)).cells = gcs I dp D (.lst (encGs L)) := by simp [encG, AV.cells]
    obtain ⟨b2, h28⟩ : ∃ b, Gives Tryz.prog cw 28 [enc I] (.sc (.bool b)) := ⟨_, t28 I hfI⟩
    obtain ⟨k1, hk1⟩ : ∃ k1, k1 = IntKind.i64.wrap (k + 1) := ⟨_, rfl⟩
    have hk1e : k1 = k + 1 := by rw [hk1]; exact IntWalk.i64_in _ (by omega)
    obtain ⟨M1, hM1⟩ : ∃ M1, M1 = (m.new (gcs I dp D (.lst (encGs L))) false).set P [int k1] := ⟨_, rfl⟩
    have kc1 : KpC (fun i => i = P) m M1 := by
      rw [hM1]
      refine ⟨by simp, fun id hi hx => ?_, fun id hi hx => ?_⟩
      · have a1 : id ≠ m.next := by omega
        have a2 : id ≠ P := hx
        simp [a1, a2]
      · simp
    have hP1 : has M1 P [int k1] := by rw [hM1]; exact ⟨by simp; omega, m.clock + 2, by simp⟩
    have hB1 : has M1 m.next (gcs I dp D (.lst (encGs L))) := by rw [hM1]; exact ⟨by simp, m.clock + 1, by simp [pn']⟩
    have fin : ∀ (b : Bool) (m' : Mem), (b = true → mayP (.mk I dp D L)) → (b = true → L = [] ∧ k1 ≤ 4096) → Kp M1 m' → MayK P (.mk I dp D L) k m (.sc (.bool b)) m' := fun b m' h h2 kk => ⟨b, rfl, h, ⟨k1, hP1.kp kk, fun hb => by
      obtain ⟨rfl, q⟩ := h2 hb
      exact ⟨by rw [hk1e]; simp [Got.size, gsizes], q⟩⟩, kc1.trans (.of (.of kk))⟩
    simp [hbox, pe, pn, ← hk1]
    rw [← hM1]
    have out : ∀ (s' : Sl) (m' : Mem), s'.at 4 = .sc (.bool false) → Kp M1 m' → Q .ret s' m' := fun s' m' h kk => hQ _ _ _ (leave_sc (.inr rfl) h (fin false m' (by simp) (by simp) kk))
    obtain ⟨bl1, bv1, be1⟩ := hB1
    obtain ⟨pl1, pv1, pe1⟩ := hP1
    by_cases q1 : 4096 < k1
    · simp [q1, undefV, undef]
      exact out _ _ (by simp) (.refl _)
    cases b2 with
    | false =>
      simp [q1, be1, pe1, h28.go, undefV, undef]
      exact out _ _ (by simp) (.refl _)
    | true =>
    cases q3 : dotsB I with
    | true =>
      simp [q1, be1, pe1, h28.go, (t29 I).go, q3, undefV, undef]
      exact out _ _ (by simp) (.refl _)
    | false =>
    by_cases q4 : dp < 0
    · simp [q1, be1, pe1, h28.go, (t29 I).go, q3, q4, undefV, undef]
      exact out _ _ (by simp) (.refl _)
    by_cases q5 : 64 < dp
    · simp [q1, be1, pe1, h28.go, (t29 I).go, q3, q4, q5, undefV, undef]
      exact out _ _ (by simp) (.refl _)
    by_cases q6 : dp = 0
    · subst q6
      cases L with
      | cons x L =>
        have hne : ¬ ((L.length : Int) + 1 = 0) := by omega
        simp [q1, be1, pe1, h28.go, (t29 I).go, q3, undefV, undef, encGs, hne]
        refine hQ _ _ _ (leave_sc (.inr rfl) at_set_eq ?_)
        exact fin false _ (by simp) (by simp) (.refl _)
      | nil =>
        simp [q1, be1, pe1, h28.go, (t29 I).go, q3, undefV, undef, encGs, (cw_gives (g14 D hfD)).go]
        refine hQ _ _ _ (leave_sc (.inr rfl) at_set_eq ?_)
        refine fin _ _ (fun h => ?_) (fun _ => ⟨rfl, by omega⟩) (.refl _)
        rw [mayP]
        exact ⟨fun _ => ⟨rfl, by simpa using h⟩, fun h => absurd rfl h⟩
    · simp [q1, be1, pe1, h28.go, (t29 I).go, q3, q4, q5, q6]
      obtain ⟨K, N, S, M, DL, DT⟩ := D
      have fd := alone_fits hfD
      have kz : Kp M1 ((M1.new zeroCells false).set M1.next (enc (.mk K N S M DL DT)).cells) := by simp
      have f1 := fd.m
      have f2 := fd.l
      have f3 := fd.t
      have w1 : IntKind.i64.wrap ((M.length : Int) + DL.length) = (M.length : Int) + DL.length := IntWalk.i64_in _ (by omega)
      have w2 : IntKind.i64.wrap ((M.length : Int) + (DL.length + DT.length)) = (M.length : Int) + (DL.length + DT.length) := IntWalk.i64_in _ (by omega)
      have w2' : IntKind.i64.wrap ((M.length : Int) + DL.length + DT.length) = (M.length : Int) + DL.length + DT.length := IntWalk.i64_in _ (by omega)
      by_cases z1 : K = 0
      rotate_left
      · simp [enc, z1, undefV, undef]
        exact out _ _ (by simp) (by simp [enc])
      by_cases z2 : N = 0
      rotate_left
      · simp [enc, z1, z2, undefV, undef]
        exact out _ _ (by simp) (by simp [enc, z1])
      by_cases z3 : S = []
      rotate_left
      · simp [enc, z1, z2, z3, undefV, undef]
        exact out _ _ (by simp) (by simp [enc, z1, z2])
      by_cases z4 : M.length + DL.length + DT.length = 0
      rotate_left
      · simp [enc, z1, z2, z3, w1, w2, w2', undefV, undef]
        have z4' : ¬ ((M.length : Int) + DL.length + DT.length = 0) := by omega
        simp [z4']
        exact out _ _ (by simp) (by simp [enc, z1, z2, z3])
      obtain rfl : M = [] := List.eq_nil_of_length_eq_zero (by omega)
      obtain rfl : DL = [] := List.eq_nil_of_length_eq_zero (by omega)
      obtain rfl : DT = [] := List.eq_nil_of_length_eq_zero (by omega)
      subst z1 z2 z3
      have w0 : IntKind.i64.wrap 0 = 0 := by decide
      obtain ⟨M2, hM2⟩ : ∃ M2, M2 = (M1.new zeroCells false).set M1.next (enc (.mk 0 0 [] [] [] [])).cells := ⟨_, rfl⟩
      rw [← hM2] at kz
      simp [enc, encs] at hM2
      have hB2 := (show has M1 _ _ from ⟨bl1, bv1, be1⟩).kp kz
      obtain ⟨bl2, bv2, be2⟩ := hB2
      have n12 : m.next ≠ M1.next := by omega
      have gD : M2.get M1.next = some (.cells [int 0, int 0, .sc (.string ⟨⟨[]⟩⟩), .lst [], .lst [], .lst []] false (M1.clock + 2)) := by rw [hM2]; simp
      simp [enc, encs, w0, ← hM2, be2, gD]
      refine go_count 83 L.length (fun i s' m' => KpC (fun i => i = P) m m' ∧ Kp M1 M2 ∧ (∃ k' : Int, has m' P [int k'] ∧ k' = k + 1 + gsizes (L.take i) ∧ k' ≤ 4096) ∧ has m' m.next (gcs I dp (.mk 0 0 [] [] [] []) (.lst (encGs L))) ∧ ∀ j x, j < i → L[j]? = some x → mayP x) (by simp) (by omega) ⟨kc1.trans (.of (.of kz)), kz, ⟨k1, (show has M1 _ _ from ⟨pl1, pv1, pe1⟩).kp kz, by simp [hk1e, gsizes], by omega⟩, ⟨bl2, bv2, be2⟩, fun _ _ h => by omega⟩ ?_
      rintro i s m' hi e83 ⟨hkc, -, ⟨k', ⟨pl', pv', pe'⟩, hke, hk4'⟩, ⟨bl', bv', be'⟩, hall⟩ hsame hw Q' hn he
      have e1 : s.at 1 = .ptr P 0 := (hsame 1 (by kernel_rfl)).trans (by simp)
      have e2 : s.at 2 = .ptr m.next 0 := (hsame 2 (by kernel_rfl)).trans (by simp)
      have e81 : s.at 81 = .lst (encGs L) := (hsame 81 (by kernel_rfl)).trans (by simp)
      have e82 : s.at 82 = int L.length := (hsame 82 (by kernel_rfl)).trans (by simp)
      clear hsame
      simp [e83, e82]
      refine goB_split (fun h => ?_) fun h => ?_
      · have hlt : i < L.length := by simpa using h
        obtain ⟨x, hx⟩ : ∃ x, L[i]? = some x := ⟨_, List.getElem?_eq_getElem hlt⟩
        have hxL := List.mem_of_getElem? hx
        have hx' : (encGs L)[i]? = some (encG x) := by rw [encGs_get, hx]; rfl
        have hsz := gsize_mem hxL
        have hxf := gfits_mem hfL hxL
        have n1 : m.next ≠ m'.next := by omega
        have n2 : P ≠ m'.next := by omega
        have wd : IntKind.i64.wrap (dp - 1) = dp - 1 := IntWalk.i64_in _ (by omega)
        simp [e83, e81, e1, e2, aindexAddr_lst Tryz.underlying26 tsize44 hx' (encG_cells_length x), encG_cells, be', n1, wd]
        obtain ⟨M3, hM3⟩ : ∃ M3, M3 = (m'.new [AV.sc (Value.int IntKind.i64 0), AV.sc (Value.int IntKind.i64 0), AV.sc (Value.string ⟨⟨[]⟩⟩), AV.emp 0, AV.emp 0, AV.emp 0, AV.sc (Value.int IntKind.i64 0), AV.sc (Value.int IntKind.i64 0), AV.sc (Value.int IntKind.i64 0), AV.sc (Value.string ⟨⟨[]⟩⟩), AV.emp 0, AV.emp 0, AV.emp 0, AV.emp 0] false).set m'.next (gcs x.id x.deep x.dat (.lst (encGs x.subs))) := ⟨_, rfl⟩
        have k3 : Kp m' M3 := by rw [hM3]; simp
        have g3 : M3.get m'.next = some (.cells (gcs x.id x.deep x.dat (.lst (encGs x.subs))) false (m'.clock + 2)) := by rw [hM3]; simp
        rw [← hM3]
        obtain ⟨bl3, bv3, be3⟩ := (show has m' _ _ from ⟨bl', bv', be'⟩).kp k3
        have hP3 := (show has m' _ _ from ⟨pl', pv', pe'⟩).kp k3
        have kc3 : KpC (fun i => i = P) m M3 := hkc.trans (.of (.of k3))
        have bad : ∀ (s2 : Sl) (m2 : Mem), s2.at 4 = .sc (.bool false) → KpC (fun i => i = P) m m2 → (∃ k : Int, has m2 P [int k]) → Q .ret s2 m2 := fun s2 m2 h kc ⟨q, hp⟩ => hQ _ _ _ (leave_sc (.inr rfl) h ⟨false, rfl, by simp, ⟨q, hp, by simp⟩, kc⟩)
        by_cases r1 : x.deep = dp - 1
        rotate_left
        · simp [r1, undefV, undef]
          refine he _ _ _ (by simp) ?_
          simp
          exact bad _ _ (by simp) kc3 ⟨_, hP3⟩
        cases r2 : sam x.id I with
        | false =>
          simp [r1, g3, be3, e2, (cw_gives (g31 _ _ (Got.fits_i hxf).1 hfI)).go, r2, undefV, undef]
          refine he _ _ _ (by simp) ?_
          simp
          exact bad _ _ (by simp) kc3 ⟨_, hP3⟩
        | true =>
          simp [r1, g3, be3, e2, (cw_gives (g31 _ _ (Got.fits_i hxf).1 hfI)).go, r2, e1]
          rw [show AV.agg (gcs x.id (dp - 1) x.dat (.lst (encGs x.subs))) = encG x by rw [← r1]; exact gcs_agg x]
          refine goH_of (ih x (by omega) hxf _ _ (by omega) hk4' hP3) ?_
          rintro v M4 ⟨b, rfl, hb, ⟨k4, hP4, hk4e⟩, kc4⟩
          cases b with
          | false =>
            simp
            refine he _ _ _ (by simp) ?_
            simp
            exact bad _ _ (by simp) (kc3.trans kc4) ⟨_, hP4⟩
          | true =>
            simp [e83, hw]
            refine hn _ _ hlt (by simp) ⟨kc3.trans kc4, kz, ⟨k4, hP4, by rw [(hk4e rfl).1, hke, take_gs hx]; omega, (hk4e rfl).2⟩, (show has M3 _ _ from ⟨bl3, bv3, be3⟩).kc kc4 (by omega), fun j y hj hy => ?_⟩
            rcases Nat.lt_or_ge j i with h2 | h2
            · exact hall j y h2 hy
            · obtain rfl : j = i := by omega
              rw [hx] at hy
              cases hy
              exact hb rfl
      · have hge : i = L.length := by have := of_decide_eq_false h; omega
        subst hge
        simp
        refine he _ _ _ (by simp) ?_
        simp
        refine hQ _ _ _ (leave_sc (.inr rfl) at_set_eq ?_)
        refine ⟨true, rfl, fun _ => ?_, ⟨k', ⟨pl', pv', pe'⟩, fun _ => ⟨by rw [hke, List.take_length, Got.size]; omega, hk4'⟩⟩, hkc⟩
        rw [mayP]
        refine ⟨fun h => absurd h q6, fun _ => ⟨rfl, mayPs_of fun g hg => ?_⟩⟩
        obtain ⟨j, hj, e⟩ := List.mem_iff_getElem.1 hg
        exact hall j g hj (by rw [List.getElem?_eq_getElem hj, e])
end Go.Proofs.YtjiijacibpgciaaGreat
