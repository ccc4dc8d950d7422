import Derived.Test.YtnhcmcfgemoehaaGreatASmall
/- Lists: turned about twice, laid together. -/
set_option linter.unusedSimpArgs false
set_option linter.unusedVariables false
set_option linter.unusedSectionVars false
namespace Go.Proofs.YtnhcmcfgemoehaaGreat
set_option maxRecDepth 4000
open Go.V
attribute [local simp] Nat.add_assoc

section
variable {X X' : Nat → Prop} {A : Nat} {a b : ArM} {m m1 m' : Mem} {id : Nat} {v : Val}
theorem Up.pre (k : Kp m m1) (h : Up X A a m1 m') : Up X A a m m' := Up.after (.of (.of k)) (fun j h => .inl h) h
/-- A box with a value, apart from an arena. -/
def Bx (X : Nat → Prop) (m : Mem) (id : Nat) (v : Val) : Prop := ¬ X id ∧ id < m.next ∧ ∃ w, m.get id = some (.cells [int v.1, int v.2] false w)
theorem Bx.kp (h : Bx X m id v) (k : Kp m m') : Bx X m' id v := ⟨h.1, Nat.lt_of_lt_of_le h.2.1 k.next, h.2.2.imp fun w hw => (k.get id h.2.1).trans hw⟩
theorem Bx.up (h : Bx X m id v) (k : KpC X m m') (hx : ∀ j, X' j → (X j ∨ m.next ≤ j) ∧ j < m'.next) : Bx X' m' id v :=
  ⟨fun q => (hx id q).1.elim h.1 fun q => by have := h.2.1; omega, Nat.lt_of_lt_of_le h.2.1 k.next, h.2.2.imp fun w hw => (k.get id h.2.1 h.1).trans hw⟩
theorem Bx.new (hX : ∀ j, X j → j < m.next) (v : Val) : Bx X ((m.new [int 0, int 0] false).set m.next [int v.1, int v.2]) m.next v := ⟨fun h => by have := hX _ h; omega, by simp, _, by simp; rfl⟩
theorem call1 {n : Int} {x : Val} {K : AV → Mem → Prop} (h : wph Tryz.prog ca (.func 22) [.ptr A 0, int n, .lst [valA x]] ((m.new [int x.1, int x.2] false).mark m.next (flat (vals [x])) (m.clock + 1)) K) : wph Tryz.prog ca (.func 22) [.ptr A 0, int n, .sl m.next 0 1 2 true (some 1)] (m.new [int x.1, int x.2] false) K := by
  have e := fz1_row (m := m.new [int x.1, int x.2] false) (id := m.next) (k := 2) (ag := true) (cap := some 1) (ys := vals [x]) (v := m.clock + 1) (f := false) rfl (by simp [vals, flat_cons, flat_nil]) (vals_row _) (vals_ok _)
  rw [vals_length] at e
  simp at e
  refine wph_fz Tryz.func22 rfl rfl rfl ?_ (by simp [fzvs]) h
  simp [fzvs, fzv, e]
  rfl
theorem call2 {n : Int} {x y : Val} {K : AV → Mem → Prop} (h : wph Tryz.prog ca (.func 22) [.ptr A 0, int n, .lst [valA x, valA y]] ((m.new [int x.1, int x.2, int y.1, int y.2] false).mark m.next (flat (vals [x, y])) (m.clock + 1)) K) : wph Tryz.prog ca (.func 22) [.ptr A 0, int n, .sl m.next 0 2 2 true (some 2)] (m.new [int x.1, int x.2, int y.1, int y.2] false) K := by
  have e := fz1_row (m := m.new [int x.1, int x.2, int y.1, int y.2] false) (id := m.next) (k := 2) (ag := true) (cap := some 2) (ys := vals [x, y]) (v := m.clock + 1) (f := false) rfl (by simp [vals, flat_cons, flat_nil]) (vals_row _) (vals_ok _)
  rw [vals_length] at e
  simp at e
  refine wph_fz Tryz.func22 rfl rfl rfl ?_ (by simp [fzvs]) h
  simp [fzvs, fzv, e]
  rfl
theorem kp1 (cs cs' : List AV) (w : Nat) : Kp m ((m.new cs false).mark m.next cs' w) := (Kp.new _ _ _).mark (Nat.le_refl _) _ _
theorem q25 (n : Int) : Gives Tryz.prog ca 25 [int n] (valA (1, n)) := by
  refine gives_run Tryz.func25 rfl rfl rfl rfl (by simp) (by simp [Tryz.f25]) (by simp [Tryz.f25]) fun m => ?_
  simp [Tryz.f25, show ca.keepRes 25 = false from rfl, abuild, placesOf, fillAt]
  rfl
end
/-- An arena that was made since. -/
structure Sta (X : Nat → Prop) (A : Nat) (a : ArM) (m0 M : Mem) : Prop where
  ar : Ar X A a M
  own : ∀ j, X j → m0.next ≤ j ∧ j < M.next
  kp : Kp m0 M
  inv : Inv a
theorem Sta.call {X : Nat → Prop} {A : Nat} {a b : ArM} {m0 M M' : Mem} (h : Sta X A a m0 M) (hu : Up X A b M M') (hb : Inv b) (v : Val) : M.next ≤ M'.next ∧ ∃ X', Sta X' A b m0 ((M'.new [int 0, int 0] false).set M'.next [int v.1, int v.2]) ∧ (∀ id u, Bx X M id u → Bx X' ((M'.new [int 0, int 0] false).set M'.next [int v.1, int v.2]) id u ∧ id ≠ M'.next ∧ ∃ w, M'.get id = some (.cells [int u.1, int u.2] false w)) ∧ Bx X' ((M'.new [int 0, int 0] false).set M'.next [int v.1, int v.2]) M'.next v := by
  obtain ⟨X', h1, kc, h2⟩ := hu.out
  have kk : Kp M' ((M'.new [int 0, int 0] false).set M'.next [int v.1, int v.2]) := by simp
  have kn := kc.next
  have k0 := h.kp.next
  have kM : Kp m0 M' := ⟨by omega, fun j hj => (kc.get j (by omega) fun q => by have := (h.own j q).1; omega).trans (h.kp.get j hj), fun j hj => have q := kc.x j (by omega) fun q => by have := (h.own j q).1; omega
    ⟨q.1.trans (h.kp.x j hj).1, q.2.trans (h.kp.x j hj).2⟩⟩
  refine ⟨kn, X', ⟨h1.kp kk, fun j hj => ⟨?_, by have := (h2 j hj).2; simp; omega⟩, kM.trans kk, hb⟩, fun id u hB => ⟨(hB.up kc h2).kp kk, by have := (hB.up kc h2).2.1; omega, (hB.up kc h2).2.2⟩, Bx.new (fun j hj => (h2 j hj).2) v⟩
  rcases (h2 j hj).1 with q | q
  · exact (h.own j q).1
  · omega
theorem Sta.more {X : Nat → Prop} {A : Nat} {a : ArM} {m0 M M' : Mem} (h : Sta X A a m0 M) (k : Kp M M') : Sta X A a m0 M' := ⟨h.ar.kp k, fun j hj => ⟨(h.own j hj).1, by have := (h.own j hj).2; have := k.next; omega⟩, h.kp.trans k, h.inv⟩
theorem rem_nat {t : TypeId} {x y : Operand} (a b : Nat) (h : b ≠ 0) : abin Tryz.prog .rem t x y (int a) (int b) = some (int ((a % b : Nat) : Int)) := by
  have h' : (b : Int) ≠ 0 := by omega
  have e : abin Tryz.prog .rem t x y (int a) (int b) = some (int ((a : Int).tmod b)) := by
    simp only [abin, plain, eqGuard, binOp, Op.intDiv]; simp [h]; rfl
  rw [e, ← Int.ofNat_tmod]
theorem of_chk {a : ArM} {d : Dat} (h : (ofM d a).2.2 = 0) : chk d = 0 := by
  unfold ofM at h
  split at h
  · assumption
  · exact h
def lenM (a : ArM) (v : Val) : Val := if (listM a 1024 v).2 ≠ 0 then (0, 0) else (1, ((listM a 1024 v).1.length : Int))
theorem do23' {X : Nat → Prop} {A : Nat} {a : ArM} {m : Mem} (hA : Ar X A a m) (ha : Inv a) {v : Val} (hv : goodM a v = true) : wph Tryz.prog ca (.func 22) [.ptr A 0, int 23, .lst [valA v]] m fun r m' => r = .tup [valA (lenM a v), int (listM a 1024 v).2] ∧ Up X A a m m' := by
  refine wph_mono (do23 hA ha hv) ?_
  rintro r m' ⟨h, hu⟩
  refine ⟨?_, hu⟩
  rw [h, lenM]
  split
  · rfl
  · rename_i h0
    have : (listM a 1024 v).2 = 0 := by omega
    rw [this]
abbrev u16 (n : Nat) : AV := .sc (.int .u16 n)
set_option maxHeartbeats 16000000 in
theorem q4 (l : List Dat) (hf : ∀ d ∈ l, d.fits) (i j k : Nat) (hi : i < 65536) (hj : j < 65536) (hk : k < 65536) (m : Mem) : EH Tryz.prog ca (.func 4) [.lst (encs l), u16 i, u16 j, u16 k] m (.sc (.bool true)) m := by
  refine eh_run Tryz.func4 rfl rfl rfl rfl (args1 := [.lst (encs l), u16 i, u16 j, u16 k]) (m1 := m) (by simp [fzvs]) (by simp) (by simp [Tryz.f4]) (by simp [Tryz.f4]) ?_
  simp only [Tryz.f4, show ca.keepRes 4 = false from rfl]
  have ln : ∀ (R : TypeId) (m : Mem), abuiltin Tryz.prog .len #[43] R [.lst (encs l)] m = some (int l.length, m) := fun R m => by rw [alen_lst Tryz.underlying43]; simp
  simp [(q7 m).go, (q19 l hf m).go]
  cases hs : smallB l with
  | false =>
    simp [undefV, undef, (q7 m).go]
  | true =>
  have hl12 : l.length ≤ 12 := by simp [smallB] at hs; omega
  simp [ln]
  by_cases h2 : l.length < 2
  · have h2' : (l.length : Int) < 2 := by omega
    simp [h2', (q7 m).go]
  have h2' : ¬ (l.length : Int) < 2 := by omega
  have lne : ¬ (l.length : Int) = 0 := by omega
  obtain ⟨M1, hM1⟩ : ∃ M1, M1 = m.newMap.new [int 4000, .emp 0, .emp 0, .mp m.next] false := ⟨_, rfl⟩
  have hA1 := ar_new (m := m) (n := 4000) (by decide) (by decide)
  rw [← hM1] at hA1
  have k1 : Kp m M1 := by rw [hM1]; exact (Kp.refl m).newMap.newr _ _
  have n1 : M1.next = m.next + 2 := by rw [hM1]; simp
  have qn := q20 (m := m) (n := 4000) (by decide) (by decide)
  rw [← hM1] at qn
  clear hM1
  obtain ⟨A, hAe⟩ : ∃ A, A = m.next + 1 := ⟨_, rfl⟩
  rw [← hAe] at hA1 qn
  have wI : ∀ i : Nat, i < 65536 → IntKind.i64.wrap (i : Int) = (i : Int) := fun i h => IntWalk.i64_in _ (by omega)
  have ne0 : l.length ≠ 0 := by omega
  obtain ⟨I, hI⟩ : ∃ I, I = i % l.length := ⟨_, rfl⟩
  obtain ⟨J, hJ⟩ : ∃ J, J = j % l.length := ⟨_, rfl⟩
  have rI : ∀ (t : TypeId) (x y : Operand), abin Tryz.prog .rem t x y (int i) (int l.length) = some (int I) := fun t x y => by rw [rem_nat i l.length ne0, hI]
  have rJ : ∀ (t : TypeId) (x y : Operand), abin Tryz.prog .rem t x y (int j) (int l.length) = some (int J) := fun t x y => by rw [rem_nat j l.length ne0, hJ]
  obtain ⟨d1, hd1⟩ : ∃ d, l[I]? = some d := ⟨_, List.getElem?_eq_getElem (by rw [hI]; exact Nat.mod_lt _ (by omega))⟩
  obtain ⟨d2, hd2⟩ : ∃ d, l[J]? = some d := ⟨_, List.getElem?_eq_getElem (by rw [hJ]; exact Nat.mod_lt _ (by omega))⟩
  have ix : ∀ {q : Nat} {d : Dat}, l[q]? = some d → aindexAddr Tryz.prog 43 (.lst (encs l)) (int q) = some ((enc d).cptr 0) := fun {q d} h => aindexAddr_lst (P := Tryz.prog) (q := .i64) Tryz.underlying43 tsize56 (by rw [encs_get, h]; rfl) (enc_cells_length d)
  have m1 := List.mem_of_getElem? hd1
  have m2 := List.mem_of_getElem? hd2
  have s1 := small_siz hs m1
  have s2 := small_siz hs m2
  have enc_agg : ∀ d : Dat, AV.agg (enc d).cells = enc d := fun d => by cases d; rfl
  simp [h2', qn.go, wI i hi, rI, ix hd1, enc_agg]
  have S1 : Sta (fun j => m.next ≤ j ∧ j < M1.next) A ⟨4000, [], []⟩ m M1 := ⟨hA1.cut, fun j h => h, k1, fun i c h => by simp at h⟩
  refine goH_of (q21 S1.ar d1 (hf d1 m1)) ?_
  rintro _ M2 ⟨rfl, hup1⟩
  have P1 := made_of S1.inv d1
  obtain ⟨r1, hr1⟩ : ∃ r, r = ofM d1 ⟨4000, [], []⟩ := ⟨_, rfl⟩
  rw [← hr1] at P1 hup1 ⊢
  obtain ⟨a1, x, e1⟩ := r1
  simp only at P1 hup1 ⊢
  obtain ⟨n2, X2, S2, _, B11⟩ := S1.call hup1 P1.2.1 x
  simp [wI j hj, rJ, ix hd2, enc_agg, ln]
  obtain ⟨N2, hN2⟩ : ∃ N, N = (M2.new [int 0, int 0] false).set M2.next [int x.1, int x.2] := ⟨_, rfl⟩
  rw [← hN2] at S2 B11 ⊢
  clear hN2
  refine goH_of (q21 S2.ar d2 (hf d2 m2)) ?_
  rintro _ M3 ⟨rfl, hup2⟩
  have P2 := made_of S2.inv d2
  obtain ⟨r2, hr2⟩ : ∃ r, r = ofM d2 a1 := ⟨_, rfl⟩
  rw [← hr2] at P2 hup2 ⊢
  obtain ⟨a2, y, e2⟩ := r2
  simp only at P2 hup2 ⊢
  obtain ⟨n3, X3, S3, B3, B12⟩ := S2.call hup2 P2.2.1 y
  have B11 := (B3 _ _ B11).1
  simp
  obtain ⟨N3, hN3⟩ : ∃ N, N = (M3.new [int 0, int 0] false).set M3.next [int y.1, int y.2] := ⟨_, rfl⟩
  rw [← hN3] at S3 B11 B12 ⊢
  clear hN3 B3
  by_cases he1 : e1 = 0
  rotate_left
  · simp [he1, undefV, undef]
    exact S3.kp
  by_cases he2 : e2 = 0
  rotate_left
  · simp [he1, he2]
    exact S3.kp
  subst he1
  subst he2
  have gx : goodM a2 x = true := P2.1.good (P1.2.2.2.2 rfl)
  have gy : goodM a2 y = true := P2.2.2.2.2 rfl
  obtain ⟨w11, v11⟩ := B11.2.2
  simp [v11, abuildSlice, zeros, fillAt]
  refine goH_of (call1 (do23' (S3.ar.kp (kp1 _ _ _)) S3.inv gx)) ?_
  rintro _ M4 ⟨rfl, hu4⟩
  obtain ⟨n4, X4, S4, B4, B14⟩ := S3.call (hu4.pre (kp1 _ _ _)) S3.inv (lenM a2 x)
  obtain ⟨B11, q11, u11, r11⟩ := B4 _ _ B11
  obtain ⟨B12, q12, u12, r12⟩ := B4 _ _ B12
  simp [r12, q12, abuildSlice, zeros, fillAt]
  obtain ⟨N4, hN4⟩ : ∃ N, N = (M4.new [int 0, int 0] false).set M4.next [int (lenM a2 x).1, int (lenM a2 x).2] := ⟨_, rfl⟩
  have nN4 : M4.next + 1 = N4.next := by rw [hN4]; simp
  rw [← hN4] at S4 B11 B12 B14 ⊢
  rw [nN4]
  clear hN4 B4
  refine goH_of (call1 (do23' (S4.ar.kp (kp1 _ _ _)) S4.inv gy)) ?_
  rintro _ M5 ⟨rfl, hu5⟩
  obtain ⟨n5, X5, S5, B5, B16⟩ := S4.call (hu5.pre (kp1 _ _ _)) S4.inv (lenM a2 y)
  obtain ⟨B11, q11, u11, r11⟩ := B5 _ _ B11
  obtain ⟨B12, q12, u12, r12⟩ := B5 _ _ B12
  obtain ⟨B14, q14, u14, r14⟩ := B5 _ _ B14
  by_cases px : (listM a2 1024 x).2 = 0
  rotate_left
  · have e14 : lenM a2 x = (0, 0) := by rw [lenM, if_pos px]
    rw [e14] at r14
    have vz : ∀ xo yo, abin Tryz.prog .eql 51 xo yo (.agg [int 0, int 0]) (.agg [int 0, int 0]) = some (.sc (.bool true)) := fun xo yo => by simpa [valA] using val_eq (xo := xo) (yo := yo) (0, 0) (0, 0)
    simp [px, r14, q14, build51, vz, undefV, undef]
    exact S5.kp
  by_cases py : (listM a2 1024 y).2 = 0
  rotate_left
  · have e16 : lenM a2 y = (0, 0) := by rw [lenM, if_pos py]
    have vz : ∀ xo yo, abin Tryz.prog .eql 51 xo yo (.agg [int 0, int 0]) (.agg [int 0, int 0]) = some (.sc (.bool true)) := fun xo yo => by simpa [valA] using val_eq (xo := xo) (yo := yo) (0, 0) (0, 0)
    have e14 : lenM a2 x = (1, ((listM a2 1024 x).1.length : Int)) := by rw [lenM, if_neg (by simp [px])]
    have vx : ∀ xo yo, abin Tryz.prog .eql 51 xo yo (.agg [int 1, int ((listM a2 1024 x).1.length : Int)]) (.agg [int 0, int 0]) = some (.sc (.bool false)) := fun xo yo => by simpa [valA] using val_eq (xo := xo) (yo := yo) (1, ((listM a2 1024 x).1.length : Int)) (0, 0)
    rw [e14] at r14
    rw [e16] at S5
    simp [px, py, r14, q14, build51, vz, vx, e16]
    exact S5.kp
  simp [px, py, r11, q11, abuildSlice, zeros, fillAt]
  obtain ⟨N5, hN5⟩ : ∃ N, N = (M5.new [int 0, int 0] false).set M5.next [int (lenM a2 y).1, int (lenM a2 y).2] := ⟨_, rfl⟩
  have nN5 : M5.next + 1 = N5.next := by rw [hN5]; simp
  rw [← hN5] at S5 B11 B12 B14 B16 ⊢
  rw [nN5]
  clear hN5 B5
  obtain ⟨lx, hlx⟩ : ∃ l, l = (listM a2 1024 x).1 := ⟨_, rfl⟩
  obtain ⟨ly, hly⟩ : ∃ l, l = (listM a2 1024 y).1 := ⟨_, rfl⟩
  have chx : Chain a2 (4, 0) lx x := by rw [hlx]; exact list_chain S5.inv 1024 x gx px
  have chy : Chain a2 (4, 0) ly y := by rw [hly]; exact list_chain S5.inv 1024 y gy py
  have ex : lenM a2 x = (1, (lx.length : Int)) := by rw [lenM, if_neg (by simp [px]), hlx]
  have ey : lenM a2 y = (1, (ly.length : Int)) := by rw [lenM, if_neg (by simp [py]), hly]
  have z1 : d1.size ≤ 300 := by
    have h := siz_eq (of_chk (a := ⟨4000, [], []⟩) (d := d1) (by rw [← hr1]))
    omega
  have z2 : d2.size ≤ 300 := by
    have h := siz_eq (of_chk (a := a1) (d := d2) (by rw [← hr2]))
    omega
  have pr1 : pairs a1.cells ≤ d1.size := by have h := P1.2.2.2.1; simpa [pairs] using h
  have pr2 : pairs a2.cells ≤ pairs a1.cells + d2.size := P2.2.2.2.1
  have lenx : lx.length ≤ 300 := by
    have h := chain_pairs S5.inv lx x a1.cells.length ⟨gx, (goodAt_len (P1.2.2.2.2 rfl)).2⟩ chx
    obtain ⟨t, ht⟩ := P2.1.cells
    simp only at ht
    rw [ht, List.take_left'] at h
    · omega
    · rfl
  have leny : ly.length ≤ 600 := by
    have h := chain_pairs S5.inv ly y a2.cells.length (goodAt_len gy) chy
    rw [List.take_length] at h
    omega
  have room2 : a2.room = 4000 := by rw [P2.1.room, P1.1.room]
  have cell2 : a2.cells.length ≤ 1200 := by
    have q1 : a1.cells.length ≤ 0 + 2 * d1.size := P1.2.2.1
    have q2 : a2.cells.length ≤ a1.cells.length + 2 * d2.size := P2.2.2.1
    omega
  obtain ⟨a3, r, E3, I3, c3, gr, chr, wr⟩ := do25 (S5.ar.kp (kp1 [int x.1, int x.2] (flat (vals [x])) (N5.clock + 1))) S5.inv gx chx (by omega) (by omega)
  refine goH_of (call1 wr) ?_
  rintro _ M6 ⟨rfl, hu6⟩
  obtain ⟨n6, X6, S6, B6, B18⟩ := S5.call (hu6.pre (kp1 _ _ _)) I3 r
  obtain ⟨B11, q11, u11, r11⟩ := B6 _ _ B11
  obtain ⟨B12, q12, u12, r12⟩ := B6 _ _ B12
  obtain ⟨B14, q14, u14, r14⟩ := B6 _ _ B14
  obtain ⟨B16, q16, u16', r16⟩ := B6 _ _ B16
  simp [abuildSlice, zeros, fillAt]
  obtain ⟨N6, hN6⟩ : ∃ N, N = (M6.new [int 0, int 0] false).set M6.next [int r.1, int r.2] := ⟨_, rfl⟩
  have nN6 : M6.next + 1 = N6.next := by rw [hN6]; simp
  rw [← hN6] at S6 B11 B12 B14 B16 B18 ⊢
  rw [nN6]
  clear hN6 B6
  obtain ⟨a4, s, E4, I4, c4, gs, chs, ws⟩ := do25 (S6.ar.kp (kp1 [int r.1, int r.2] (flat (vals [r])) (N6.clock + 1))) S6.inv gr chr (by simp; omega) (by simp; rw [E3.room]; omega)
  refine goH_of (call1 ws) ?_
  rintro _ M7 ⟨rfl, hu7⟩
  rw [List.reverse_reverse] at chs
  obtain ⟨n7, X7, S7, B7, B19⟩ := S6.call (hu7.pre (kp1 _ _ _)) I4 s
  obtain ⟨B11, q11, u11, r11⟩ := B7 _ _ B11
  obtain ⟨B12, q12, u12, r12⟩ := B7 _ _ B12
  obtain ⟨B14, q14, u14, r14⟩ := B7 _ _ B14
  obtain ⟨B16, q16, u16', r16⟩ := B7 _ _ B16
  obtain ⟨N7, hN7⟩ : ∃ N, N = (M7.new [int 0, int 0] false).set M7.next [int s.1, int s.2] := ⟨_, rfl⟩
  have nN7 : M7.next + 1 = N7.next := by rw [hN7]; simp
  rw [ex] at r14
  have heq : equalM a4 s x = true := by
    have h1 := chain_eq lx s x 1025 1024 chs ((chx.ext E3).ext E4) (by omega) (by omega)
    unfold equalM
    rw [gs, (E4.good (E3.good gx)), h1.1]
    rfl
  simp [r14, q14]
  rw [← hN7] at S7 B11 B12 B14 B16 B19 ⊢
  rw [ex] at B14
  obtain ⟨w14, v14⟩ := B14.2.2
  obtain ⟨w11, v11⟩ := B11.2.2
  obtain ⟨w12, v12⟩ := B12.2.2
  obtain ⟨w19, v19⟩ := B19.2.2
  have qe := q24 S7.ar S7.inv.small s x
  rw [heq] at qe
  have qs := (ca_gives (g34 d1 (hf d1 m1)))
  have gx4 : goodM a4 x = true := E4.good (E3.good gx)
  have gy4 : goodM a4 y = true := E4.good (E3.good gy)
  have chx4 : Chain a4 (4, 0) lx x := (chx.ext E3).ext E4
  have chy4 : Chain a4 (4, 0) ly y := (chy.ext E3).ext E4
  have rm4 : (a4.cells.length : Int) + lx.length ≤ a4.room := by
    rw [E4.room, E3.room, room2]
    simp at c4
    omega
  by_cases h100 : lx.length < 100
  rotate_left
  · have h100' : ¬ (lx.length : Int) < 100 := by omega
    simp [h100', undefV, undef, v11, v12, abuildSlice, zeros, fillAt]
    obtain ⟨a5, t, E5, I5, gt, cht, wt⟩ := do24 (S7.ar.kp (kp1 [int x.1, int x.2, int y.1, int y.2] (flat (vals [x, y])) (N7.clock + 1))) S7.inv gx4 gy4 chx4 (by omega) rm4
    refine goH_of (call2 wt) ?_
    rintro _ M8 ⟨rfl, hu8⟩
    obtain ⟨n8, X8, S8, B8, B20⟩ := S7.call (hu8.pre (kp1 _ _ _)) I5 t
    obtain ⟨B11, q11, u11, r11⟩ := B8 _ _ B11
    obtain ⟨B12, q12, u12, r12⟩ := B8 _ _ B12
    obtain ⟨B14, q14, u14, r14⟩ := B8 _ _ B14
    obtain ⟨B16, q16, u16', r16⟩ := B8 _ _ B16
    simp [abuildSlice, zeros, fillAt]
    obtain ⟨N8, hN8⟩ : ∃ N, N = (M8.new [int 0, int 0] false).set M8.next [int t.1, int t.2] := ⟨_, rfl⟩
    have nN8 : M8.next + 1 = N8.next := by rw [hN8]; simp
    rw [← hN8] at S8 B11 B12 B14 B16 B20 ⊢
    rw [nN8]
    clear hN8 B8
    have cht2 : Chain a5 (4, 0) (lx ++ ly) t := Chain.app (chy4.ext E5) cht
    have hlt := chain_list (lx ++ ly) 1024 t cht2 (by simp; omega)
    have ez : lenM a5 t = (1, ((lx.length + ly.length : Nat) : Int)) := by rw [lenM, hlt]; simp
    refine goH_of (call1 (do23' (S8.ar.kp (kp1 _ _ _)) S8.inv gt)) ?_
    rw [ez, hlt]
    rintro _ M9 ⟨rfl, hu9⟩
    obtain ⟨n9, X9, S9, B9, B21⟩ := S8.call (hu9.pre (kp1 _ _ _)) I5 (1, ((lx.length + ly.length : Nat) : Int))
    obtain ⟨B11, q11, u11, r11⟩ := B9 _ _ B11
    obtain ⟨B12, q12, u12, r12⟩ := B9 _ _ B12
    obtain ⟨B14, q14, u14, r14⟩ := B9 _ _ B14
    obtain ⟨B16, q16, u16', r16⟩ := B9 _ _ B16
    obtain ⟨B20, q20', u20, r20⟩ := B9 _ _ B20
    obtain ⟨T, hT⟩ : ∃ T, T = lx.length + ly.length := ⟨_, rfl⟩
    have wT : IntKind.i64.wrap ((lx.length : Int) + (ly.length : Int)) = (T : Int) := by rw [IntWalk.i64_in _ (by omega)]; omega
    rw [← hT] at S9 B11 B12 B14 B16 B20 B21 ⊢
    rw [ey] at B16 r16
    simp [r14, q14, r16, q16, wT]
    obtain ⟨N9, hN9⟩ : ∃ N, N = (M9.new [int 0, int 0] false).set M9.next [int 1, int (T : Int)] := ⟨_, rfl⟩
    rw [← hN9] at S9 B11 B12 B14 B16 B20 B21 ⊢
    clear hN9 B9
    obtain ⟨w21, v21⟩ := B21.2.2
    obtain ⟨w20, v20⟩ := B20.2.2
    obtain ⟨w11, v11⟩ := B11.2.2
    obtain ⟨w12, v12⟩ := B12.2.2
    obtain ⟨w14, v14⟩ := B14.2.2
    by_cases T0 : T = 0
    · simp [T0]
      exact S9.kp
    obtain ⟨U, hU⟩ : ∃ U, U = k % T := ⟨_, rfl⟩
    have hUT : U < T := by rw [hU]; exact Nat.mod_lt _ (by omega)
    have rK : ∀ (t : TypeId) (x y : Operand), abin Tryz.prog .rem t x y (int k) (int T) = some (int U) := fun t x y => by rw [rem_nat k T T0, hU]
    obtain ⟨uu, huu⟩ : ∃ u, (lx ++ ly)[U]? = some u := ⟨_, List.getElem?_eq_getElem (by simp; omega)⟩
    have gU : goodM a5 (1, (U : Int)) = true := by simp [goodM, isIn]; omega
    simp [T0, wI k hk, v21, rK]
    refine go_drawD (by kernel_rfl) ?_
    simp [v20, (q25 U).go, abuildSlice, zeros, fillAt, valA]
    refine goH_of (call2 (x := t) (y := (1, (U : Int))) (do26 (S9.ar.kp (kp1 _ _ _)) S9.inv gt cht2 huu (by omega))) ?_
    rintro _ M10 ⟨rfl, hu10⟩
    obtain ⟨n10, X10, S10, B10, B23⟩ := S9.call (hu10.pre (kp1 _ _ _)) I5 uu
    obtain ⟨B11, q11, u11, r11⟩ := B10 _ _ B11
    obtain ⟨B12, q12, u12, r12⟩ := B10 _ _ B12
    obtain ⟨B14, q14, u14, r14⟩ := B10 _ _ B14
    obtain ⟨B20, q20', u20, r20⟩ := B10 _ _ B20
    simp
    refine goM_of (l := [(1, 3), (1, 9)]) (by kernel_rfl) (?_ : List.all _ _ = true) ?_
    · simp [metAtD, metOkD, rank, verKeptD, Region.wanted, Mem.ver, v20, r20, q20']
    have s11 : M2.next ≠ M10.next + 1 := by have := B11.2.1; simp at this; omega
    have s12 : M3.next ≠ M10.next + 1 := by have := B12.2.1; simp at this; omega
    have s14 : M4.next ≠ M10.next + 1 := by have := B14.2.1; simp at this; omega
    by_cases hge : lx.length ≤ U
    · have hge' : (lx.length : Int) ≤ U := by omega
      simp [r11, q11, r14, q14, s11, s14, hge']
      refine go_drawD (by kernel_rfl) ?_
      have wV : IntKind.i64.wrap ((U : Int) - (lx.length : Int)) = ((U - lx.length : Nat) : Int) := by rw [IntWalk.i64_in _ (by omega)]; omega
      have hux : ly[U - lx.length]? = some uu := by rw [← huu, List.getElem?_append_right hge]
      obtain ⟨V, hV⟩ : ∃ V, V = U - lx.length := ⟨_, rfl⟩
      rw [← hV] at wV hux
      simp [r12, q12, s12, r14, q14, s14, wV]
      refine goM_of (l := [(3, 5)]) (by kernel_rfl) (?_ : List.all _ _ = true) ?_
      · simp [metAtD, metOkD, rank, verKeptD, Region.wanted, Mem.ver, r14, q14, s14, Ne.symm s14]
      simp
      refine go_drawD (by kernel_rfl) ?_
      simp [(q25 V).go, abuildSlice, zeros, fillAt, valA]
      obtain ⟨N11, hN11⟩ : ∃ N, N = ((((M10.new [int 0, int 0] false).set M10.next [int uu.1, int uu.2]).new [int 0, int 0] false).set (M10.next + 1) [int x.1, int x.2]).set (M10.next + 1) [int y.1, int y.2] := ⟨_, rfl⟩
      have kN : Kp ((M10.new [int 0, int 0] false).set M10.next [int uu.1, int uu.2]) N11 := by rw [hN11]; simp
      have nN11 : M10.next + 2 = N11.next := by rw [hN11]; simp
      have g24 : N11.get (M10.next + 1) = some (.cells [int y.1, int y.2] false (M10.clock + 5)) := by rw [hN11]; simp
      have S11 := S10.more kN
      have B23 := B23.kp kN
      have B24 : Bx X10 N11 (M10.next + 1) y := ⟨fun h => by have := (S10.own _ h).2; simp at this, by omega, _, g24⟩
      rw [← hN11, nN11]
      clear hN11
      refine goH_of (call2 (x := y) (y := (1, ((V : Nat) : Int))) (do26 (S11.ar.kp (kp1 _ _ _)) S11.inv (E5.good gy4) (chy4.ext E5) hux (by omega))) ?_
      rintro _ M12 ⟨rfl, hu12⟩
      obtain ⟨n12, X12, S12, BB, B26⟩ := S11.call (hu12.pre (kp1 _ _ _)) I5 uu
      obtain ⟨B23, q23, u23, r23⟩ := BB _ _ B23
      obtain ⟨B24, q24', u24, r24⟩ := BB _ _ B24
      simp
      refine goM_of (l := [(1, 3), (1, 9)]) (by kernel_rfl) (?_ : List.all _ _ = true) ?_
      · simp [metAtD, metOkD, rank, verKeptD, Region.wanted, Mem.ver, g24, r24, q24']
      have ve : ∀ xo yo, abin Tryz.prog .eql 51 xo yo (.agg [int uu.1, int uu.2]) (.agg [int uu.1, int uu.2]) = some (.sc (.bool true)) := fun xo yo => by simpa [valA] using val_eq (xo := xo) (yo := yo) uu uu
      simp [r23, q23, ve]
      exact S12.kp
    · have hge' : ¬ (lx.length : Int) ≤ U := by omega
      simp [r11, q11, r14, q14, s11, s14, hge']
      refine go_drawD (by kernel_rfl) ?_
      simp [(q25 U).go, abuildSlice, zeros, fillAt, valA]
      have hux : lx[U]? = some uu := by rw [← huu, List.getElem?_append_left (by omega)]
      obtain ⟨N11, hN11⟩ : ∃ N, N = (((M10.new [int 0, int 0] false).set M10.next [int uu.1, int uu.2]).new [int 0, int 0] false).set (M10.next + 1) [int x.1, int x.2] := ⟨_, rfl⟩
      have kN : Kp ((M10.new [int 0, int 0] false).set M10.next [int uu.1, int uu.2]) N11 := by rw [hN11]; simp
      have nN11 : M10.next + 2 = N11.next := by rw [hN11]; simp
      have g24 : N11.get (M10.next + 1) = some (.cells [int x.1, int x.2] false (M10.clock + 4)) := by rw [hN11]; simp
      have S11 := S10.more kN
      have B23 := B23.kp kN
      have B24 : Bx X10 N11 (M10.next + 1) x := ⟨fun h => by have := (S10.own _ h).2; simp at this, by omega, _, g24⟩
      rw [← hN11, nN11]
      clear hN11
      refine goH_of (call2 (x := x) (y := (1, ((U : Nat) : Int))) (do26 (S11.ar.kp (kp1 _ _ _)) S11.inv (E5.good gx4) (chx4.ext E5) hux (by omega))) ?_
      rintro _ M12 ⟨rfl, hu12⟩
      obtain ⟨n12, X12, S12, BB, B26⟩ := S11.call (hu12.pre (kp1 _ _ _)) I5 uu
      obtain ⟨B23, q23, u23, r23⟩ := BB _ _ B23
      obtain ⟨B24, q24', u24, r24⟩ := BB _ _ B24
      simp
      refine goM_of (l := [(1, 3), (1, 9)]) (by kernel_rfl) (?_ : List.all _ _ = true) ?_
      · simp [metAtD, metOkD, rank, verKeptD, Region.wanted, Mem.ver, g24, r24, q24']
      have ve : ∀ xo yo, abin Tryz.prog .eql 51 xo yo (.agg [int uu.1, int uu.2]) (.agg [int uu.1, int uu.2]) = some (.sc (.bool true)) := fun xo yo => by simpa [valA] using val_eq (xo := xo) (yo := yo) uu uu
      simp [r23, q23, ve]
      exact S12.kp
  have h100' : (lx.length : Int) < 100 := by omega
  by_cases hsz : siz d1 < 100
  rotate_left
  · simp [h100', hsz, wI i hi, rI, ix hd1, enc_agg, ln, qs.go, undefV, undef, v11, v12, abuildSlice, zeros, fillAt]
    obtain ⟨a5, t, E5, I5, gt, cht, wt⟩ := do24 (S7.ar.kp (kp1 [int x.1, int x.2, int y.1, int y.2] (flat (vals [x, y])) (N7.clock + 1))) S7.inv gx4 gy4 chx4 (by omega) rm4
    refine goH_of (call2 wt) ?_
    rintro _ M8 ⟨rfl, hu8⟩
    obtain ⟨n8, X8, S8, B8, B20⟩ := S7.call (hu8.pre (kp1 _ _ _)) I5 t
    obtain ⟨B11, q11, u11, r11⟩ := B8 _ _ B11
    obtain ⟨B12, q12, u12, r12⟩ := B8 _ _ B12
    obtain ⟨B14, q14, u14, r14⟩ := B8 _ _ B14
    obtain ⟨B16, q16, u16', r16⟩ := B8 _ _ B16
    simp [abuildSlice, zeros, fillAt]
    obtain ⟨N8, hN8⟩ : ∃ N, N = (M8.new [int 0, int 0] false).set M8.next [int t.1, int t.2] := ⟨_, rfl⟩
    have nN8 : M8.next + 1 = N8.next := by rw [hN8]; simp
    rw [← hN8] at S8 B11 B12 B14 B16 B20 ⊢
    rw [nN8]
    clear hN8 B8
    have cht2 : Chain a5 (4, 0) (lx ++ ly) t := Chain.app (chy4.ext E5) cht
    have hlt := chain_list (lx ++ ly) 1024 t cht2 (by simp; omega)
    have ez : lenM a5 t = (1, ((lx.length + ly.length : Nat) : Int)) := by rw [lenM, hlt]; simp
    refine goH_of (call1 (do23' (S8.ar.kp (kp1 _ _ _)) S8.inv gt)) ?_
    rw [ez, hlt]
    rintro _ M9 ⟨rfl, hu9⟩
    obtain ⟨n9, X9, S9, B9, B21⟩ := S8.call (hu9.pre (kp1 _ _ _)) I5 (1, ((lx.length + ly.length : Nat) : Int))
    obtain ⟨B11, q11, u11, r11⟩ := B9 _ _ B11
    obtain ⟨B12, q12, u12, r12⟩ := B9 _ _ B12
    obtain ⟨B14, q14, u14, r14⟩ := B9 _ _ B14
    obtain ⟨B16, q16, u16', r16⟩ := B9 _ _ B16
    obtain ⟨B20, q20', u20, r20⟩ := B9 _ _ B20
    obtain ⟨T, hT⟩ : ∃ T, T = lx.length + ly.length := ⟨_, rfl⟩
    have wT : IntKind.i64.wrap ((lx.length : Int) + (ly.length : Int)) = (T : Int) := by rw [IntWalk.i64_in _ (by omega)]; omega
    rw [← hT] at S9 B11 B12 B14 B16 B20 B21 ⊢
    rw [ey] at B16 r16
    simp [r14, q14, r16, q16, wT]
    obtain ⟨N9, hN9⟩ : ∃ N, N = (M9.new [int 0, int 0] false).set M9.next [int 1, int (T : Int)] := ⟨_, rfl⟩
    rw [← hN9] at S9 B11 B12 B14 B16 B20 B21 ⊢
    clear hN9 B9
    obtain ⟨w21, v21⟩ := B21.2.2
    obtain ⟨w20, v20⟩ := B20.2.2
    obtain ⟨w11, v11⟩ := B11.2.2
    obtain ⟨w12, v12⟩ := B12.2.2
    obtain ⟨w14, v14⟩ := B14.2.2
    by_cases T0 : T = 0
    · simp [T0]
      exact S9.kp
    obtain ⟨U, hU⟩ : ∃ U, U = k % T := ⟨_, rfl⟩
    have hUT : U < T := by rw [hU]; exact Nat.mod_lt _ (by omega)
    have rK : ∀ (t : TypeId) (x y : Operand), abin Tryz.prog .rem t x y (int k) (int T) = some (int U) := fun t x y => by rw [rem_nat k T T0, hU]
    obtain ⟨uu, huu⟩ : ∃ u, (lx ++ ly)[U]? = some u := ⟨_, List.getElem?_eq_getElem (by simp; omega)⟩
    have gU : goodM a5 (1, (U : Int)) = true := by simp [goodM, isIn]; omega
    simp [T0, wI k hk, v21, rK]
    refine go_drawD (by kernel_rfl) ?_
    simp [v20, (q25 U).go, abuildSlice, zeros, fillAt, valA]
    refine goH_of (call2 (x := t) (y := (1, (U : Int))) (do26 (S9.ar.kp (kp1 _ _ _)) S9.inv gt cht2 huu (by omega))) ?_
    rintro _ M10 ⟨rfl, hu10⟩
    obtain ⟨n10, X10, S10, B10, B23⟩ := S9.call (hu10.pre (kp1 _ _ _)) I5 uu
    obtain ⟨B11, q11, u11, r11⟩ := B10 _ _ B11
    obtain ⟨B12, q12, u12, r12⟩ := B10 _ _ B12
    obtain ⟨B14, q14, u14, r14⟩ := B10 _ _ B14
    obtain ⟨B20, q20', u20, r20⟩ := B10 _ _ B20
    simp
    refine goM_of (l := [(1, 3), (1, 9)]) (by kernel_rfl) (?_ : List.all _ _ = true) ?_
    · simp [metAtD, metOkD, rank, verKeptD, Region.wanted, Mem.ver, v20, r20, q20']
    have s11 : M2.next ≠ M10.next + 1 := by have := B11.2.1; simp at this; omega
    have s12 : M3.next ≠ M10.next + 1 := by have := B12.2.1; simp at this; omega
    have s14 : M4.next ≠ M10.next + 1 := by have := B14.2.1; simp at this; omega
    by_cases hge : lx.length ≤ U
    · have hge' : (lx.length : Int) ≤ U := by omega
      simp [r11, q11, r14, q14, s11, s14, hge']
      refine go_drawD (by kernel_rfl) ?_
      have wV : IntKind.i64.wrap ((U : Int) - (lx.length : Int)) = ((U - lx.length : Nat) : Int) := by rw [IntWalk.i64_in _ (by omega)]; omega
      have hux : ly[U - lx.length]? = some uu := by rw [← huu, List.getElem?_append_right hge]
      obtain ⟨V, hV⟩ : ∃ V, V = U - lx.length := ⟨_, rfl⟩
      rw [← hV] at wV hux
      simp [r12, q12, s12, r14, q14, s14, wV]
      refine goM_of (l := [(3, 5)]) (by kernel_rfl) (?_ : List.all _ _ = true) ?_
      · simp [metAtD, metOkD, rank, verKeptD, Region.wanted, Mem.ver, r14, q14, s14, Ne.symm s14]
      simp
      refine go_drawD (by kernel_rfl) ?_
      simp [(q25 V).go, abuildSlice, zeros, fillAt, valA]
      obtain ⟨N11, hN11⟩ : ∃ N, N = ((((M10.new [int 0, int 0] false).set M10.next [int uu.1, int uu.2]).new [int 0, int 0] false).set (M10.next + 1) [int x.1, int x.2]).set (M10.next + 1) [int y.1, int y.2] := ⟨_, rfl⟩
      have kN : Kp ((M10.new [int 0, int 0] false).set M10.next [int uu.1, int uu.2]) N11 := by rw [hN11]; simp
      have nN11 : M10.next + 2 = N11.next := by rw [hN11]; simp
      have g24 : N11.get (M10.next + 1) = some (.cells [int y.1, int y.2] false (M10.clock + 5)) := by rw [hN11]; simp
      have S11 := S10.more kN
      have B23 := B23.kp kN
      have B24 : Bx X10 N11 (M10.next + 1) y := ⟨fun h => by have := (S10.own _ h).2; simp at this, by omega, _, g24⟩
      rw [← hN11, nN11]
      clear hN11
      refine goH_of (call2 (x := y) (y := (1, ((V : Nat) : Int))) (do26 (S11.ar.kp (kp1 _ _ _)) S11.inv (E5.good gy4) (chy4.ext E5) hux (by omega))) ?_
      rintro _ M12 ⟨rfl, hu12⟩
      obtain ⟨n12, X12, S12, BB, B26⟩ := S11.call (hu12.pre (kp1 _ _ _)) I5 uu
      obtain ⟨B23, q23, u23, r23⟩ := BB _ _ B23
      obtain ⟨B24, q24', u24, r24⟩ := BB _ _ B24
      simp
      refine goM_of (l := [(1, 3), (1, 9)]) (by kernel_rfl) (?_ : List.all _ _ = true) ?_
      · simp [metAtD, metOkD, rank, verKeptD, Region.wanted, Mem.ver, g24, r24, q24']
      have ve : ∀ xo yo, abin Tryz.prog .eql 51 xo yo (.agg [int uu.1, int uu.2]) (.agg [int uu.1, int uu.2]) = some (.sc (.bool true)) := fun xo yo => by simpa [valA] using val_eq (xo := xo) (yo := yo) uu uu
      simp [r23, q23, ve]
      exact S12.kp
    · have hge' : ¬ (lx.length : Int) ≤ U := by omega
      simp [r11, q11, r14, q14, s11, s14, hge']
      refine go_drawD (by kernel_rfl) ?_
      simp [(q25 U).go, abuildSlice, zeros, fillAt, valA]
      have hux : lx[U]? = some uu := by rw [← huu, List.getElem?_append_left (by omega)]
      obtain ⟨N11, hN11⟩ : ∃ N, N = (((M10.new [int 0, int 0] false).set M10.next [int uu.1, int uu.2]).new [int 0, int 0] false).set (M10.next + 1) [int x.1, int x.2] := ⟨_, rfl⟩
      have kN : Kp ((M10.new [int 0, int 0] false).set M10.next [int uu.1, int uu.2]) N11 := by rw [hN11]; simp
      have nN11 : M10.next + 2 = N11.next := by rw [hN11]; simp
      have g24 : N11.get (M10.next + 1) = some (.cells [int x.1, int x.2] false (M10.clock + 4)) := by rw [hN11]; simp
      have S11 := S10.more kN
      have B23 := B23.kp kN
      have B24 : Bx X10 N11 (M10.next + 1) x := ⟨fun h => by have := (S10.own _ h).2; simp at this, by omega, _, g24⟩
      rw [← hN11, nN11]
      clear hN11
      refine goH_of (call2 (x := x) (y := (1, ((U : Nat) : Int))) (do26 (S11.ar.kp (kp1 _ _ _)) S11.inv (E5.good gx4) (chx4.ext E5) hux (by omega))) ?_
      rintro _ M12 ⟨rfl, hu12⟩
      obtain ⟨n12, X12, S12, BB, B26⟩ := S11.call (hu12.pre (kp1 _ _ _)) I5 uu
      obtain ⟨B23, q23, u23, r23⟩ := BB _ _ B23
      obtain ⟨B24, q24', u24, r24⟩ := BB _ _ B24
      simp
      refine goM_of (l := [(1, 3), (1, 9)]) (by kernel_rfl) (?_ : List.all _ _ = true) ?_
      · simp [metAtD, metOkD, rank, verKeptD, Region.wanted, Mem.ver, g24, r24, q24']
      have ve : ∀ xo yo, abin Tryz.prog .eql 51 xo yo (.agg [int uu.1, int uu.2]) (.agg [int uu.1, int uu.2]) = some (.sc (.bool true)) := fun xo yo => by simpa [valA] using val_eq (xo := xo) (yo := yo) uu uu
      simp [r23, q23, ve]
      exact S12.kp
  simp [h100', hsz, wI i hi, rI, ix hd1, enc_agg, ln, qs.go, v11, v12, v19, valA_agg, qe.go, abuildSlice, zeros, fillAt]
  obtain ⟨a5, t, E5, I5, gt, cht, wt⟩ := do24 (S7.ar.kp (kp1 [int x.1, int x.2, int y.1, int y.2] (flat (vals [x, y])) (N7.clock + 1))) S7.inv gx4 gy4 chx4 (by omega) rm4
  refine goH_of (call2 wt) ?_
  rintro _ M8 ⟨rfl, hu8⟩
  obtain ⟨n8, X8, S8, B8, B20⟩ := S7.call (hu8.pre (kp1 _ _ _)) I5 t
  obtain ⟨B11, q11, u11, r11⟩ := B8 _ _ B11
  obtain ⟨B12, q12, u12, r12⟩ := B8 _ _ B12
  obtain ⟨B14, q14, u14, r14⟩ := B8 _ _ B14
  obtain ⟨B16, q16, u16', r16⟩ := B8 _ _ B16
  simp [abuildSlice, zeros, fillAt]
  obtain ⟨N8, hN8⟩ : ∃ N, N = (M8.new [int 0, int 0] false).set M8.next [int t.1, int t.2] := ⟨_, rfl⟩
  have nN8 : M8.next + 1 = N8.next := by rw [hN8]; simp
  rw [← hN8] at S8 B11 B12 B14 B16 B20 ⊢
  rw [nN8]
  clear hN8 B8
  have cht2 : Chain a5 (4, 0) (lx ++ ly) t := Chain.app (chy4.ext E5) cht
  have hlt := chain_list (lx ++ ly) 1024 t cht2 (by simp; omega)
  have ez : lenM a5 t = (1, ((lx.length + ly.length : Nat) : Int)) := by rw [lenM, hlt]; simp
  refine goH_of (call1 (do23' (S8.ar.kp (kp1 _ _ _)) S8.inv gt)) ?_
  rw [ez, hlt]
  rintro _ M9 ⟨rfl, hu9⟩
  obtain ⟨n9, X9, S9, B9, B21⟩ := S8.call (hu9.pre (kp1 _ _ _)) I5 (1, ((lx.length + ly.length : Nat) : Int))
  obtain ⟨B11, q11, u11, r11⟩ := B9 _ _ B11
  obtain ⟨B12, q12, u12, r12⟩ := B9 _ _ B12
  obtain ⟨B14, q14, u14, r14⟩ := B9 _ _ B14
  obtain ⟨B16, q16, u16', r16⟩ := B9 _ _ B16
  obtain ⟨B20, q20', u20, r20⟩ := B9 _ _ B20
  obtain ⟨T, hT⟩ : ∃ T, T = lx.length + ly.length := ⟨_, rfl⟩
  have wT : IntKind.i64.wrap ((lx.length : Int) + (ly.length : Int)) = (T : Int) := by rw [IntWalk.i64_in _ (by omega)]; omega
  rw [← hT] at S9 B11 B12 B14 B16 B20 B21 ⊢
  rw [ey] at B16 r16
  simp [r14, q14, r16, q16, wT]
  obtain ⟨N9, hN9⟩ : ∃ N, N = (M9.new [int 0, int 0] false).set M9.next [int 1, int (T : Int)] := ⟨_, rfl⟩
  rw [← hN9] at S9 B11 B12 B14 B16 B20 B21 ⊢
  clear hN9 B9
  obtain ⟨w21, v21⟩ := B21.2.2
  obtain ⟨w20, v20⟩ := B20.2.2
  obtain ⟨w11, v11⟩ := B11.2.2
  obtain ⟨w12, v12⟩ := B12.2.2
  obtain ⟨w14, v14⟩ := B14.2.2
  by_cases T0 : T = 0
  · simp [T0]
    exact S9.kp
  obtain ⟨U, hU⟩ : ∃ U, U = k % T := ⟨_, rfl⟩
  have hUT : U < T := by rw [hU]; exact Nat.mod_lt _ (by omega)
  have rK : ∀ (t : TypeId) (x y : Operand), abin Tryz.prog .rem t x y (int k) (int T) = some (int U) := fun t x y => by rw [rem_nat k T T0, hU]
  obtain ⟨uu, huu⟩ : ∃ u, (lx ++ ly)[U]? = some u := ⟨_, List.getElem?_eq_getElem (by simp; omega)⟩
  have gU : goodM a5 (1, (U : Int)) = true := by simp [goodM, isIn]; omega
  simp [T0, wI k hk, v21, rK]
  refine go_drawD (by kernel_rfl) ?_
  simp [v20, (q25 U).go, abuildSlice, zeros, fillAt, valA]
  refine goH_of (call2 (x := t) (y := (1, (U : Int))) (do26 (S9.ar.kp (kp1 _ _ _)) S9.inv gt cht2 huu (by omega))) ?_
  rintro _ M10 ⟨rfl, hu10⟩
  obtain ⟨n10, X10, S10, B10, B23⟩ := S9.call (hu10.pre (kp1 _ _ _)) I5 uu
  obtain ⟨B11, q11, u11, r11⟩ := B10 _ _ B11
  obtain ⟨B12, q12, u12, r12⟩ := B10 _ _ B12
  obtain ⟨B14, q14, u14, r14⟩ := B10 _ _ B14
  obtain ⟨B20, q20', u20, r20⟩ := B10 _ _ B20
  simp
  refine goM_of (l := [(1, 3), (1, 9)]) (by kernel_rfl) (?_ : List.all _ _ = true) ?_
  · simp [metAtD, metOkD, rank, verKeptD, Region.wanted, Mem.ver, v20, r20, q20']
  have s11 : M2.next ≠ M10.next + 1 := by have := B11.2.1; simp at this; omega
  have s12 : M3.next ≠ M10.next + 1 := by have := B12.2.1; simp at this; omega
  have s14 : M4.next ≠ M10.next + 1 := by have := B14.2.1; simp at this; omega
  by_cases hge : lx.length ≤ U
  · have hge' : (lx.length : Int) ≤ U := by omega
    simp [r11, q11, r14, q14, s11, s14, hge']
    refine go_drawD (by kernel_rfl) ?_
    have wV : IntKind.i64.wrap ((U : Int) - (lx.length : Int)) = ((U - lx.length : Nat) : Int) := by rw [IntWalk.i64_in _ (by omega)]; omega
    have hux : ly[U - lx.length]? = some uu := by rw [← huu, List.getElem?_append_right hge]
    obtain ⟨V, hV⟩ : ∃ V, V = U - lx.length := ⟨_, rfl⟩
    rw [← hV] at wV hux
    simp [r12, q12, s12, r14, q14, s14, wV]
    refine goM_of (l := [(3, 5)]) (by kernel_rfl) (?_ : List.all _ _ = true) ?_
    · simp [metAtD, metOkD, rank, verKeptD, Region.wanted, Mem.ver, r14, q14, s14, Ne.symm s14]
    simp
    refine go_drawD (by kernel_rfl) ?_
    simp [(q25 V).go, abuildSlice, zeros, fillAt, valA]
    obtain ⟨N11, hN11⟩ : ∃ N, N = ((((M10.new [int 0, int 0] false).set M10.next [int uu.1, int uu.2]).new [int 0, int 0] false).set (M10.next + 1) [int x.1, int x.2]).set (M10.next + 1) [int y.1, int y.2] := ⟨_, rfl⟩
    have kN : Kp ((M10.new [int 0, int 0] false).set M10.next [int uu.1, int uu.2]) N11 := by rw [hN11]; simp
    have nN11 : M10.next + 2 = N11.next := by rw [hN11]; simp
    have g24 : N11.get (M10.next + 1) = some (.cells [int y.1, int y.2] false (M10.clock + 5)) := by rw [hN11]; simp
    have S11 := S10.more kN
    have B23 := B23.kp kN
    have B24 : Bx X10 N11 (M10.next + 1) y := ⟨fun h => by have := (S10.own _ h).2; simp at this, by omega, _, g24⟩
    rw [← hN11, nN11]
    clear hN11
    refine goH_of (call2 (x := y) (y := (1, ((V : Nat) : Int))) (do26 (S11.ar.kp (kp1 _ _ _)) S11.inv (E5.good gy4) (chy4.ext E5) hux (by omega))) ?_
    rintro _ M12 ⟨rfl, hu12⟩
    obtain ⟨n12, X12, S12, BB, B26⟩ := S11.call (hu12.pre (kp1 _ _ _)) I5 uu
    obtain ⟨B23, q23, u23, r23⟩ := BB _ _ B23
    obtain ⟨B24, q24', u24, r24⟩ := BB _ _ B24
    simp
    refine goM_of (l := [(1, 3), (1, 9)]) (by kernel_rfl) (?_ : List.all _ _ = true) ?_
    · simp [metAtD, metOkD, rank, verKeptD, Region.wanted, Mem.ver, g24, r24, q24']
    have ve : ∀ xo yo, abin Tryz.prog .eql 51 xo yo (.agg [int uu.1, int uu.2]) (.agg [int uu.1, int uu.2]) = some (.sc (.bool true)) := fun xo yo => by simpa [valA] using val_eq (xo := xo) (yo := yo) uu uu
    simp [r23, q23, ve]
    exact S12.kp
  · have hge' : ¬ (lx.length : Int) ≤ U := by omega
    simp [r11, q11, r14, q14, s11, s14, hge']
    refine go_drawD (by kernel_rfl) ?_
    simp [(q25 U).go, abuildSlice, zeros, fillAt, valA]
    have hux : lx[U]? = some uu := by rw [← huu, List.getElem?_append_left (by omega)]
    obtain ⟨N11, hN11⟩ : ∃ N, N = (((M10.new [int 0, int 0] false).set M10.next [int uu.1, int uu.2]).new [int 0, int 0] false).set (M10.next + 1) [int x.1, int x.2] := ⟨_, rfl⟩
    have kN : Kp ((M10.new [int 0, int 0] false).set M10.next [int uu.1, int uu.2]) N11 := by rw [hN11]; simp
    have nN11 : M10.next + 2 = N11.next := by rw [hN11]; simp
    have g24 : N11.get (M10.next + 1) = some (.cells [int x.1, int x.2] false (M10.clock + 4)) := by rw [hN11]; simp
    have S11 := S10.more kN
    have B23 := B23.kp kN
    have B24 : Bx X10 N11 (M10.next + 1) x := ⟨fun h => by have := (S10.own _ h).2; simp at this, by omega, _, g24⟩
    rw [← hN11, nN11]
    clear hN11
    refine goH_of (call2 (x := x) (y := (1, ((U : Nat) : Int))) (do26 (S11.ar.kp (kp1 _ _ _)) S11.inv (E5.good gx4) (chx4.ext E5) hux (by omega))) ?_
    rintro _ M12 ⟨rfl, hu12⟩
    obtain ⟨n12, X12, S12, BB, B26⟩ := S11.call (hu12.pre (kp1 _ _ _)) I5 uu
    obtain ⟨B23, q23, u23, r23⟩ := BB _ _ B23
    obtain ⟨B24, q24', u24, r24⟩ := BB _ _ B24
    simp
    refine goM_of (l := [(1, 3), (1, 9)]) (by kernel_rfl) (?_ : List.all _ _ = true) ?_
    · simp [metAtD, metOkD, rank, verKeptD, Region.wanted, Mem.ver, g24, r24, q24']
    have ve : ∀ xo yo, abin Tryz.prog .eql 51 xo yo (.agg [int uu.1, int uu.2]) (.agg [int uu.1, int uu.2]) = some (.sc (.bool true)) := fun xo yo => by simpa [valA] using val_eq (xo := xo) (yo := yo) uu uu
    simp [r23, q23, ve]
    exact S12.kp
end Go.Proofs.YtnhcmcfgemoehaaGreat
