import Derived.Test.YtnhcmcfgemoehaaGreatAMap
import Derived.Test.YtnhcmcfgemoehaaGreatYHalves
/- The value of a datum. -/
set_option linter.unusedSimpArgs false
set_option linter.unusedVariables false
set_option linter.unusedSectionVars false
namespace Go.Proofs.YtnhcmcfgemoehaaGreat
set_option maxRecDepth 4000
open Go.V
attribute [local simp] Nat.add_assoc

mutual
/-- The value of a datum, and what becomes of the arena. -/
def makeM : Dat → ArM → ArM × Val × Int
  | .mk K N S _ L T, a =>
    if K = 1 ∨ K = 2 ∨ K = 3 then (a, (K, N), 0) else if K = 5 then symM a S else if K = 4 then allocM a ⟨3, 0, [], S⟩ else
    if K = 8 then (if (vecM L a).2.2 ≠ 0 then ((vecM L a).1, (0, 0), (vecM L a).2.2) else allocM (vecM L a).1 ⟨2, 0, (vecM L a).2.1, []⟩) else
    if (lstM L (if K = 7 then tailM T a else (a, (4, 0), 0))).2.2 ≠ 0 then ((lstM L (if K = 7 then tailM T a else (a, (4, 0), 0))).1, (0, 0), (lstM L (if K = 7 then tailM T a else (a, (4, 0), 0))).2.2) else lstM L (if K = 7 then tailM T a else (a, (4, 0), 0))
def vecM : List Dat → ArM → ArM × List Val × Int
  | [], a => (a, [], 0)
  | d :: l, a => if (makeM d a).2.2 ≠ 0 then ((makeM d a).1, [], (makeM d a).2.2) else ((vecM l (makeM d a).1).1, (makeM d a).2.1 :: (vecM l (makeM d a).1).2.1, (vecM l (makeM d a).1).2.2)
def tailM : List Dat → ArM → ArM × Val × Int
  | [], a => (a, (4, 0), 0)
  | d :: _, a => makeM d a
def lstM : List Dat → ArM × Val × Int → ArM × Val × Int
  | [], r => r
  | d :: l, r => if (lstM l r).2.2 ≠ 0 then lstM l r else if (makeM d (lstM l r).1).2.2 ≠ 0 then ((makeM d (lstM l r).1).1, (lstM l r).2.1, (makeM d (lstM l r).1).2.2) else allocM (makeM d (lstM l r).1).1 ⟨1, 0, [(makeM d (lstM l r).1).2.1, (lstM l r).2.1], []⟩
end
theorem vecM_app : ∀ (l r : List Dat) (a : ArM), (vecM l a).2.2 = 0 → vecM (l ++ r) a = ((vecM r (vecM l a).1).1, (vecM l a).2.1 ++ (vecM r (vecM l a).1).2.1, (vecM r (vecM l a).1).2.2)
  | [], r, a, _ => by simp [vecM]
  | d :: l, r, a, h => by
    rw [vecM] at h
    split at h
    · rename_i h1; exact absurd h h1
    · rename_i h1
      have := vecM_app l r (makeM d a).1 h
      simp [vecM, h1, this]
theorem Ar.cut {X : Nat → Prop} {A : Nat} {a : ArM} {m : Mem} (h : Ar X A a m) : Ar (fun j => X j ∧ j < m.next) A a m := h.mono fun j hj hx => ⟨hx, hj⟩
theorem Up.less {X : Nat → Prop} {A : Nat} {a : ArM} {m m' : Mem} (h : Up (fun j => X j ∧ j < m.next) A a m m') : Up X A a m m' := by
  obtain ⟨X', h1, h2, h3⟩ := h
  exact ⟨X', h1, h2.mono fun j h => h.1, fun j hj => (h3 j hj).imp (fun h => h.1) id⟩
theorem Up.out {X : Nat → Prop} {A : Nat} {a : ArM} {m m' : Mem} (h : Up X A a m m') : ∃ X', Ar X' A a m' ∧ KpC X m m' ∧ ∀ j, X' j → (X j ∨ m.next ≤ j) ∧ j < m'.next := by
  obtain ⟨X', h1, h2, h3⟩ := h
  exact ⟨_, h1.cut, h2, fun j hj => ⟨h3 j hj.1, hj.2⟩⟩
theorem build78b {k : Int} {x y : AV} (hx : x.okc = true ∧ x.cells = [x]) : abuild Tryz.prog 78 [(0, int k), (2, x)] = some (.agg [int k, int 0, x, .emp 0]) := by simp [abuild, placesOf, fillAt, hx]
/-- A slice of values of one's own, as it is handed on. -/
theorem fz_cell {m0 m : Mem} {A : Nat} {k : Int} {l : List Val} {x : AV} (h : Acc m0 m 2 true (vals l) x) : ∃ m', fzvs m [.ptr A 0, .agg [int k, int 0, x, .emp 0]] = ([.ptr A 0, ceA ⟨k, 0, l, []⟩], m') ∧ KpC (owns x) m m' := by
  have lv : Lv m0 m 2 true (vals l) x := by
    rcases h with ⟨h1, h2⟩ | ⟨h, id, w, h1, h2, h3, h4⟩
    · exact .inl ⟨0, by omega, h1, h2⟩
    · exact .inr (.inr ⟨id, w, none, h1, h2, h3, h4⟩)
  obtain ⟨m', e1, e2⟩ := lv.fz rfl (vals_row l) (vals_ok l)
  refine ⟨m', ?_, e2⟩
  simp [fzvs, fzv, fzs, e1, ceA]
theorem goods_in : ∀ {l : List Dat} {x : Dat}, goods l = true → x ∈ l → good x = true
  | z :: l, x, h, hx => by
    rw [goods] at h
    simp at h
    rcases List.mem_cons.1 hx with rfl | hx
    · exact h.1
    · exact goods_in h.2 hx
/-- After a call, a box of one's own is written. -/
theorem up_box {X0 X1 : Nat → Prop} {A B : Nat} {a' : ArM} {m m4 m5 : Mem} (k : Kp m m4) (kc : KpC X0 m4 m5) (hA5 : Ar X1 A a' m5) (hX : ∀ j, X1 j → X0 j ∨ m4.next ≤ j) (hX0 : ∀ j, X0 j → j < m.next) (hB : m.next ≤ B) (hB4 : B < m4.next) (cs : List AV) : Up X0 A a' m (m5.set B cs) := by
  refine ⟨X1, hA5.kc (kc_set B cs m5) fun j hj e => ?_, KpC.cut (((KpC.of (.of k)).trans (kc.mono fun j h => .inl h)).trans ((kc_set B cs m5).mono fun j h => .inr (by omega))), fun j hj => (hX j hj).imp id fun h => by have := k.next; omega⟩
  have e : j = B := e
  subst e
  rcases hX j hj with h | h
  · have := hX0 j h; omega
  · omega
theorem fzr_val (m : Mem) (v : Val) (e : Int) : fzr m (.tup [.agg [int v.1, int v.2], int e]) = (.tup [valA v, int e], m) := by
  rw [valA_agg]
  simp [fzr, fzvs]
theorem q61 (l : List Dat) (m : Mem) : EH Tryz.prog ca (.func 61) [.lst (encs l)] m (.fn (.func 108) [] [.ptr m.next 0]) (m.new [.lst (encs l)] false) := by
  refine eh_of (wph_go Tryz.func61 rfl rfl (by simp [Tryz.f61]) (by simp [Tryz.f61]) fun Q hQ => ?_)
  simp only [Tryz.f61, show ca.keepRes 61 = false from rfl, show ca.keepArgs 61 = false from rfl] at hQ ⊢
  simp
  exact hQ _ _ _ ⟨.inr rfl, _, rfl, by simp [oneOf]⟩
/-- What is so while a list's values are made. -/
def LInv (X : Nat → Prop) (A V E db lo : Nat) (m M5 : Mem) (r : ArM × Val × Int) (mm : Mem) : Prop :=
  ∃ X1, Ar X1 A r.1 mm ∧ (∀ j, X1 j → ((X j ∧ j < m.next) ∨ M5.next ≤ j) ∧ j < mm.next ∧ j ≠ db ∧ j ≠ lo) ∧ KpC (fun j => (X j ∧ j < m.next) ∨ M5.next ≤ j ∨ j = V ∨ j = E) M5 mm ∧ (∃ w, mm.get V = some (.cells [int r.2.1.1, int r.2.1.2] false w)) ∧ ∃ w, mm.get E = some (.cells [int r.2.2] false w)
/-- Two values as a cell's, as it is handed on. -/
theorem fz_two {m : Mem} {A id w : Nat} {k : Int} {x y : Val} (h : m.get id = some (.cells [int x.1, int x.2, int y.1, int y.2] false w)) : fzvs m [.ptr A 0, .agg [int k, int 0, .sl id 0 2 2 true (some 2), .emp 0]] = ([.ptr A 0, ceA ⟨k, 0, [x, y], []⟩], m.mark id (flat (vals [x, y])) w) := by
  have e := fz1_row (m := m) (id := id) (k := 2) (ag := true) (cap := some 2) (ys := vals [x, y]) (v := w) (f := false) rfl (by simpa [vals, flat_cons, flat_nil] using h) (vals_row _) (vals_ok _)
  rw [vals_length] at e
  simp at e
  simp [fzvs, fzv, fzs, e, ceA]
theorem kc_loop (lo : Nat) (st : LoopState) (p : Option Code) (c : LCode) (m : Mem) : KpC (fun j => j = lo) m (m.setLoop lo st p c) := ⟨by simp, fun id hi hx => by simp, fun id hi hx => by
  have : id ≠ lo := hx
  simp [this]⟩
theorem kc_mark (i w : Nat) (cs : List AV) (m : Mem) : KpC (fun j => j = i) m (m.mark i cs w) := ⟨by simp, fun id hi hx => by
  have : id ≠ i := hx
  simp [this], fun id hi hx => by simp⟩
theorem linv_step {X X2 X3 : Nat → Prop} {A V E db lo : Nat} {m M5 mm mf : Mem} {r : ArM × Val × Int} {l : AV} (hX2 : ∀ j, X2 j → ((X j ∧ j < m.next) ∨ M5.next ≤ j) ∧ j < mm.next ∧ j ≠ db ∧ j ≠ lo) (kc : KpC (fun j => (X j ∧ j < m.next) ∨ M5.next ≤ j ∨ j = V ∨ j = E) M5 mm) (hdb : has mm db [l])
    (hM : M5.next ≤ mm.next) (hlt : lo < mm.next) (hlo : M5.next ≤ lo) (h1 : db < lo) (h2 : db ≠ V) (h3 : db ≠ E) (km : KpC (fun j => X2 j ∨ j = V ∨ j = E ∨ j = lo) mm mf) (hA : Ar X3 A r.1 mf) (hX3 : ∀ j, X3 j → (X2 j ∨ mm.next ≤ j) ∧ j < mf.next) (gV : ∃ w, mf.get V = some (.cells [int r.2.1.1, int r.2.1.2] false w)) (gE : ∃ w, mf.get E = some (.cells [int r.2.2] false w)) : LInv X A V E db lo m M5 r mf ∧ has mf db [l] := by
  refine ⟨⟨X3, hA, fun j h => ?_, kc.trans (km.mono fun j h => ?_), gV, gE⟩, hdb.kc km ?_⟩
  · obtain ⟨q1, q2⟩ := hX3 j h
    rcases q1 with q1 | q1
    · exact ⟨(hX2 j q1).1, q2, (hX2 j q1).2.2⟩
    · exact ⟨.inr (by omega), q2, by omega, by omega⟩
  · rcases h with h | h | h | h
    · exact (hX2 j h).1.imp id .inl
    · exact .inr (.inr (.inl h))
    · exact .inr (.inr (.inr h))
    · exact .inr (.inl (by omega))
  · rintro (h | h | h | h)
    · exact (hX2 db h).2.2.1 rfl
    · exact h2 h
    · exact h3 h
    · omega
def MakeK (X : Nat → Prop) (A : Nat) (d : Dat) (a : ArM) (m : Mem) (v : AV) (m' : Mem) : Prop := v = .tup [valA (makeM d a).2.1, int (makeM d a).2.2] ∧ Up X A (makeM d a).1 m m'
set_option maxHeartbeats 8000000 in
theorem q36 {A : Nat} : ∀ (n : Nat) (d : Dat), d.size ≤ n → d.fits → good d = true → ∀ (X : Nat → Prop) (a : ArM) (m : Mem), Ar X A a m → wph Tryz.prog ca (.func 36) [.ptr A 0, enc d] m (MakeK X A d a m)
  | 0, d, hs, _, _ => by cases d; simp [Dat.size] at hs
  | n + 1, d, hs, hf, hg => by
    intro X a m hA
    have ih := q36 (A := A) n
    refine wph_go Tryz.func36 rfl rfl (by simp [Tryz.f36]) (by simp [Tryz.f36]) fun Q hQ => ?_
    simp only [Tryz.f36, show ca.keepRes 36 = false from rfl, show ca.keepArgs 36 = false from rfl] at hQ ⊢
    obtain ⟨K, N, S, M, L, T⟩ := d
    have ft := alone_fits hf
    obtain ⟨hal, hgL, hgT⟩ := good_mk hg
    rw [Dat.fits] at hf
    rw [Dat.size] at hs
    have hAlt := hA.lt
    obtain ⟨m1, hm1⟩ : ∃ m1, m1 = (((m.new [.ptr A 0] false).new [int K, int N, .sc (.string ⟨⟨S⟩⟩), .lst (M.map int), .lst (encs L), .lst (encs T)] false).new [int 0, int 0] false).newMap := ⟨_, rfl⟩
    obtain ⟨v1, hmp⟩ : ∃ v, m1.map (m.next + 3) = some ⟨[], 0, v⟩ := ⟨_, by rw [hm1]; simp; rfl⟩
    have hu1 := amapUpdate_newI (P := Tryz.prog) tmap119 Tryz.underlying3 hmp (ks := []) rfl (k := 1) rfl (int 1)
    obtain ⟨m2, hm2⟩ : ∃ m2, m2 = m1.setMap (m.next + 3) ([] ++ [(.int .i64 1, int 1, 0)]) (0 + 1) := ⟨_, rfl⟩
    obtain ⟨v2, hmp2⟩ : ∃ v, m2.map (m.next + 3) = some ⟨[(.int .i64 1, int 1, 0)], 1, v⟩ := ⟨_, by rw [hm2]; simp; rfl⟩
    have hu2 := amapUpdate_newI (P := Tryz.prog) tmap119 Tryz.underlying3 hmp2 (ks := [1]) rfl (k := 2) rfl (int 2)
    obtain ⟨m3, hm3⟩ : ∃ m3, m3 = m2.setMap (m.next + 3) ([(.int .i64 1, int 1, 0)] ++ [(.int .i64 2, int 2, 1)]) (1 + 1) := ⟨_, rfl⟩
    obtain ⟨v3, hmp3⟩ : ∃ v, m3.map (m.next + 3) = some ⟨[(.int .i64 1, int 1, 0), (.int .i64 2, int 2, 1)], 2, v⟩ := ⟨_, by rw [hm3]; simp; rfl⟩
    have hu3 := amapUpdate_newI (P := Tryz.prog) tmap119 Tryz.underlying3 hmp3 (ks := [1, 2]) rfl (k := 3) rfl (int 3)
    obtain ⟨m4, hm4⟩ : ∃ m4, m4 = m3.setMap (m.next + 3) ([(.int .i64 1, int 1, 0), (.int .i64 2, int 2, 1)] ++ [(.int .i64 3, int 3, 2)]) (2 + 1) := ⟨_, rfl⟩
    obtain ⟨v4, hmp4⟩ : ∃ v, m4.map (m.next + 3) = some ⟨[(.int .i64 1, int 1, 0), (.int .i64 2, int 2, 1), (.int .i64 3, int 3, 2)], 3, v⟩ := ⟨_, by rw [hm4]; simp; rfl⟩
    have hl := alookup_int (P := Tryz.prog) (ok := true) tmap119 Tryz.underlying3 hmp4 (ks := [1, 2, 3]) rfl K
    rw [← hm2] at hu1
    rw [← hm3] at hu2
    rw [← hm4] at hu3
    have k4 : Kp m m4 := by
      rw [hm4, hm3, hm2, hm1]
      simp
    have g4 : ∀ j, m4.get j = m1.get j := fun j => by rw [hm4, hm3, hm2]; simp
    have n4 : m4.next = m.next + 4 := by rw [hm4, hm3, hm2, hm1]; simp
    have b0 : has m4 m.next [.ptr A 0] := ⟨by omega, m.clock + 1, by rw [g4, hm1]; simp⟩
    have b1 : has m4 (m.next + 1) [int K, int N, .sc (.string ⟨⟨S⟩⟩), .lst (M.map int), .lst (encs L), .lst (encs T)] := ⟨by omega, m.clock + 2, by rw [g4, hm1]; simp⟩
    have b2 : has m4 (m.next + 2) [int 0, int 0] := ⟨by omega, m.clock + 3, by rw [g4, hm1]; simp⟩
    clear hm2 hm3 hm4 hmp hmp2 hmp3
    simp [enc, amakeMap_none tmap119]
    rw [← hm1]
    clear hm1
    obtain ⟨_, x0, e0⟩ := b0
    obtain ⟨_, x1, e1⟩ := b1
    obtain ⟨_, x2, e2⟩ := b2
    have fin : ∀ (s' : Sl) (m' : Mem) (v : Val) (e : Int) (a' : ArM), s'.at 4 = .ptr (m.next + 2) 0 → s'.at 5 = int e → (∃ w, m'.get (m.next + 2) = some (.cells [int v.1, int v.2] false w)) → makeM (.mk K N S M L T) a = (a', v, e) → Up X A a' m m' → Q .ret s' m' := by
      intro s' m' v e a' h4 h5 ⟨w, hg⟩ hm hu
      refine hQ _ _ _ ?_
      rw [leave_ret]
      refine ⟨_, by simp [aresult, h4, h5, hg, aload, partOf]; rfl, ?_⟩
      unfold MakeK
      rw [hm]
      simp only [Bool.false_eq_true, if_false, oneOf, fzr_val]
      exact ⟨trivial, hu⟩
    have hA4 := hA.cut.kp k4
    have hlt2 : m.next + 2 < m4.next := by omega
    simp [hu1, hu2, hu3, e1]
    by_cases k123 : K = 1 ∨ K = 2 ∨ K = 3
    · have hl' : alookup Tryz.prog 119 (.mp (m.next + 3)) (int K) true m4 = some (.tup [int K, .sc (.bool true)]) := by
        rcases k123 with rfl | rfl | rfl <;> (rw [hl]; rfl)
      simp [hl', e1, e2, build51b]
      refine fin _ _ (K, N) 0 a (by simp) (by simp) ⟨_, by simp; rfl⟩ (by rw [makeM, if_pos k123]) (Up.kp hA (k4.set (by omega) _))
    · have hl' : alookup Tryz.prog 119 (.mp (m.next + 3)) (int K) true m4 = some (.tup [int 0, .sc (.bool false)]) := by
        have hfi : ([1, 2, 3] : List Int).findIdx? (fun x => decide (x = K)) = none := by
          rw [List.findIdx?_eq_none_iff]
          intro x hx
          simp at hx
          simp
          omega
        rw [hl, hfi]
        simp
      simp [hl', e1]
      by_cases k5 : K = 5
      · simp [k5, e0, e1]
        refine goH_of (q59 hA4 S (by have := ft.s; omega)) ?_
        rintro _ m5 ⟨rfl, X1, hA5, kc5, hX5⟩
        have e5 := (kc5.get (m.next + 2) hlt2 (fun h => by omega)).trans e2
        simp [e5]
        refine fin _ _ (symM a S).2.1 (symM a S).2.2 (symM a S).1 (by simp) (by simp) ⟨_, by simp; rfl⟩ (by rw [makeM, if_neg k123, if_pos k5]) ?_
        exact (up_box k4 kc5 hA5 hX5 (fun j h => h.2) (by omega) hlt2 _).less
      by_cases k4' : K = 4
      · simp [k5, k4', e0, e1, abuild, placesOf, fillAt]
        refine goH_of (wph_fz (args := [.ptr A 0, ceA ⟨3, 0, [], S⟩]) (m := m4) Tryz.func60 rfl rfl rfl (by simp [fzvs, fzs, fz1, ceA, byts]) (by simp [fzvs]) (q60 hA4 ⟨3, 0, [], S⟩ (by simp) (by have := ft.s; simpa using this))) ?_
        rintro _ m5 ⟨rfl, X1, hA5, kc5, hX5⟩
        have e5 := (kc5.get (m.next + 2) hlt2 (fun h => by omega)).trans e2
        simp [e5]
        refine fin _ _ (allocM a ⟨3, 0, [], S⟩).2.1 (allocM a ⟨3, 0, [], S⟩).2.2 (allocM a ⟨3, 0, [], S⟩).1 (by simp) (by simp) ⟨_, by simp; rfl⟩ (by rw [makeM, if_neg k123, if_neg k5, if_pos k4']) ?_
        exact (up_box k4 kc5 hA5 hX5 (fun j h => h.2) (by omega) hlt2 _).less
      by_cases k8 : K = 8
      · simp [k5, k4', k8, e0, e1]
        have hmk : makeM (.mk K N S M L T) a = (if (vecM L a).2.2 ≠ 0 then ((vecM L a).1, (0, 0), (vecM L a).2.2) else allocM (vecM L a).1 ⟨2, 0, (vecM L a).2.1, []⟩) := by rw [makeM, if_neg k123, if_neg k5, if_neg k4', if_pos k8]
        refine go_count 58 L.length (fun i s' m' => ∃ a' vs X1, vecM (L.take i) a = (a', vs, 0) ∧ Ar X1 A a' m' ∧ (∀ j, X1 j → ((X j ∧ j < m.next) ∨ m4.next ≤ j) ∧ j < m'.next) ∧ KpC (fun j => (X j ∧ j < m.next) ∨ m4.next ≤ j) m4 m' ∧ Acc m4 m' 2 true (vals vs) (s'.at 9) ∧ vs.length ≤ i ∧ ∀ j, owns (s'.at 9) j → ¬ X1 j) (by simp) (by have := ft.l; omega) ⟨a, [], _, by simp [vecM], hA4, fun j h => ⟨.inl h, by omega⟩, .refl _ _, .inl ⟨rfl, by simp⟩, by simp, fun j hj => by simp at hj; exact (owns_emp.1 hj).elim⟩ ?_
        rintro i s' m' hi e58 ⟨a', vs, X1, hvec, hA', hX1, kc', hacc, hvl, hdis⟩ hsame hw Q' hn he
        have d2 : s'.at 2 = .ptr m.next 0 := (hsame 2 (by kernel_rfl)).trans (by simp)
        have d4 : s'.at 4 = .ptr (m.next + 2) 0 := (hsame 4 (by kernel_rfl)).trans (by simp)
        have d56 : s'.at 56 = .lst (encs L) := (hsame 56 (by kernel_rfl)).trans (by simp)
        have d57 : s'.at 57 = int L.length := (hsame 57 (by kernel_rfl)).trans (by simp)
        clear hsame
        have n' := kc'.next
        have g0 := (kc'.get m.next (by omega) (fun h => by omega)).trans e0
        have g2 := (kc'.get (m.next + 2) (by omega) (fun h => by omega)).trans e2
        simp [e58, d57]
        refine goB_split (fun h => ?_) fun h => ?_
        · have hlt : i < L.length := by simpa using h
          obtain ⟨x, hx⟩ : ∃ x, L[i]? = some x := ⟨_, List.getElem?_eq_getElem hlt⟩
          have hx' : (encs L)[i]? = some (enc x) := by rw [encs_get, hx]; rfl
          have hxL := List.mem_of_getElem? hx
          have hsz := size_mem hxL
          have hix := aindexAddr_lst (P := Tryz.prog) (q := .i64) Tryz.underlying43 tsize56 hx' (enc_cells_length x)
          have zd : List.drop 6 zeroCells = [] := rfl
          have n0 : m.next ≠ m'.next := by omega
          simp [e58, d56, hix, d2, g0, n0, zd]
          obtain ⟨M2, hM2⟩ : ∃ M2, M2 = (m'.new zeroCells false).set m'.next (enc x).cells := ⟨_, rfl⟩
          have kM : Kp m' M2 := by rw [hM2]; simp
          have nM : M2.next = m'.next + 1 := by rw [hM2]; simp
          rw [← hM2]
          refine goH_of (ih x (by omega) (fits_mem hf.2.1 hxL) (goods_in hgL hxL) X1 a' M2 (hA'.kp kM)) ?_
          rintro _ m5 ⟨rfl, hup⟩
          obtain ⟨X2, hA5, kc5, hX5⟩ := hup.out
          have n5 := kc5.next
          have g05 := (kc5.get m.next (by omega) (fun h => by have := hX1 _ h; omega)).trans ((kM.get m.next (by omega)).trans g0)
          have g25 := (kc5.get (m.next + 2) (by omega) (fun h => by have := hX1 _ h; omega)).trans ((kM.get (m.next + 2) (by omega)).trans g2)
          have kct : KpC (fun j => (X j ∧ j < m.next) ∨ m4.next ≤ j) m4 m5 := (kc'.trans (.of (.of kM))).trans (kc5.mono fun j h => (hX1 j h).1)
          have htk : vecM (L.take (i + 1)) a = vecM (L.take i ++ [x]) a := by
            obtain ⟨h1, h2⟩ := List.getElem?_eq_some_iff.1 hx
            rw [List.take_succ_eq_append_getElem h1, h2]
          rw [vecM_app _ _ _ (by rw [hvec])] at htk
          simp only [hvec] at htk
          have hall : L = L.take i ++ x :: L.drop (i + 1) := by
            obtain ⟨h1, h2⟩ := List.getElem?_eq_some_iff.1 hx
            rw [← h2, List.getElem_cons_drop, List.take_append_drop]
          have hvA := vecM_app (L.take i) (x :: L.drop (i + 1)) a (by rw [hvec])
          rw [← hall] at hvA
          simp only [hvec] at hvA
          by_cases hz : (makeM x a').2.2 = 0
          · have hmx : makeM x a' = ((makeM x a').1, (makeM x a').2.1, 0) := by rw [← hz]
            obtain ⟨M5, hM5⟩ : ∃ M5, M5 = (m5.new [int 0, int 0] false).set m5.next [int (makeM x a').2.1.1, int (makeM x a').2.1.2] := ⟨_, rfl⟩
            have k5' : Kp m5 M5 := by rw [hM5]; simp
            have n6 : M5.next = m5.next + 1 := by rw [hM5]; simp
            have hac5 : Acc m4 M5 2 true (vals vs) (s'.at 9) := (acc_keptC (hacc.kp kM) kc5 hdis).kp k5'
            have hsrc := src_one (m := M5.new (valA (makeM x a').2.1).cells false) (id := M5.next) (c := some 1) (k := 2) (ag := true) (x := valA (makeM x a').2.1) (w := M5.clock + 1) (f := false) rfl (by simp) (by simp) (by simp [valA])
            obtain ⟨v3, m6, p1, p2, p3, p4⟩ := acc_any (T := 66) (m := M5.new (valA (makeM x a').2.1).cells false) (zs := [valA (makeM x a').2.1]) (hac5.kp (.new _ _ _)) (by simp; omega) (vals_ok _) el66 (by simp [okAll_cons, okAll_nil]) (by simp [fzx, fzvs]) (by have := ft.l; simp; omega)
            have n7 := p3.next
            simp at n7
            simp only [valA_cells] at hsrc p1 p3 p4
            simp [hz]
            rw [← hM5]
            simp [abuildSlice, zeros, fillAt, abuiltin, hsrc, p1, e58, hw]
            have hX2l : ∀ j, X2 j → j < m5.next := fun j h => (hX5 j h).2
            have own9 : ∀ j, owns (s'.at 9) j → j < m'.next := fun j h => (acc_lt hacc j h).2
            have dis2 : ∀ j, owns (s'.at 9) j → ¬ X2 j := fun j h h2 => by
              rcases (hX5 j h2).1 with h3 | h3
              · exact hdis j h h3
              · have := own9 j h; omega
            refine hn _ _ hlt (by simp) ⟨(makeM x a').1, vs ++ [(makeM x a').2.1], X2, by rw [htk]; simp [vecM, hz], ?_, fun j h => ⟨?_, ?_⟩, ?_, ?_, by simp; omega, fun j hj h2 => ?_⟩
            · refine (hA5.kp (k5'.trans (.new _ _ _))).kc p3 fun j h h2 => absurd h (dis2 j h2)
            · rcases (hX5 j h).1 with h3 | h3
              · exact (hX1 j h3).1
              · exact .inr (by omega)
            · have := hX2l j h; omega
            · refine (kct.trans (.of (.of (k5'.trans (.new _ _ _))))).trans (p3.mono fun j h => .inr ?_)
              exact (acc_lt hacc j h).1
            · rw [vals_append, vals_cons, vals_nil]
              simpa using p2
            · simp at hj
              rcases p4 j hj with h3 | h3
              · exact dis2 j h3 h2
              · have := hX2l j h2; simp at h3; omega
          · have hvz : vecM L a = ((makeM x a').1, vs, (makeM x a').2.2) := by rw [hvA]; simp [vecM, hz]
            have n25 : m.next + 2 ≠ m5.next := by omega
            have d13 : ∀ e : Int, int e = int e := fun _ => rfl
            simp [hz, build51, d4, g25, n25]
            refine he _ _ _ (by simp) ?_
            simp
            refine fin _ _ (0, 0) (makeM x a').2.2 (makeM x a').1 (by simp [d4]) (by simp) ⟨_, by simp; rfl⟩ (by rw [hmk, hvz]; simp [hz]) ?_
            refine (up_box (m5 := (m5.new [int 0, int 0] false).set m5.next [int (makeM x a').2.1.1, int (makeM x a').2.1.2]) k4 (kct.cut.trans (.of (.of (by simp)))) (hA5.kp (by simp)) (fun j h => ?_) (fun j h => h.2) (by omega) hlt2 _).less
            rcases (hX5 j h).1 with h3 | h3
            · exact (hX1 j h3).1
            · exact .inr (by omega)
        · have hge : i = L.length := by have := of_decide_eq_false h; omega
          subst hge
          simp
          refine he _ _ _ (by simp) ?_
          rw [List.take_length] at hvec
          obtain ⟨x9, hx9⟩ : ∃ x9, x9 = s'.at 9 := ⟨_, rfl⟩
          rw [← hx9] at hacc hdis
          have hxc : x9.okc = true ∧ x9.cells = [x9] := by
            rcases hacc with ⟨_, rfl⟩ | ⟨_, id, w, rfl, _⟩ <;> exact ⟨rfl, rfl⟩
          obtain ⟨m6, hz6, kc6⟩ := fz_cell (A := A) (k := 2) hacc
          have hA6 : Ar X1 A a' m6 := hA'.kc kc6 fun j h h2 => absurd h (hdis j h2)
          have n6 := kc6.next
          simp [d2, g0, ← hx9, abuild, placesOf, fillAt, hxc]
          refine goH_of (wph_fz Tryz.func60 rfl rfl rfl hz6 (by simp [fzvs]) (q60 hA6 ⟨2, 0, vs, []⟩ (by have := ft.l; simp; omega) (by simp))) ?_
          rintro _ m7 ⟨rfl, hup⟩
          obtain ⟨X2, hA7, kc7, hX7⟩ := hup.out
          have g26 := (kc6.get (m.next + 2) (by omega) (fun h => by have := (acc_lt hacc _ h).1; omega)).trans g2
          have g27 := (kc7.get (m.next + 2) (by omega) (fun h => by have := hX1 _ h; omega)).trans g26
          simp [d4, g27]
          refine fin _ _ (allocM a' ⟨2, 0, vs, []⟩).2.1 (allocM a' ⟨2, 0, vs, []⟩).2.2 (allocM a' ⟨2, 0, vs, []⟩).1 (by simp [d4]) (by simp) ⟨_, by simp; rfl⟩ (by rw [hmk, hvec]; simp) ?_
          have kall : KpC (fun j => (X j ∧ j < m.next) ∨ m4.next ≤ j) m4 m7 := (kc'.trans (kc6.mono fun j h => .inr (acc_lt hacc j h).1)).trans (kc7.mono fun j h => (hX1 j h).1)
          refine (up_box k4 kall.cut hA7 (fun j h => ?_) (fun j h => h.2) (by omega) hlt2 _).less
          rcases (hX7 j h).1 with h3 | h3
          · exact (hX1 j h3).1
          · exact .inr (by omega)
      have hmk : makeM (.mk K N S M L T) a = (if (lstM L (if K = 7 then tailM T a else (a, (4, 0), 0))).2.2 ≠ 0 then ((lstM L (if K = 7 then tailM T a else (a, (4, 0), 0))).1, (0, 0), (lstM L (if K = 7 then tailM T a else (a, (4, 0), 0))).2.2) else lstM L (if K = 7 then tailM T a else (a, (4, 0), 0))) := by rw [makeM, if_neg k123, if_neg k5, if_neg k4', if_neg k8]
      have q1 : m.next ≠ m4.next := by omega
      have q2 : m.next + 1 ≠ m4.next := by omega
      have q3 : m.next ≠ m4.next + 1 := by omega
      simp [k5, k4', k8, e0, e1, abuild, placesOf, fillAt, q1, q2, q3]
      obtain ⟨M5, hM5⟩ : ∃ M5, M5 = (((m4.new [int 0, int 0] false).new [int 0] false).set m4.next [int 4, int 0]).set (m4.next + 1) [int 0] := ⟨_, rfl⟩
      have kM5 : Kp m4 M5 := by rw [hM5]; simp
      have nM5 : M5.next = m4.next + 2 := by rw [hM5]; simp
      have gV : M5.get m4.next = some (.cells [int 4, int 0] false (m4.clock + 3)) := by rw [hM5]; simp
      have gE : M5.get (m4.next + 1) = some (.cells [int 0] false (m4.clock + 4)) := by rw [hM5]; simp
      have f0 := (kM5.get m.next (by omega)).trans e0
      have f1 := (kM5.get (m.next + 1) (by omega)).trans e1
      have f2 := (kM5.get (m.next + 2) (by omega)).trans e2
      have hA5 := hA4.kp kM5
      rw [← hM5]
      obtain ⟨r0, hr0⟩ : ∃ r0, r0 = (if K = 7 then tailM T a else (a, (4, 0), 0)) := ⟨_, rfl⟩
      rw [← hr0] at hmk
      refine goB_cut (fun s2 m2 => s2.at 2 = .ptr m.next 0 ∧ s2.at 3 = .ptr (m.next + 1) 0 ∧ s2.at 4 = .ptr (m.next + 2) 0 ∧ s2.at 14 = .ptr m4.next 0 ∧ s2.at 15 = .ptr (m4.next + 1) 0 ∧ LInv X A m4.next (m4.next + 1) m2.next m2.next m M5 r0 m2) (fun hk7 k' hk' => ?_) (fun hk7 k' hk' => ?_) ?_
      · have h7 : K = 7 := of_decide_eq_true hk7
        subst h7
        rw [if_pos rfl] at hr0
        obtain ⟨t, rfl⟩ : ∃ t, T = [t] := by
          rcases T with _ | ⟨t, _ | ⟨t2, T2⟩⟩
          · simp [alone] at hal
          · exact ⟨t, rfl⟩
          · simp [alone] at hal
        rw [tailM] at hr0
        have hszt := size_mem (by simp : t ∈ [t])
        have hix := aindexAddr_lst0 (P := Tryz.prog) (T := 43) (q := .i64) (x := enc t) (l := []) Tryz.underlying43 tsize56 (by simp)
        simp only [encs] at f1
        refine go_draw0 (by kernel_rfl) (by kernel_rfl) ?_
        simp [f0, f1, encs, hix]
        refine goH_of (ih t (by simp [sizes] at hszt hs; omega) (fits_mem hf.2.2 (by simp)) (goods_in hgT (by simp)) _ a M5 hA5) ?_
        rintro _ m6 ⟨rfl, hup⟩
        obtain ⟨X1, hA6, kc6, hX6⟩ := hup.out
        have n6 := kc6.next
        have gV6 := (kc6.get m4.next (by omega) (fun h => by omega)).trans gV
        have gE6 := (kc6.get (m4.next + 1) (by omega) (fun h => by omega)).trans gE
        have q4 : m4.next + 1 ≠ m4.next := by omega
        simp [gV6, gE6]
        refine hk' _ _ ⟨by simp, by simp, by simp, by simp, by simp, ?_⟩
        rw [hr0]
        have hB : ∀ j, X1 j → j ≠ m4.next ∧ j ≠ m4.next + 1 ∧ ((X j ∧ j < m.next) ∨ M5.next ≤ j) ∧ j < m6.next := fun j h => by
          rcases (hX6 j h).1 with h3 | h3
          · exact ⟨by omega, by omega, .inl h3, (hX6 j h).2⟩
          · exact ⟨by omega, by omega, .inr h3, (hX6 j h).2⟩
        refine ⟨X1, (hA6.kc (kc_set m4.next _ _) fun j h e => absurd e (hB j h).1).kc (kc_set (m4.next + 1) _ _) fun j h e => absurd e (hB j h).2.1, fun j h => ⟨(hB j h).2.2.1, by simpa using (hB j h).2.2.2, ?_, ?_⟩, ?_, ⟨m6.clock + 1, by simp⟩, ⟨m6.clock + 2, by simp⟩⟩
        · have := (hB j h).2.2.2; simp; omega
        · have := (hB j h).2.2.2; simp; omega
        · exact ((kc6.mono fun j h => .inl h).trans ((kc_set m4.next _ _).mono fun j h => .inr (.inr (.inl h)))).trans ((kc_set (m4.next + 1) _ _).mono fun j h => .inr (.inr (.inr h)))
      · have h7 : ¬ K = 7 := of_decide_eq_false hk7
        rw [if_neg h7] at hr0
        simp
        refine hk' _ _ ⟨by simp, by simp, by simp, by simp, by simp, ?_⟩
        rw [hr0]
        exact ⟨_, hA5, fun j h => ⟨.inl h, by omega, by omega, by omega⟩, .refl _ _, ⟨_, gV⟩, ⟨_, gE⟩⟩
      · rintro s2 m2 ⟨d2, d3, d4, d14, d15, X1, hA2, hX1, kc2, ⟨wV, gV2⟩, ⟨wE, gE2⟩⟩
        have n2 := kc2.next
        have own : ∀ j, m.next ≤ j → j < m4.next → ¬ ((X j ∧ j < m.next) ∨ M5.next ≤ j ∨ j = m4.next ∨ j = m4.next + 1) := fun j h1 h2 h => by omega
        have h0 := (kc2.get m.next (by omega) (own _ (by omega) (by omega))).trans f0
        have h1 := (kc2.get (m.next + 1) (by omega) (own _ (by omega) (by omega))).trans f1
        have h2 := (kc2.get (m.next + 2) (by omega) (own _ (by omega) (by omega))).trans f2
        simp [d3, h1, (q61 L m2).go]
        refine go_range (f := 108) (a := []) (b := [.ptr m2.next 0]) (by simp) (by kernel_rfl) ?_
        simp only [List.nil_append, List.singleton_append]
        generalize hcd : LCode.mk _ _ _ _ _ = c
        refine wph_mono (back108 (J := fun k mm => LInv X A m4.next (m4.next + 1) m2.next (m2.next + 1) m M5 (lstM (L.drop k) r0) mm ∧ has mm m2.next [.lst (encs L)] ∧ ∃ ver, mm.loop (m2.next + 1) = some ⟨.ready, none, c, ver⟩ ∧ m2.next + 1 < mm.next) L ft.l ?_ (fun k mm h => h.2.1) _ ?_) ?_
        · rintro k x mm hx ⟨⟨X2, hA7, hX2, kc7, ⟨uV, hV⟩, ⟨uE, hE⟩⟩, ⟨dbl, dbv, dbe⟩, ver, hloop, hlt⟩
          have hid : (m2.new [AV.lst (encs L)] false).next = m2.next + 1 := by simp
          rw [hid]
          refine wph_round hloop (by rw [← hcd]; rfl) ?_
          have c1 := congrArg LCode.assign hcd
          have c2 := congrArg LCode.body hcd
          have c3 := congrArg LCode.N hcd
          have c4 := congrArg LCode.s hcd
          have c5 := congrArg LCode.ps hcd
          dsimp only at c1 c2 c3 c4 c5
          simp only [← c1, ← c2, ← c3, ← c4, ← c5]
          have nn := kc7.next
          have h0' := (kc7.get m.next (by omega) (own _ (by omega) (by omega))).trans f0
          have zd : List.drop 6 zeroCells = [] := rfl
          have w1 : m4.next + 1 ≠ mm.next := by omega
          have w2 : m4.next + 1 ≠ mm.next + 1 := by omega
          have w3 : m.next ≠ mm.next := by omega
          have w4 : m.next ≠ mm.next + 1 := by omega
          have w5 : m4.next ≠ mm.next := by omega
          have w6 : m4.next ≠ mm.next + 1 := by omega
          have hstep : lstM (L.drop k) r0 = lstM (x :: L.drop (k + 1)) r0 := by
            obtain ⟨h1, h2⟩ := List.getElem?_eq_some_iff.1 hx
            rw [← h2, List.getElem_cons_drop]
          rw [hstep, lstM]
          generalize lstM (L.drop (k + 1)) r0 = r at hA7 hV hE ⊢
          simp [Sl.puts, hloop, d2, d14, d15, hE, w1, w2, w5, zd]
          by_cases hr : r.2.2 = 0
          rotate_left
          · simp [hr, hE, w1, w2, w5, d15]
            have km0 : KpC (fun j => j = m2.next + 1) mm (((((mm.new zeroCells false).set mm.next (enc x).cells).setLoop (m2.next + 1) .busy none c).new [int 0, int 0] false).setLoop (m2.next + 1) .ready none c) := ⟨by simp, fun id hi hx => by
              have a1 : id ≠ mm.next := by omega
              have a2 : id ≠ mm.next + 1 := by omega
              simp [a1, a2], fun id hi hx => by
              have a1 : id ≠ m2.next + 1 := hx
              simp [a1]⟩
            obtain ⟨r1, r2⟩ := linv_step (r := r) (V := m4.next) (E := m4.next + 1) hX2 kc7 ⟨dbl, dbv, dbe⟩ (by omega) hlt (by omega) (by omega) (by omega) (by omega) (km0.mono fun j h => .inr (.inr (.inr h))) (hA7.kc km0 fun j h e => absurd e (hX2 j h).2.2.2) (fun j h => ⟨.inl h, by have := (hX2 j h).2.1; simp; omega⟩) ⟨uV, by simp [w5, w6, hV]⟩ ⟨uE, by simp [w1, w2, w5, hE]⟩
            exact ⟨r1, r2, by omega⟩
          · simp [hr, d2, h0', w3, w4]
            obtain ⟨Mb, hMb⟩ : ∃ Mb, Mb = (((mm.new zeroCells false).set mm.next (enc x).cells).setLoop (m2.next + 1) .busy none c).new [int 0, int 0] false := ⟨_, rfl⟩
            have kb : KpC (fun j => j = m2.next + 1) mm Mb := by
              rw [hMb]
              exact ⟨by simp, fun id hi hx => by
                have a1 : id ≠ mm.next := by omega
                have a2 : id ≠ mm.next + 1 := by omega
                simp [a1, a2], fun id hi hx => by
                have a1 : id ≠ m2.next + 1 := hx
                simp [a1]⟩
            have nb : Mb.next = mm.next + 2 := by rw [hMb]; simp
            have hAb : Ar X2 A r.1 Mb := hA7.kc kb fun j h e => absurd e (hX2 j h).2.2.2
            have gbE : Mb.get (m4.next + 1) = some (.cells [int r.2.2] false uE) := by rw [hMb]; simp [w1, w2, w5, hE]
            have gbV : Mb.get m4.next = some (.cells [int r.2.1.1, int r.2.1.2] false uV) := by rw [hMb]; simp [w5, w6, hV]
            obtain ⟨uF, gbF⟩ : ∃ w, Mb.get (mm.next + 1) = some (.cells [int 0, int 0] false w) := ⟨_, by rw [hMb]; simp; rfl⟩
            obtain ⟨uL, lbL⟩ : ∃ w, Mb.loop (m2.next + 1) = some ⟨.busy, none, c, w⟩ := ⟨_, by rw [hMb]; simp; rfl⟩
            rw [← hMb]
            clear hMb
            have hxL := List.mem_of_getElem? hx
            have hszx := size_mem hxL
            have nX2 : ∀ j, m.next ≤ j → j < M5.next → ¬ X2 j := fun j q1 q2 h => by have := (hX2 j h).1; omega
            refine goH_of (ih x (by omega) (fits_mem hf.2.1 hxL) (goods_in hgL hxL) X2 r.1 Mb hAb) ?_
            rintro _ m6 ⟨rfl, hup⟩
            obtain ⟨X3, hA6, kc6, hX6⟩ := hup.out
            have n6 := kc6.next
            have g6E := (kc6.get (m4.next + 1) (by omega) (nX2 _ (by omega) (by omega))).trans gbE
            have g6V := (kc6.get m4.next (by omega) (nX2 _ (by omega) (by omega))).trans gbV
            have g6F := (kc6.get (mm.next + 1) (by omega) (fun h => by have := (hX2 _ h).2.1; omega)).trans gbF
            have l6 := (kc6.x (m2.next + 1) (by omega) (fun h => (hX2 _ h).2.2.2 rfl)).1.trans lbL
            have z1 : m4.next ≠ mm.next := by omega
            have z2 : mm.next ≠ m4.next := by omega
            have z3 : m4.next ≠ mm.next + 1 := by omega
            have z4 : mm.next + 1 ≠ m4.next := by omega
            simp [g6F, g6E, z1, z2, z3, z4, d15]
            by_cases hz : (makeM x r.1).2.2 = 0
            rotate_left
            · simp [hz, l6]
              have hX3 : ∀ j, X3 j → (X2 j ∨ mm.next + 2 ≤ j) ∧ j < m6.next := fun j h => ⟨(hX6 j h).1.imp id fun h => by omega, (hX6 j h).2⟩
              have hne : ∀ j, X3 j → j ≠ mm.next + 1 ∧ j ≠ m4.next + 1 ∧ j ≠ m2.next + 1 := fun j h => by
                rcases (hX3 j h).1 with q | q
                · have q1 := hX2 j q
                  exact ⟨by omega, fun e => nX2 _ (by omega) (by omega) (e ▸ q), q1.2.2.2⟩
                · omega
              have ks : KpC (fun j => (X2 j ∨ j = m4.next ∨ j = m4.next + 1 ∨ j = m2.next + 1) ∨ mm.next ≤ j) mm (((m6.set (mm.next + 1) [int (makeM x r.1).2.1.1, int (makeM x r.1).2.1.2]).set (m4.next + 1) [int (makeM x r.1).2.2]).setLoop (m2.next + 1) .ready none c) :=
                ((((kb.mono fun j h => .inl (.inr (.inr (.inr h)))).trans (kc6.mono fun j h => .inl (.inl h))).trans ((kc_set (mm.next + 1) _ _).mono fun j h => .inr (by omega))).trans ((kc_set (m4.next + 1) _ _).mono fun j h => .inl (.inr (.inr (.inl h))))).trans ((kc_loop (m2.next + 1) _ _ _ _).mono fun j h => .inl (.inr (.inr (.inr h))))
              obtain ⟨r1, r2⟩ := linv_step (r := ((makeM x r.1).1, r.2.1, (makeM x r.1).2.2)) (V := m4.next) (E := m4.next + 1) hX2 kc7 ⟨dbl, dbv, dbe⟩ (by omega) hlt (by omega) (by omega) (by omega) (by omega) ks.cut (((hA6.kc (kc_set (mm.next + 1) _ _) fun j h e => absurd e (hne j h).1).kc (kc_set (m4.next + 1) _ _) fun j h e => absurd e (hne j h).2.1).kc (kc_loop (m2.next + 1) _ _ _ _) fun j h e => absurd e (hne j h).2.2) (fun j h => ⟨(hX3 j h).1.imp id fun h => by omega, by have := (hX3 j h).2; simp; omega⟩) ⟨uV, by simp [z1, z2, z3, z4, g6V]⟩ ⟨m6.clock + 2, by simp⟩
              exact ⟨r1, r2, by omega⟩
            · have z5 : m.next ≠ m4.next + 1 := by omega
              have g60 := (kc6.get m.next (by omega) (nX2 _ (by omega) (by omega))).trans ((kb.get m.next (by omega) (by omega)).trans h0')
              simp [hz, d2, d14, g60, w4, z5, z1, z2, z3, z4, g6V, abuildSlice, zeros, fillAt, abuild, placesOf]
              have hX3 : ∀ j, X3 j → (X2 j ∨ mm.next + 2 ≤ j) ∧ j < m6.next := fun j h => ⟨(hX6 j h).1.imp id fun h => by omega, (hX6 j h).2⟩
              have hne : ∀ j, X3 j → j ≠ mm.next + 1 ∧ j ≠ m4.next + 1 ∧ j ≠ m2.next + 1 ∧ j ≠ m4.next := fun j h => by
                rcases (hX3 j h).1 with q | q
                · have q1 := hX2 j q
                  exact ⟨by omega, fun e => nX2 _ (by omega) (by omega) (e ▸ q), q1.2.2.2, fun e => nX2 _ (by omega) (by omega) (e ▸ q)⟩
                · omega
              obtain ⟨M7, hM7⟩ : ∃ M7, M7 = (((m6.set (mm.next + 1) [int (makeM x r.1).2.1.1, int (makeM x r.1).2.1.2]).set (m4.next + 1) [int 0]).new [int (makeM x r.1).2.1.1, int (makeM x r.1).2.1.2, int r.2.1.1, int r.2.1.2] false) := ⟨_, rfl⟩
              have ks7 : KpC (fun j => j = mm.next + 1 ∨ j = m4.next + 1) m6 M7 := by
                rw [hM7]
                exact (((kc_set (mm.next + 1) _ _).mono fun j h => .inl h).trans ((kc_set (m4.next + 1) _ _).mono fun j h => .inr h)).trans (.of (.of (.new _ _ _)))
              have n7 : M7.next = m6.next + 1 := by rw [hM7]; simp
              have hA7' : Ar X3 A (makeM x r.1).1 M7 := hA6.kc ks7 fun j h e => by have := hne j h; omega
              obtain ⟨w7, g7⟩ : ∃ w, M7.get m6.next = some (.cells [int (makeM x r.1).2.1.1, int (makeM x r.1).2.1.2, int r.2.1.1, int r.2.1.2] false w) := ⟨_, by rw [hM7]; simp; rfl⟩
              obtain ⟨u7E, g7E⟩ : ∃ w, M7.get (m4.next + 1) = some (.cells [int 0] false w) := ⟨m6.clock + 2, by
                have a1 : m4.next + 1 ≠ m6.next := by omega
                rw [hM7]; simp [a1]⟩
              have l7 : M7.loop (m2.next + 1) = some ⟨.busy, none, c, uL⟩ := by rw [hM7]; simp; exact l6
              rw [← hM7]
              clear hM7
              have hA8 : Ar X3 A (makeM x r.1).1 (M7.mark m6.next (flat (vals [(makeM x r.1).2.1, r.2.1])) w7) := hA7'.kc (kc_mark m6.next _ _ _) fun j h e => by have := (hX3 j h).2; omega
              refine goH_of (wph_fz Tryz.func60 rfl rfl rfl (fz_two (x := (makeM x r.1).2.1) (y := r.2.1) g7) (by simp [fzvs]) (q60 hA8 ⟨1, 0, [(makeM x r.1).2.1, r.2.1], []⟩ (by simp) (by simp))) ?_
              rintro _ m9 ⟨rfl, hup⟩
              obtain ⟨X4, hA9, kc9, hX9⟩ := hup.out
              have n9 := kc9.next
              simp [n7] at n9
              have nX3 : ∀ j, m.next ≤ j → j < M5.next → ¬ X3 j := fun j q1 q2 h => by
                rcases (hX3 j h).1 with q | q
                · exact nX2 j q1 q2 q
                · omega
              have kall : KpC (fun j => (X2 j ∨ j = m4.next ∨ j = m4.next + 1 ∨ j = m2.next + 1) ∨ mm.next ≤ j) mm m9 :=
                ((((kb.mono fun j h => .inl (.inr (.inr (.inr h)))).trans (kc6.mono fun j h => .inl (.inl h))).trans (ks7.mono fun j h => h.elim (fun h => .inr (by omega)) fun h => .inl (.inr (.inr (.inl h))))).trans ((kc_mark m6.next _ _ _).mono fun j h => .inr (by omega))).trans (kc9.mono fun j h => (hX3 j h).1.imp .inl fun h => by omega)
              have g9V : m9.get m4.next = some (.cells [int r.2.1.1, int r.2.1.2] false uV) := by
                rw [kc9.get m4.next (by simp; omega) (nX3 _ (by omega) (by omega))]
                have a1 : m4.next ≠ m6.next := by omega
                simp [a1]
                rw [ks7.get m4.next (by omega) (by omega)]
                exact g6V
              have g9E : m9.get (m4.next + 1) = some (.cells [int 0] false u7E) := by
                rw [kc9.get (m4.next + 1) (by simp; omega) (nX3 _ (by omega) (by omega))]
                have a1 : m4.next + 1 ≠ m6.next := by omega
                simp [a1]
                exact g7E
              have l9 : m9.loop (m2.next + 1) = some ⟨.busy, none, c, uL⟩ := by
                rw [(kc9.x (m2.next + 1) (by simp; omega) (fun h => (hne _ h).2.2.1 rfl)).1]
                simp
                exact l7
              simp [d14, d15, g9V, g9E, l9]
              have hX4 : ∀ j, X4 j → (X2 j ∨ mm.next + 2 ≤ j) ∧ j < m9.next := fun j h => by
                refine ⟨?_, (hX9 j h).2⟩
                rcases (hX9 j h).1 with q | q
                · exact (hX3 j q).1
                · simp at q; exact .inr (by omega)
              have hne4 : ∀ j, X4 j → j ≠ m4.next + 1 ∧ j ≠ m2.next + 1 ∧ j ≠ m4.next := fun j h => by
                rcases (hX4 j h).1 with q | q
                · exact ⟨fun e => nX2 _ (by omega) (by omega) (e ▸ q), (hX2 j q).2.2.2, fun e => nX2 _ (by omega) (by omega) (e ▸ q)⟩
                · omega
              obtain ⟨al, hal2⟩ : ∃ al, al = allocM (makeM x r.1).1 ⟨1, 0, [(makeM x r.1).2.1, r.2.1], []⟩ := ⟨_, rfl⟩
              rw [← hal2] at hA9 ⊢
              have ks : KpC (fun j => (X2 j ∨ j = m4.next ∨ j = m4.next + 1 ∨ j = m2.next + 1) ∨ mm.next ≤ j) mm (((m9.set m4.next [int al.2.1.1, int al.2.1.2]).set (m4.next + 1) [int al.2.2]).setLoop (m2.next + 1) .ready none c) :=
                ((kall.trans ((kc_set m4.next _ _).mono fun j h => .inl (.inr (.inl h)))).trans ((kc_set (m4.next + 1) _ _).mono fun j h => .inl (.inr (.inr (.inl h))))).trans ((kc_loop (m2.next + 1) _ _ _ _).mono fun j h => .inl (.inr (.inr (.inr h))))
              obtain ⟨r1, r2⟩ := linv_step (r := al) (V := m4.next) (E := m4.next + 1) hX2 kc7 ⟨dbl, dbv, dbe⟩ (by omega) hlt (by omega) (by omega) (by omega) (by omega) ks.cut (((hA9.kc (kc_set m4.next _ _) fun j h e => absurd e (hne4 j h).2.2).kc (kc_set (m4.next + 1) _ _) fun j h e => absurd e (hne4 j h).1).kc (kc_loop (m2.next + 1) _ _ _ _) fun j h e => absurd e (hne4 j h).2.1) (fun j h => ⟨(hX4 j h).1.imp id fun h => by omega, by have := (hX4 j h).2; simp; omega⟩) ⟨m9.clock + 1, by simp⟩ ⟨m9.clock + 2, by simp⟩
              exact ⟨r1, r2, by omega⟩
        · rw [List.drop_length, lstM]
          have w5 : m4.next ≠ m2.next := by omega
          have w6 : m4.next + 1 ≠ m2.next := by omega
          refine ⟨⟨X1, hA2.kp (by simp), fun j h => ⟨(hX1 j h).1, ?_, (hX1 j h).2.2.1, ?_⟩, kc2.trans (.of (.of (by simp))), ⟨wV, by simp [w5, gV2]⟩, ⟨wE, by simp [w6, gE2]⟩⟩, ⟨by simp, _, by simp; rfl⟩, _, by simp; rfl, by simp⟩
          · have := (hX1 j h).2.1; simp; omega
          · have := (hX1 j h).2.1; omega
        · rintro v mm ⟨rfl, ⟨X2, hA7, hX2, kc7, ⟨uV, hV⟩, ⟨uE, hE⟩⟩, _, ver, hloop, hlt⟩
          rw [List.drop_zero] at hA7 hV hE
          have nn := kc7.next
          have h2' := (kc7.get (m.next + 2) (by omega) (own _ (by omega) (by omega))).trans f2
          have kfin : KpC (fun j => X j ∧ j < m.next) m4 (mm.killLoop (m2.next + 1)) := by
            have a1 : KpC (fun j => (X j ∧ j < m.next) ∨ m4.next ≤ j) m4 mm := (KpC.of (.of kM5)).trans (kc7.mono fun j h => h.imp id fun h => by omega)
            have a2 : KpC (fun j => (X j ∧ j < m.next) ∨ m4.next ≤ j) mm (mm.killLoop (m2.next + 1)) := ⟨by simp, fun id hi hx => by simp, fun id hi hx => by
              have : id ≠ m2.next + 1 := fun e => hx (.inr (by omega))
              simp [this]⟩
            exact (a1.trans a2).cut
          have hA8 : Ar X2 A (lstM L r0).1 (mm.killLoop (m2.next + 1)) := hA7.kc (Y := fun j => j = m2.next + 1) ⟨by simp, fun id hi hx => by simp, fun id hi hx => by
            have : id ≠ m2.next + 1 := hx
            simp [this]⟩ fun j h e => absurd e (hX2 j h).2.2.2
          have hX8 : ∀ j, X2 j → (X j ∧ j < m.next) ∨ m4.next ≤ j := fun j h => (hX2 j h).1.imp id fun h => by omega
          refine ⟨_, .normal, by simpa using hloop, by simp, rfl, ?_⟩
          by_cases hz : (lstM L r0).2.2 = 0
          · simp [d15, d14, d4, hE, hV, hz, h2']
            refine fin _ _ (lstM L r0).2.1 0 (lstM L r0).1 (by simp [d4]) (by simp) ⟨_, by simp; rfl⟩ (by rw [hmk, if_neg (by simp [hz]), ← hz]) ?_
            exact (up_box k4 kfin hA8 hX8 (fun j h => h.2) (by omega) hlt2 _).less
          · simp [d15, d14, d4, hE, hV, hz]
            refine go_drawD (by kernel_rfl) ?_
            simp [d15, d14, d4, hE, hV, hz, h2', build51]
            have w7 : m4.next + 1 ≠ m.next + 2 := by omega
            have w8 : m4.next ≠ m.next + 1 := by omega
            refine goM_of (l := [(1, 2)]) (by kernel_rfl) (?_ : List.all _ _ = true) ?_
            · simp [metAtD, metOkD, rank, verKeptD, Region.wanted, Mem.ver, hE, w7, Ne.symm w7, w8]
            simp [d4]
            refine fin _ _ (0, 0) (lstM L r0).2.2 (lstM L r0).1 (by simp [d4]) (by simp) ⟨_, by simp; rfl⟩ (by rw [hmk, if_pos hz]) ?_
            exact (up_box k4 kfin hA8 hX8 (fun j h => h.2) (by omega) hlt2 _).less
end Go.Proofs.YtnhcmcfgemoehaaGreat
