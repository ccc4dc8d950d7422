import Derived.Test.YtnhcmcfgemoehaaGreatAGoodP
/- What the procedures of lists do. -/
set_option linter.unusedSimpArgs false
set_option linter.unusedVariables false
set_option linter.unusedSectionVars false
namespace Go.Proofs.YtnhcmcfgemoehaaGreat
set_option maxRecDepth 4000
open Go.V
attribute [local simp] Nat.add_assoc

theorem failK_0 (k : Int) : failK 0 k = k := if_pos rfl
theorem listK_0 {C A : Nat} {n : Int} {l : List Val} {r : List Val × Int} {m m' : Mem} {v : AV} (h : ListK C A n l 0 r m v m') : Acc m m' 2 true (vals r.1) v ∧ KpC (fun j => j = C) m m' ∧ has m' C (clC A n l r.2) := by
  refine ⟨h.1, h.2.1, ?_⟩
  have := h.2.2
  rw [failK_0] at this
  by_cases h0 : r.2 = 0
  · rw [if_pos h0] at this
    rw [h0]; exact this
  · rwa [if_neg h0] at this
theorem listM_len (a : ArM) : ∀ (n : Nat) (v : Val), (listM a n v).1.length ≤ n
  | n, v => by
    by_cases h : (getM a v).1.k = 1
    · cases n with
      | zero => simp [listM_0 h]
      | succ n =>
        have := listM_len a n (cdrM a v)
        rw [listM_s h]
        split
        · simp; omega
        · simp
    · rw [listM_no h]
      split <;> simp
theorem Cs.of_c {X : Nat → Prop} {A C : Nat} {n : Int} {l : List Val} {a : ArM} {k : Int} {m m' : Mem} (hA : Ar X A a m) (hX : ∀ j, X j → j < m.next) (hXC : ¬ X C) (kc : KpC (fun j => j = C) m m') (hC : has m' C (clC A n l k)) : Cs X A C n l a k m m' :=
  ⟨X, hA.kc kc fun j h e => absurd h (e ▸ hXC), fun j h => ⟨.inl h, Nat.lt_of_lt_of_le (hX j h) kc.next⟩, kc.mono fun j h => .inr h, hC⟩
/-- Values of one's own, as they are handed on. -/
theorem fz_acc {m0 m : Mem} {C : Nat} {l : List Val} {x : AV} {e : Val} (h : Acc m0 m 2 true (vals l) x) : ∃ m', fzvs m [.ptr C 0, x, .agg [int e.1, int e.2]] = ([.ptr C 0, .lst (vals l), valA e], m') ∧ KpC (owns x) m m' := by
  have lv : Lv m0 m 2 true (vals l) x := by
    rcases h with ⟨h1, h2⟩ | ⟨h, id, w, h1, h2, h3, h4⟩
    · exact .inl ⟨0, by omega, h1, h2⟩
    · exact .inr (.inr ⟨id, w, none, h1, h2, h3, h4⟩)
  obtain ⟨m', e1, e2⟩ := lv.fz rfl (vals_row l) (vals_ok l)
  have ok : x.okc = true ∧ x.cells = [x] := by
    rcases h with ⟨_, rfl⟩ | ⟨_, id, w, rfl, _⟩ <;> exact ⟨rfl, rfl⟩
  have ex : fzv m x = fz1 m x := by rcases h with ⟨_, rfl⟩ | ⟨_, id, w, rfl, _⟩ <;> rfl
  refine ⟨m', ?_, e2⟩
  simp [fzvs, ex, e1, valA_agg]
theorem Cs.after {X : Nat → Prop} {A C : Nat} {n : Int} {l : List Val} {a : ArM} {k : Int} {m m1 m' : Mem} (kc : KpC (fun j => X j ∨ j = C) m m1) (h : Cs X A C n l a k m1 m') : Cs X A C n l a k m m' := by
  obtain ⟨X', h1, h2, h3, h4⟩ := h
  have := kc.next
  exact ⟨X', h1, fun j hj => ⟨(h2 j hj).1.imp id fun h => by omega, (h2 j hj).2⟩, kc.trans h3, h4⟩
set_option maxHeartbeats 8000000 in
theorem q70_23 {X : Nat → Prop} {A C : Nat} {l : List Val} {a : ArM} {m : Mem} (hA : Ar X A a m) (hX : ∀ j, X j → j < m.next) (hsm : Small a) (hp : Pairs a) (hXC : ¬ X C) (hC : has m C (clC A 23 l 0)) {v : Val} (hv : l[0]? = some v) {res : Val × ArM × Int} (hres : res = ((1, ((listM a 1024 v).1.length : Int)), a, (listM a 1024 v).2)) : wph Tryz.prog ca (.func 70) [.ptr C 0] m fun r m' => r = valA res.1 ∧ Cs X A C 23 l res.2.1 res.2.2 m m' := by
  have hC0 := hC
  obtain ⟨hCl, w, hg⟩ := hC
  refine wph_go Tryz.func70 rfl rfl (by simp [Tryz.f70]) (by simp [Tryz.f70]) fun Q hQ => ?_
  simp only [Tryz.f70, show ca.keepRes 70 = false from rfl, show ca.keepArgs 70 = false from rfl] at hQ ⊢
  obtain ⟨M1, hM1⟩ : ∃ M1, M1 = (((m.new [.ptr C 0] false).new [int 0, int 0] false).new [int 0, int 0] false).set (m.next + 2) [int 4, int 0] := ⟨_, rfl⟩
  have k1 : Kp m M1 := by rw [hM1]; simp
  have n1 : M1.next = m.next + 3 := by rw [hM1]; simp
  have b0 : M1.get m.next = some (.cells [.ptr C 0] false (m.clock + 1)) := by rw [hM1]; simp
  have b1 : M1.get (m.next + 1) = some (.cells [int 0, int 0] false (m.clock + 2)) := by rw [hM1]; simp
  have b2 : M1.get (m.next + 2) = some (.cells [int 4, int 0] false (m.clock + 4)) := by rw [hM1]; simp
  have bC := (k1.get C hCl).trans hg
  have c0 : C ≠ m.next := by omega
  have c1 : C ≠ m.next + 1 := by omega
  have c2 : C ≠ m.next + 2 := by omega
  have hC1 := hC0.kp k1
  have hA1 := hA.kp k1
  simp [abuild, placesOf, fillAt, hg, c0, c1, c2]
  rw [← hM1]
  clear hM1
  have fin : ∀ (s' : Sl) (m7 : Mem), s'.at 2 = .ptr (m.next + 1) 0 → (∃ w, m7.get (m.next + 1) = some (.cells [int res.1.1, int res.1.2] false w)) → Cs X A C 23 l res.2.1 res.2.2 m m7 → Q .ret s' m7 := by
    intro s' m7 h2 ⟨w, hg⟩ hcs
    refine hQ _ _ _ ?_
    rw [leave_ret]
    refine ⟨[valA res.1], by simp [aresult, h2, hg, aload, partOf, valA_agg], ?_⟩
    simp only [Bool.false_eq_true, if_false, oneOf, fzr_valA]
    exact ⟨trivial, hcs⟩
  have hix : aindexAddr Tryz.prog 66 (.lst (vals l)) (int 0) = some ((valA v).cptr 0) := vals_at (i := 0) hv
  refine go_draw0 (by kernel_rfl) (by kernel_rfl) ?_
  simp [b0, bC, hix]
  refine goH_of (q130 hA1 hsm hp hXC hC1 v) ?_
  intro x m2 hl
  obtain ⟨hacc, kc, hC2⟩ := listK_0 hl
  have n2 := kc.next
  have ln := acc_len hacc
  have e1 := (kc.get (m.next + 1) (by omega) (by omega)).trans b1
  simp [ln, (q126 _).go, e1, valA_agg]
  subst hres
  exact fin _ _ (by simp) ⟨_, by simp; rfl⟩ (Cs.box k1 hX hCl (Cs.of_c hA1 (fun j h => by have := hX j h; omega) hXC kc hC2) (by omega) (by omega) _)
set_option maxHeartbeats 8000000 in
theorem q70_25 {X : Nat → Prop} {A C : Nat} {l : List Val} {a : ArM} {m : Mem} (hA : Ar X A a m) (hX : ∀ j, X j → j < m.next) (hsm : Small a) (hp : Pairs a) (hXC : ¬ X C) (hC : has m C (clC A 25 l 0)) {v : Val} (hv : l[0]? = some v) {res : Val × ArM × Int} (hres : res = (aheadM a (listM a 1024 v).2 (4, 0) (listM a 1024 v).1.reverse)) : wph Tryz.prog ca (.func 70) [.ptr C 0] m fun r m' => r = valA res.1 ∧ Cs X A C 25 l res.2.1 res.2.2 m m' := by
  have hC0 := hC
  obtain ⟨hCl, w, hg⟩ := hC
  refine wph_go Tryz.func70 rfl rfl (by simp [Tryz.f70]) (by simp [Tryz.f70]) fun Q hQ => ?_
  simp only [Tryz.f70, show ca.keepRes 70 = false from rfl, show ca.keepArgs 70 = false from rfl] at hQ ⊢
  obtain ⟨M1, hM1⟩ : ∃ M1, M1 = (((m.new [.ptr C 0] false).new [int 0, int 0] false).new [int 0, int 0] false).set (m.next + 2) [int 4, int 0] := ⟨_, rfl⟩
  have k1 : Kp m M1 := by rw [hM1]; simp
  have n1 : M1.next = m.next + 3 := by rw [hM1]; simp
  have b0 : M1.get m.next = some (.cells [.ptr C 0] false (m.clock + 1)) := by rw [hM1]; simp
  have b1 : M1.get (m.next + 1) = some (.cells [int 0, int 0] false (m.clock + 2)) := by rw [hM1]; simp
  have b2 : M1.get (m.next + 2) = some (.cells [int 4, int 0] false (m.clock + 4)) := by rw [hM1]; simp
  have bC := (k1.get C hCl).trans hg
  have c0 : C ≠ m.next := by omega
  have c1 : C ≠ m.next + 1 := by omega
  have c2 : C ≠ m.next + 2 := by omega
  have hC1 := hC0.kp k1
  have hA1 := hA.kp k1
  simp [abuild, placesOf, fillAt, hg, c0, c1, c2]
  rw [← hM1]
  clear hM1
  have fin : ∀ (s' : Sl) (m7 : Mem), s'.at 2 = .ptr (m.next + 1) 0 → (∃ w, m7.get (m.next + 1) = some (.cells [int res.1.1, int res.1.2] false w)) → Cs X A C 25 l res.2.1 res.2.2 m m7 → Q .ret s' m7 := by
    intro s' m7 h2 ⟨w, hg⟩ hcs
    refine hQ _ _ _ ?_
    rw [leave_ret]
    refine ⟨[valA res.1], by simp [aresult, h2, hg, aload, partOf, valA_agg], ?_⟩
    simp only [Bool.false_eq_true, if_false, oneOf, fzr_valA]
    exact ⟨trivial, hcs⟩
  have hix : aindexAddr Tryz.prog 66 (.lst (vals l)) (int 0) = some ((valA v).cptr 0) := vals_at (i := 0) hv
  refine go_draw0 (by kernel_rfl) (by kernel_rfl) ?_
  simp [b0, bC, hix]
  refine goH_of (q130 hA1 hsm hp hXC hC1 v) ?_
  intro x m2 hl
  obtain ⟨hacc, kc, hC2⟩ := listK_0 hl
  have ll : (listM a 1024 v).1.length ≤ 4096 := by have := listM_len a 1024 v; omega
  simp
  refine goH_of (q131 hacc ll) ?_
  rintro _ m3 ⟨hacc3, kc3⟩
  have n2 := kc.next
  have n3 := kc3.next
  have own : ∀ j, owns x j → M1.next ≤ j := fun j h => (acc_lt hacc j h).1
  have f0 := (kc3.get m.next (by omega) fun h => by have := own _ h; omega).trans ((kc.get m.next (by omega) (by omega)).trans b0)
  have f1 := (kc3.get (m.next + 1) (by omega) fun h => by have := own _ h; omega).trans ((kc.get (m.next + 1) (by omega) (by omega)).trans b1)
  have f2 := (kc3.get (m.next + 2) (by omega) fun h => by have := own _ h; omega).trans ((kc.get (m.next + 2) (by omega) (by omega)).trans b2)
  have hC3 := hC2.kc kc3 fun h => by have := own _ h; omega
  simp [f0, f2]
  obtain ⟨m4, ez, kz⟩ := fz_acc (C := C) (e := (4, 0)) hacc3
  have n4 := kz.next
  have g1 := (kz.get (m.next + 1) (by omega) fun h => by have := own _ h; omega).trans f1
  have hC4 := hC3.kc kz fun h => by have := own _ h; omega
  have kall : KpC (fun j => j = C) M1 m4 := KpC.cut (((kc.mono fun j h => .inl h).trans (kc3.mono fun j h => .inr (own j h))).trans (kz.mono fun j h => .inr (own j h)))
  have hA4 : Ar X A a m4 := hA1.kc kall fun j h e => absurd h (e ▸ hXC)
  refine goH_of (wph_fz Tryz.func129 rfl rfl rfl ez (by simp [fzvs]) (q129 hA4 (fun j h => by have := hX j h; omega) hXC hC4 (listM a 1024 v).1.reverse (by simp; omega) (4, 0))) ?_
  rintro _ m5 ⟨rfl, hcs⟩
  have hcs1 := hcs.after (kall.mono fun j h => .inr h)
  obtain ⟨X', _, _, kc5, _⟩ := id hcs1
  have e1 := (kc5.get (m.next + 1) (by omega) (fun h => by rcases h with h | h; have := hX _ h; omega; omega)).trans b1
  simp [e1, valA_agg]
  subst hres
  exact fin _ _ (by simp) ⟨_, by simp; rfl⟩ (Cs.box k1 hX hCl hcs1 (by omega) (by omega) _)
set_option maxHeartbeats 8000000 in
theorem q70_26 {X : Nat → Prop} {A C : Nat} {l : List Val} {a : ArM} {m : Mem} (hA : Ar X A a m) (hX : ∀ j, X j → j < m.next) (hsm : Small a) (hp : Pairs a) (hXC : ¬ X C) (hC : has m C (clC A 26 l 0)) {v i : Val} (hv : l[0]? = some v) (hi : l[1]? = some i) {res : Val × ArM × Int} (hres : res = ((listRefM a 0 v i.2).1, a, (listRefM a 0 v i.2).2)) : wph Tryz.prog ca (.func 70) [.ptr C 0] m fun r m' => r = valA res.1 ∧ Cs X A C 26 l res.2.1 res.2.2 m m' := by
  have hC0 := hC
  obtain ⟨hCl, w, hg⟩ := hC
  refine wph_go Tryz.func70 rfl rfl (by simp [Tryz.f70]) (by simp [Tryz.f70]) fun Q hQ => ?_
  simp only [Tryz.f70, show ca.keepRes 70 = false from rfl, show ca.keepArgs 70 = false from rfl] at hQ ⊢
  obtain ⟨M1, hM1⟩ : ∃ M1, M1 = (((m.new [.ptr C 0] false).new [int 0, int 0] false).new [int 0, int 0] false).set (m.next + 2) [int 4, int 0] := ⟨_, rfl⟩
  have k1 : Kp m M1 := by rw [hM1]; simp
  have n1 : M1.next = m.next + 3 := by rw [hM1]; simp
  have b0 : M1.get m.next = some (.cells [.ptr C 0] false (m.clock + 1)) := by rw [hM1]; simp
  have b1 : M1.get (m.next + 1) = some (.cells [int 0, int 0] false (m.clock + 2)) := by rw [hM1]; simp
  have b2 : M1.get (m.next + 2) = some (.cells [int 4, int 0] false (m.clock + 4)) := by rw [hM1]; simp
  have bC := (k1.get C hCl).trans hg
  have c0 : C ≠ m.next := by omega
  have c1 : C ≠ m.next + 1 := by omega
  have c2 : C ≠ m.next + 2 := by omega
  have hC1 := hC0.kp k1
  have hA1 := hA.kp k1
  simp [abuild, placesOf, fillAt, hg, c0, c1, c2]
  rw [← hM1]
  clear hM1
  have fin : ∀ (s' : Sl) (m7 : Mem), s'.at 2 = .ptr (m.next + 1) 0 → (∃ w, m7.get (m.next + 1) = some (.cells [int res.1.1, int res.1.2] false w)) → Cs X A C 26 l res.2.1 res.2.2 m m7 → Q .ret s' m7 := by
    intro s' m7 h2 ⟨w, hg⟩ hcs
    refine hQ _ _ _ ?_
    rw [leave_ret]
    refine ⟨[valA res.1], by simp [aresult, h2, hg, aload, partOf, valA_agg], ?_⟩
    simp only [Bool.false_eq_true, if_false, oneOf, fzr_valA]
    exact ⟨trivial, hcs⟩
  have hix : aindexAddr Tryz.prog 66 (.lst (vals l)) (int 0) = some ((valA v).cptr 0) := vals_at (i := 0) hv
  have hix1 : aindexAddr Tryz.prog 66 (.lst (vals l)) (int 1) = some ((valA i).cptr 0) := vals_at (i := 1) hi
  refine go_draw0 (by kernel_rfl) (by kernel_rfl) ?_
  simp [b0, bC, hix, hix1, valA_agg]
  refine goH_of (q132 hA1 hsm hp hXC hC1 v i.2) ?_
  rintro _ m2 ⟨rfl, kc, hC2⟩
  have e1 := (kc.get (m.next + 1) (by omega) (by omega)).trans b1
  simp [e1, valA_agg]
  subst hres
  exact fin _ _ (by simp) ⟨_, by simp; rfl⟩ (Cs.box k1 hX hCl (Cs.of_c hA1 (fun j h => by have := hX j h; omega) hXC kc hC2) (by omega) (by omega) _)
end Go.Proofs.YtnhcmcfgemoehaaGreat

/- What lists together are. -/
namespace Go.Proofs.YtnhcmcfgemoehaaGreat
set_option maxRecDepth 4000
open Go.V
attribute [local simp] Nat.add_assoc

/-- Lists' values; what is wrong with one of them. -/
def listsM (a : ArM) : List Val → List (List Val) × Int
  | [] => ([], 0)
  | x :: xs => if (listM a 1024 x).2 ≠ 0 then ([], (listM a 1024 x).2) else if (listsM a xs).2 ≠ 0 then ([], (listsM a xs).2) else ((listM a 1024 x).1 :: (listsM a xs).1, 0)
theorem listsM_app (a : ArM) : ∀ (l r : List Val), (listsM a l).2 = 0 → listsM a (l ++ r) = if (listsM a r).2 ≠ 0 then ([], (listsM a r).2) else ((listsM a l).1 ++ (listsM a r).1, 0)
  | [], r, _ => by
    simp only [List.nil_append, listsM]
    split
    · rename_i h
      induction r with
      | nil => rfl
      | cons x xs ih =>
        rw [listsM] at h ⊢
        split
        · rfl
        · rename_i h1
          rw [if_neg h1] at h
          split
          · rfl
          · rename_i h2; rw [if_neg h2] at h; exact absurd rfl h
    · rename_i h
      have h : (listsM a r).2 = 0 := by omega
      rw [← h]
  | x :: l, r, h => by
    rw [listsM] at h
    split at h
    · rename_i h1; exact absurd h h1
    · rename_i h1
      split at h
      · rename_i h2; exact absurd h h2
      · rename_i h2
        have ih := listsM_app a l r (by omega)
        rw [List.cons_append, listsM, if_neg h1, ih, listsM, if_neg h1, if_neg h2]
        split
        · rfl
        · rename_i h3; simp
/-- Lists ahead of a value, the last one first. -/
def foldM (a : ArM) (e : Val) : List (List Val) → Val × ArM × Int
  | [] => (e, a, 0)
  | x :: xs => aheadM (foldM a e xs).2.1 (foldM a e xs).2.2 (foldM a e xs).1 x
/-- A slice of one's own, as it is laid into another one. -/
theorem fz_live {m0 m : Mem} {l : List Val} {x : AV} (h : Acc m0 m 2 true (vals l) x) : ∃ m', fzv m x = (.lst (vals l), m') ∧ KpC (owns x) m m' := by
  have lv : Lv m0 m 2 true (vals l) x := by
    rcases h with ⟨h1, h2⟩ | ⟨h, id, w, h1, h2, h3, h4⟩
    · exact .inl ⟨0, by omega, h1, h2⟩
    · exact .inr (.inr ⟨id, w, none, h1, h2, h3, h4⟩)
  obtain ⟨m', e1, e2⟩ := lv.fz rfl (vals_row l) (vals_ok l)
  have ex : fzv m x = fz1 m x := by rcases h with ⟨_, rfl⟩ | ⟨_, id, w, rfl, _⟩ <;> rfl
  exact ⟨m', ex.trans e1, e2⟩
theorem okl : ∀ ys : List (List Val), okAll 1 (lists ys) = true
  | [] => rfl
  | y :: ys => by
    have := okl ys
    simp only [lists] at this
    simp [lists, okAll_cons, this]
theorem fz_lists {m0 m : Mem} {ys : List (List Val)} {x : AV} (h : Acc m0 m 1 false (lists ys) x) : ∃ m', fzvs m [x] = ([.lst (lists ys)], m') ∧ KpC (owns x) m m' := by
  have lv : Lv m0 m 1 false (lists ys) x := by
    rcases h with ⟨h1, h2⟩ | ⟨h, id, w, h1, h2, h3, h4⟩
    · exact .inl ⟨0, by omega, h1, h2⟩
    · exact .inr (.inr ⟨id, w, none, h1, h2, h3, h4⟩)
  obtain ⟨m', e1, e2⟩ := lv.fz rfl (fun y hy => by
    obtain ⟨p, _, rfl⟩ := List.mem_map.1 hy
    simp) (okl ys)
  have ex : fzv m x = fz1 m x := by rcases h with ⟨_, rfl⟩ | ⟨_, id, w, rfl, _⟩ <;> rfl
  exact ⟨m', by simp [fzvs, ex, e1], e2⟩
theorem listsM_len (a : ArM) : ∀ (l : List Val) (y : List Val), y ∈ (listsM a l).1 → y.length ≤ 1024
  | [], y, h => by simp [listsM] at h
  | x :: l, y, h => by
    rw [listsM] at h
    split at h
    · simp at h
    · split at h
      · simp at h
      · rcases List.mem_cons.1 h with rfl | h
        · exact listM_len a 1024 x
        · exact listsM_len a l y h
/-- What is so while lists are laid ahead of a value. -/
def JF (X : Nat → Prop) (A C : Nat) (n : Int) (l0 : List Val) (m : Mem) (T D : Nat) (c : LCode) (ys : List (List Val)) (r : Val × ArM × Int) (mm : Mem) : Prop :=
  (∃ X1, Ar X1 A r.2.1 mm ∧ ∀ j, X1 j → (X j ∨ D + 2 ≤ j) ∧ j < mm.next) ∧ KpC (fun j => X j ∨ j = C) m mm ∧ has mm C (clC A n l0 r.2.2) ∧ (∃ w, mm.get m.next = some (.cells [.ptr C 0] false w)) ∧ (∃ w, mm.get (m.next + 1) = some (.cells [int 0, int 0] false w)) ∧ (∃ w, mm.get T = some (.cells [int r.1.1, int r.1.2] false w)) ∧ has mm D [.lst (lists ys)] ∧ (∃ ver, mm.loop (D + 1) = some ⟨.ready, none, c, ver⟩) ∧ D + 2 ≤ mm.next
def appendM (a : ArM) (l : List Val) : Val × ArM × Int := if l = [] then ((4, 0), a, 0) else if (listsM a l.dropLast).2 ≠ 0 then ((4, 0), a, (listsM a l.dropLast).2) else foldM a (l.getLastD (0, 0)) (listsM a l.dropLast).1
set_option maxHeartbeats 8000000 in
theorem q70_24 {X : Nat → Prop} {A C : Nat} {l : List Val} {a : ArM} {m : Mem} (hA : Ar X A a m) (hX : ∀ j, X j → j < m.next) (hsm : Small a) (hp : Pairs a) (hXC : ¬ X C) (hC : has m C (clC A 24 l 0)) (hll : l.length ≤ 4096) {res : Val × ArM × Int} (hres : res = appendM a l) : wph Tryz.prog ca (.func 70) [.ptr C 0] m fun r m' => r = valA res.1 ∧ Cs X A C 24 l res.2.1 res.2.2 m m' := by
  have hC0 := hC
  obtain ⟨hCl, w, hg⟩ := hC
  refine wph_go Tryz.func70 rfl rfl (by simp [Tryz.f70]) (by simp [Tryz.f70]) fun Q hQ => ?_
  simp only [Tryz.f70, show ca.keepRes 70 = false from rfl, show ca.keepArgs 70 = false from rfl] at hQ ⊢
  obtain ⟨M1, hM1⟩ : ∃ M1, M1 = (((m.new [.ptr C 0] false).new [int 0, int 0] false).new [int 0, int 0] false).set (m.next + 2) [int 4, int 0] := ⟨_, rfl⟩
  have k1 : Kp m M1 := by rw [hM1]; simp
  have n1 : M1.next = m.next + 3 := by rw [hM1]; simp
  have b0 : M1.get m.next = some (.cells [.ptr C 0] false (m.clock + 1)) := by rw [hM1]; simp
  have b1 : M1.get (m.next + 1) = some (.cells [int 0, int 0] false (m.clock + 2)) := by rw [hM1]; simp
  have b2 : M1.get (m.next + 2) = some (.cells [int 4, int 0] false (m.clock + 4)) := by rw [hM1]; simp
  have bC := (k1.get C hCl).trans hg
  have c0 : C ≠ m.next := by omega
  have c1 : C ≠ m.next + 1 := by omega
  have c2 : C ≠ m.next + 2 := by omega
  have hC1 := hC0.kp k1
  have hA1 := hA.kp k1
  simp [abuild, placesOf, fillAt, hg, c0, c1, c2]
  rw [← hM1]
  clear hM1
  have fin : ∀ (s' : Sl) (m7 : Mem), s'.at 2 = .ptr (m.next + 1) 0 → (∃ w, m7.get (m.next + 1) = some (.cells [int res.1.1, int res.1.2] false w)) → Cs X A C 24 l res.2.1 res.2.2 m m7 → Q .ret s' m7 := by
    intro s' m7 h2 ⟨w, hg⟩ hcs
    refine hQ _ _ _ ?_
    rw [leave_ret]
    refine ⟨[valA res.1], by simp [aresult, h2, hg, aload, partOf, valA_agg], ?_⟩
    simp only [Bool.false_eq_true, if_false, oneOf, fzr_valA]
    exact ⟨trivial, hcs⟩
  by_cases hl0 : l = []
  · subst hl0
    simp [b1, b2]
    have e0 : res = ((4, 0), a, 0) := by rw [hres, appendM, if_pos rfl]
    rw [e0] at fin
    exact fin _ _ (by simp) ⟨_, by simp; rfl⟩ (Cs.box k1 hX hCl (Cs.refl hA1 (fun j h => by have := hX j h; omega) hC1) (by omega) (by omega) _)
  have hlp : 0 < l.length := by cases l with | nil => exact absurd rfl hl0 | cons _ _ => simp
  have wl : IntKind.i64.wrap ((l.length : Int) - 1) = ((l.length - 1 : Nat) : Int) := by rw [IntWalk.i64_in _ (by omega)]; omega
  have ln : ∀ (R : TypeId) (m : Mem), abuiltin Tryz.prog .len #[66] R [.lst (vals l)] m = some (int l.length, m) := fun R m => by rw [alen_lst Tryz.underlying66, vals_length]
  have hsl := aslice_lst (P := Tryz.prog) (T := 66) (xs := vals l) (k := 2) (lo := none) (hi := some (int ((l.length - 1 : Nat) : Int))) (l := none) (h := some (l.length - 1)) Tryz.underlying66 tsize51 rfl (by simp only [obnd]; rw [if_pos (by omega)]; simp) (by simp) (by simp) (vals_ok _)
  simp at hsl
  have htk : (vals l).take (l.length - 1) = vals l.dropLast := by rw [List.dropLast_eq_take]; simp [vals]
  rw [htk] at hsl
  have ln2 : ∀ (R : TypeId) (m : Mem), abuiltin Tryz.prog .len #[66] R [.lst (vals l.dropLast)] m = some (int (l.length - 1 : Nat), m) := fun R m => by rw [alen_lst Tryz.underlying66, vals_length, List.length_dropLast]
  simp [b0, b1, b2, bC, ln, wl, hl0, hsl, ln2]
  obtain ⟨L, hL⟩ : ∃ L, L = l.dropLast := ⟨_, rfl⟩
  obtain ⟨N, hN⟩ : ∃ N, N = l.length - 1 := ⟨_, rfl⟩
  have hLN : L.length = N := by rw [hL, hN, List.length_dropLast]
  rw [← hL, ← hN]
  refine go_count 145 N (fun i s' m' => ∃ ys, listsM a (L.take i) = (ys, 0) ∧ Acc M1 m' 1 false (lists ys) (s'.at 6) ∧ ys.length ≤ i ∧ KpC (fun j => j = C) M1 m' ∧ has m' C (clC A 24 l 0)) (by simp) (by omega) ⟨[], by simp [listsM], .inl ⟨rfl, by simp⟩, by simp, .refl _ _, hC1⟩ ?_
  rintro i s' m' hi e145 ⟨ys, hys, hacc, hyl, kc, hCm⟩ hsame hw Q' hn he
  have d1 : s'.at 1 = .ptr m.next 0 := (hsame 1 (by kernel_rfl)).trans (by simp)
  have d2 : s'.at 2 = .ptr (m.next + 1) 0 := (hsame 2 (by kernel_rfl)).trans (by simp)
  have d3 : s'.at 3 = .ptr (m.next + 2) 0 := (hsame 3 (by kernel_rfl)).trans (by simp)
  have d143 : s'.at 143 = .lst (vals L) := (hsame 143 (by kernel_rfl)).trans (by simp)
  have d144 : s'.at 144 = int N := (hsame 144 (by kernel_rfl)).trans (by simp)
  have d5 : s'.at 5 = int N := (hsame 5 (by kernel_rfl)).trans (by simp)
  clear hsame
  have n' := kc.next
  have f0 := (kc.get m.next (by omega) (by omega)).trans b0
  have f1 := (kc.get (m.next + 1) (by omega) (by omega)).trans b1
  have f2 := (kc.get (m.next + 2) (by omega) (by omega)).trans b2
  have hAm : Ar X A a m' := hA1.kc kc fun j h e => absurd h (e ▸ hXC)
  obtain ⟨hCl', wC, gC⟩ := id hCm
  simp [e145, d144]
  refine goB_split (fun h => ?_) fun h => ?_
  · have hlt : i < N := by simpa using h
    obtain ⟨x, hx⟩ : ∃ x, L[i]? = some x := ⟨_, List.getElem?_eq_getElem (by omega)⟩
    have hix : aindexAddr Tryz.prog 66 (.lst (vals L)) (int i) = some ((valA x).cptr 0) := vals_at hx
    have z0 : m.next ≠ m'.next := by omega
    simp [e145, d143, hix, d1, f0, z0, valA_agg]
    obtain ⟨Ma, hMa⟩ : ∃ Ma, Ma = (m'.new [int 0, int 0] false).set m'.next [int x.1, int x.2] := ⟨_, rfl⟩
    have ka : Kp m' Ma := by rw [hMa]; simp
    have na : Ma.next = m'.next + 1 := by rw [hMa]; simp
    rw [← hMa]
    clear hMa
    refine goH_of (q130 (hAm.kp ka) hsm hp hXC (hCm.kp ka) x) ?_
    intro x' m2 hlk
    obtain ⟨hacc2, kc2, hC2⟩ := listK_0 hlk
    obtain ⟨r, hr⟩ : ∃ r, r = listM a 1024 x := ⟨_, rfl⟩
    rw [← hr] at hacc2 hC2
    obtain ⟨m3, ez, kz⟩ := fz_live hacc2
    have n2 := kc2.next
    have n3 := kz.next
    have own6 : ∀ j, owns (s'.at 6) j → M1.next ≤ j ∧ j < m'.next := acc_lt hacc
    have ownx : ∀ j, owns x' j → Ma.next ≤ j := fun j h => (acc_lt hacc2 j h).1
    have hacc3 : Acc M1 m3 1 false (lists ys) (s'.at 6) := acc_keptC (acc_keptC (hacc.kp ka) kc2 fun j h e => by have := own6 j h; omega) kz fun j h h2 => by have := own6 j h; have := ownx j h2; omega
    have hC3 := hC2.kc kz fun h => by have := ownx _ h; omega
    have hsrc := src_one (m := m3.new [.lst (vals r.1)] false) (id := m3.next) (c := some 1) (k := 1) (ag := false) (x := .lst (vals r.1)) (w := m3.clock + 1) (f := false) rfl (by simp) (by simp) rfl
    obtain ⟨v6, m6, p1, p2, p3, p4⟩ := acc_any (T := 175) (m := m3.new [.lst (vals r.1)] false) (zs := [.lst (vals r.1)]) (hacc3.kp (.new _ _ _)) (by simp; omega) (okl _) el175 (by simp [okAll_cons, okAll_nil]) (by simp [fzx, fzvs]) (by simp [lists]; omega)
    have n6 := p3.next
    simp at n6
    have kall : KpC (fun j => j = C) M1 m6 := KpC.cut (((((kc.trans (.of (.of ka))).trans kc2).mono fun j h => .inl h).trans (kz.mono fun j h => .inr (by have := ownx j h; omega))).trans ((KpC.of (.of (.new _ _ _))).trans (p3.mono fun j h => .inr (own6 j h).1)))
    have hC6 : has m6 C (clC A 24 l r.2) := (hC3.kp (.new _ _ _)).kc p3 fun h => by have := own6 _ h; omega
    obtain ⟨_, w6, g6C⟩ := id hC6
    have g60 := (kall.get m.next (by omega) (by omega)).trans b0
    have g61 := (kall.get (m.next + 1) (by omega) (by omega)).trans b1
    have g62 := (kall.get (m.next + 2) (by omega) (by omega)).trans b2
    simp [abuildSlice, fzx, fzvs, ez, zeros, fillAt, abuiltin, hsrc, p1, d1, g60, g6C]
    have hall : L = L.take i ++ x :: L.drop (i + 1) := by
      obtain ⟨h1, h2⟩ := List.getElem?_eq_some_iff.1 hx
      rw [← h2, List.getElem_cons_drop, List.take_append_drop]
    have hvA := listsM_app a (L.take i) (x :: L.drop (i + 1)) (by rw [hys])
    rw [← hall, listsM, ← hr] at hvA
    by_cases hz : r.2 = 0
    · simp [hz, e145, hw]
      have htk1 : L.take (i + 1) = L.take i ++ [x] := by
        obtain ⟨h1, h2⟩ := List.getElem?_eq_some_iff.1 hx
        rw [List.take_succ_eq_append_getElem h1, h2]
      rw [hz] at hC6
      refine hn _ _ hlt (by simp) ⟨ys ++ [r.1], ?_, ?_, by simp; omega, kall, hC6⟩
      · rw [htk1, listsM_app a _ _ (by rw [hys]), hys]
        simp [listsM, ← hr, hz]
      · simpa [lists] using p2
    · have hvB : listsM a L = ([], r.2) := by
        rw [hvA, if_pos hz]
        simp [hz]
      simp [hz, d3, d2, g62, g61]
      refine he _ _ _ (by simp) ?_
      simp
      have e0 : res = ((4, 0), a, r.2) := by
        rw [hres, appendM, if_neg hl0, ← hL, hvB]
        simp [hz]
      rw [e0] at fin
      exact fin _ _ (by simp [d2]) ⟨_, by simp; rfl⟩ (Cs.box k1 hX hCl (Cs.of_c hA1 (fun j h => by have := hX j h; omega) hXC kall hC6) (by omega) (by omega) _)
  · have hge : i = N := by have := of_decide_eq_false h; omega
    subst hge
    simp
    refine he _ _ _ (by simp) ?_
    obtain ⟨ev, hev⟩ : ∃ v, l[i]? = some v := ⟨_, List.getElem?_eq_getElem (by omega)⟩
    have hix : aindexAddr Tryz.prog 66 (.lst (vals l)) (int i) = some ((valA ev).cptr 0) := vals_at hev
    have z0 : C ≠ m'.next := by omega
    obtain ⟨x6, hx6⟩ : ∃ x, x = s'.at 6 := ⟨_, rfl⟩
    rw [← hx6] at hacc
    simp [d1, f0, gC, d5, hix, ← hx6]
    obtain ⟨Mc, hMc⟩ : ∃ Mc, Mc = (m'.new [int 0, int 0] false).set m'.next [int ev.1, int ev.2] := ⟨_, rfl⟩
    have kMc : Kp m' Mc := by rw [hMc]; simp
    have nMc : Mc.next = m'.next + 1 := by rw [hMc]; simp
    have gT : Mc.get m'.next = some (.cells [int ev.1, int ev.2] false (m'.clock + 2)) := by rw [hMc]; simp
    rw [← hMc]
    clear hMc
    have own6 : ∀ j, owns x6 j → M1.next ≤ j ∧ j < m'.next := acc_lt hacc
    obtain ⟨M5, ez, kz⟩ := fz_lists (hacc.kp kMc)
    have n5 := kz.next
    have kM5 : KpC (fun j => j = C) M1 M5 := KpC.cut (((kc.trans (.of (.of kMc))).mono fun j h => .inl h).trans (kz.mono fun j h => .inr (own6 j h).1))
    have gT5 := (kz.get m'.next (by omega) fun h => by have := own6 _ h; omega).trans gT
    have hC5 : has M5 C (clC A 24 l 0) := (hCm.kp kMc).kc kz fun h => by have := own6 _ h; omega
    have hA5 : Ar X A a M5 := hA1.kc kM5 fun j h e => absurd h (e ▸ hXC)
    have q := eh_fz Tryz.func133 rfl rfl rfl ez (by simp [fzvs]) (q133 ys M5)
    simp [q.go]
    obtain ⟨T, hT⟩ : ∃ T, T = m'.next := ⟨_, rfl⟩
    obtain ⟨D, hD⟩ : ∃ D, D = M5.next := ⟨_, rfl⟩
    have t1 : m.next + 3 ≤ T := by omega
    have t2 : T < D := by omega
    refine go_range (f := 172) (a := []) (b := [.ptr M5.next 0]) (by simp) (by kernel_rfl) ?_
    simp only [List.nil_append, List.singleton_append]
    generalize hcd : LCode.mk _ _ _ _ _ = c
    have hid : (M5.new [AV.lst (lists ys)] false).next = D + 1 := by simp [hD]
    have hys2 : listsM a L = (ys, 0) := by rw [← hys, ← hLN, List.take_length]
    have hyl2 : ∀ y ∈ ys, y.length ≤ 1024 := fun y hy => listsM_len a L y (by rw [hys2]; exact hy)
    have eres : res = foldM a ev ys := by
      have e9 : l.getLastD (0, 0) = ev := by
        rw [List.getLastD_eq_getLast?, List.getLast?_eq_getElem?, ← hN, hev]
        rfl
      rw [hres, appendM, if_neg hl0, ← hL, hys2, e9]
      simp
    have keep0 : ∀ j, m.next ≤ j → ¬ X j ∧ j ≠ C := fun j h => ⟨fun hx => by have := hX j hx; omega, by omega⟩
    refine wph_mono (back172 (J := fun k' mm => JF X A C 24 l m T D c ys (foldM a ev (ys.drop k')) mm) ys (by omega) ?_ (fun k mm h => by rw [← hD]; exact h.2.2.2.2.2.2.1) _ ?_) ?_
    · rintro k' x mm hx ⟨⟨X1, hA1, hX1⟩, kcc, hC1, ⟨w0, h0⟩, ⟨w1, h1⟩, ⟨w2, h2⟩, h3, ⟨ver, hloop⟩, hn'⟩
      rw [hid]
      refine wph_round hloop (by rw [← hcd]; rfl) ?_
      have c1 := congrArg LCode.assign hcd
      have c2 := congrArg LCode.body hcd
      have c3 := congrArg LCode.N hcd
      have c4 := congrArg LCode.s hcd
      have c5 := congrArg LCode.ps hcd
      dsimp only at c1 c2 c3 c4 c5
      simp only [← c1, ← c2, ← c3, ← c4, ← c5]
      have hstep : foldM a ev (ys.drop k') = aheadM (foldM a ev (ys.drop (k' + 1))).2.1 (foldM a ev (ys.drop (k' + 1))).2.2 (foldM a ev (ys.drop (k' + 1))).1 x := by
        obtain ⟨h1, h2⟩ := List.getElem?_eq_some_iff.1 hx
        rw [← List.getElem_cons_drop h1, h2, foldM]
      rw [hstep]
      generalize foldM a ev (ys.drop (k' + 1)) = r at hA1 hC1 h2 ⊢
      rw [← hT]
      simp [Sl.puts, hloop, d1, h0, h2, valA_agg]
      obtain ⟨Mb, hMb⟩ : ∃ Mb, Mb = mm.setLoop (D + 1) .busy none c := ⟨_, rfl⟩
      have kb : KpC (fun j => j = D + 1) mm Mb := by rw [hMb]; exact kc_loop _ _ _ _ _
      have nb : Mb.next = mm.next := by rw [hMb]; simp
      obtain ⟨uL, lb⟩ : ∃ w, Mb.loop (D + 1) = some ⟨.busy, none, c, w⟩ := ⟨_, by rw [hMb]; simp; rfl⟩
      rw [← hMb]
      clear hMb
      have hXD : ∀ j, m.next ≤ j → j < D + 2 → ¬ X1 j := fun j h1 h2 h => by
        rcases (hX1 j h).1 with h | h
        · exact (keep0 j h1).1 h
        · omega
      refine goH_of (q129 (X := X1) (A := A) (C := C) (n := 24) (l0 := l) (a := r.2.1) (k := r.2.2) (m := Mb) (hA1.kc kb fun j h e => absurd h (by rw [e]; exact hXD _ (by omega) (by omega))) (fun j h => by rw [nb]; exact (hX1 j h).2) (fun h => by
        rcases (hX1 C h).1 with h | h
        · exact hXC h
        · omega) (hC1.kc kb (by omega)) x (by have := hyl2 x (List.mem_of_getElem? hx); omega) r.1) ?_
      rintro _ m6 ⟨rfl, X2, hA2, hX2, kc2, hC2⟩
      have n6 := kc2.next
      have keep : ∀ j, m.next ≤ j → j < D + 2 → ¬ (X1 j ∨ j = C) := fun j h1 h2 h => by
        rcases h with h | h
        · exact hXD j h1 h2 h
        · omega
      have h60 := (kc2.get m.next (by omega) (keep _ (by omega) (by omega))).trans ((kb.get m.next (by omega) (by omega)).trans h0)
      have h61 := (kc2.get (m.next + 1) (by omega) (keep _ (by omega) (by omega))).trans ((kb.get (m.next + 1) (by omega) (by omega)).trans h1)
      have h6T := (kc2.get T (by omega) (keep _ (by omega) (by omega))).trans ((kb.get T (by omega) (by omega)).trans h2)
      have h6D := (h3.kc kb (by omega)).kc kc2 (keep _ (by omega) (by omega))
      have l6 := (kc2.x (D + 1) (by omega) (keep _ (by omega) (by omega))).1.trans lb
      simp [h6T, l6, valA_agg]
      have hX2' : ∀ j, X2 j → (X j ∨ D + 2 ≤ j) ∧ j < m6.next := fun j h => ⟨(hX2 j h).1.elim (fun h => (hX1 j h).1) fun h => .inr (by omega), (hX2 j h).2⟩
      have ne2 : ∀ j, X2 j → j ≠ T ∧ j ≠ D + 1 := fun j h => by
        rcases (hX2' j h).1 with h | h
        · have := hX j h; omega
        · omega
      have p0 : m.next ≠ T := by omega
      have p1 : m.next + 1 ≠ T := by omega
      refine ⟨⟨X2, (hA2.kc (kc_set T _ _) fun j h e => absurd e (ne2 j h).1).kc (kc_loop (D + 1) _ _ _ _) fun j h e => absurd e (ne2 j h).2, fun j h => by simpa using hX2' j h⟩, ?_, (hC2.kc (kc_set T _ _) (by omega)).kc (kc_loop (D + 1) _ _ _ _) (by omega), ⟨w0, by simp [p0, h60]⟩, ⟨w1, by simp [p1, h61]⟩, ⟨_, by simp; rfl⟩, (h6D.kc (kc_set T _ _) (by omega)).kc (kc_loop (D + 1) _ _ _ _) (by omega), ⟨_, by simp; rfl⟩, by simp; omega⟩
      refine KpC.cut (((((kcc.mono fun j h => .inl h).trans (kb.mono fun j h => .inr (by omega))).trans (kc2.mono fun j h => ?_)).trans ((kc_set T _ _).mono fun j h => .inr (by omega))).trans ((kc_loop (D + 1) _ _ _ _).mono fun j h => .inr (by omega)))
      rcases h with h | h
      · rcases (hX1 j h).1 with h | h
        · exact .inl (.inl h)
        · exact .inr (by omega)
      · exact .inl (.inr h)
    · rw [List.drop_length, foldM]
      have kk : Kp M5 ((M5.new [AV.lst (lists ys)] false).newLoop c) := (Kp.new M5 _ _).newLoop c
      have ktot : KpC (fun j => X j ∨ j = C) m ((M5.new [AV.lst (lists ys)] false).newLoop c) := ((KpC.of (.of k1)).trans ((kM5.trans (.of (.of kk))).mono fun j h => .inr h))
      have q0 := (kk.get m.next (by omega)).trans ((kM5.get m.next (by omega) (by omega)).trans b0)
      have q1 := (kk.get (m.next + 1) (by omega)).trans ((kM5.get (m.next + 1) (by omega) (by omega)).trans b1)
      have q2 := (kk.get m'.next (by omega)).trans gT5
      rw [← hT] at q2
      refine ⟨⟨X, hA5.kp kk, fun j h => ⟨.inl h, by have := hX j h; simp; omega⟩⟩, ktot, hC5.kp kk, ⟨_, q0⟩, ⟨_, q1⟩, ⟨_, q2⟩, ⟨by simp; omega, _, by simp [hD]; rfl⟩, ⟨_, by simp [hD]; rfl⟩, by simp; omega⟩
    · rintro v mm ⟨rfl, ⟨X1, hA1, hX1⟩, kcc, hC1, ⟨w0, h0⟩, ⟨w1, h1⟩, ⟨w2, h2⟩, h3, ⟨ver, hloop⟩, hn'⟩
      rw [List.drop_zero, ← eres] at hA1 hC1 h2
      rw [hid]
      refine ⟨_, .normal, hloop, by simp, rfl, ?_⟩
      rw [← hT]
      simp [h1, h2, d2, valA_agg]
      have kl : KpC (fun j => j = D + 1) mm (mm.killLoop (D + 1)) := ⟨by simp, fun id hi hx => by simp, fun id hi hx => by
        have : id ≠ D + 1 := hx
        simp [this]⟩
      refine fin _ _ (by simp [d2]) ⟨_, by simp; rfl⟩ ⟨X1, (hA1.kc kl fun j h e => ?_).kc (kc_set (m.next + 1) _ _) fun j h e => ?_, fun j h => ⟨(hX1 j h).1.imp id fun h => by omega, by simpa using (hX1 j h).2⟩, KpC.cut (((kcc.mono fun j h => .inl h).trans (kl.mono fun j h => .inr (by omega))).trans ((kc_set (m.next + 1) _ _).mono fun j h => .inr (by omega))), (hC1.kc kl (by omega)).kc (kc_set (m.next + 1) _ _) (by omega)⟩
      all_goals
        rcases (hX1 j h).1 with h | h
        · have := hX j h; omega
        · omega
end Go.Proofs.YtnhcmcfgemoehaaGreat
