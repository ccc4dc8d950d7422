import Derived.Test.YtjiijacibpgciaaGreatTOwn
/- A list with a tail. -/
set_option linter.unusedSimpArgs false
set_option linter.unusedVariables false
set_option linter.unusedSectionVars false
namespace Go.Proofs.YtjiijacibpgciaaGreat
set_option maxRecDepth 4000
open Go.V
attribute [local simp] Nat.add_assoc

/-- A list with a tail. -/
def jn (K N : Int) (S : List UInt8) (M : List Int) (L : List Dat) : Dat → Dat
  | .mk K' N' S' M' L' T' => if K' = 6 ∨ K' = 7 then .mk K' N S M (L ++ L') T' else if L = [] then .mk K' N' S' M' L' T' else .mk K N S M L [.mk K' N' S' M' L' T']
theorem KpC.cut {Y : Nat → Prop} {m m' : Mem} (h : KpC (fun i => Y i ∨ m.next ≤ i) m m') : KpC Y m m' := ⟨h.next, fun id hi hx => h.get id hi (fun q => q.elim hx fun q => by omega), fun id hi hx => h.x id hi (fun q => q.elim hx fun q => by omega)⟩
/-- An append to a slice of one's own, whatever is appended. -/
theorem acc_any {m0 m : Mem} {T : TypeId} {k : Nat} {ag : Bool} {ys zs : List AV} {v : AV} (h : Acc m0 m k ag ys v) (h0 : m0.next ≤ m.next) (hy : okAll k ys = true) (el : ElemOf Tryz.prog T k ag) (ho : okAll k zs = true) (hf : fzx Tryz.prog T m zs = (zs, m)) (hb : ys.length + zs.length ≤ 2 ^ 26) :
    ∃ v' m3, aappend Tryz.prog T v none (some zs) m = some (v', m3) ∧ Acc m0 m3 k ag (ys ++ zs) v' ∧ KpC (owns v) m m3 ∧ (∀ j, owns v' j → owns v j ∨ m.next ≤ j) := by
  cases zs with
  | nil =>
    refine ⟨v, m, aapp_none el ?_, by simpa using h, .refl _ _, fun j h => .inl h⟩
    rcases h with ⟨_, rfl⟩ | ⟨_, id, w, rfl, _⟩
    · exact .inl ⟨_, rfl⟩
    · exact .inr ⟨_, _, _, _, _, _, rfl⟩
  | cons z zs =>
    obtain ⟨m3, a1, a2, ⟨w, a3⟩, a4, a5⟩ := acc_app2 h hy el (zs := z :: zs) (zs' := z :: zs) (List.cons_ne_nil _ _) ho hf (.refl m) hb
    refine ⟨_, m3, a1, .inr ⟨by simp, m.next, w, by simp, h0, by omega, a3⟩, ⟨by omega, fun j hj hx => a4 j hj hx, fun j hj hx => a5 j hj⟩, ?_⟩
    rintro j rfl
    exact .inr (Nat.le_refl _)
set_option maxHeartbeats 4000000 in
theorem t40 {m0 m : Mem} {K N : Int} {S : List UInt8} {M : List Int} {L : List Dat} {xM xL : AV} (tail : Dat) (ht : tail.fits) (h0 : m0.next ≤ m.next) (hM : Lv m0 m 1 false (M.map int) xM) (hL : Acc m0 m 6 true (encs L) xL) (hb : L.length < 2 ^ 22) (d1 : ∀ j, owns xM j → ¬ owns xL j) :
    wph Tryz.prog cw (.func 40) [.agg [int K, int N, .sc (.string ⟨⟨S⟩⟩), xM, xL, .emp 0], enc tail] m fun v m' => v = enc (jn K N S M L tail) ∧ KpC (fun i => owns xM i ∨ owns xL i) m m' := by
  refine wph_go Tryz.func40 rfl rfl (by simp [Tryz.f40]) (by simp [Tryz.f40]) fun Q hQ => ?_
  simp only [Tryz.f40, show cw.keepRes 40 = false from rfl, show cw.keepArgs 40 = true from rfl] at hQ ⊢
  obtain ⟨K', N', S', M', L', T'⟩ := tail
  have ft := alone_fits ht
  have fl := ft.l
  have om := hM.okc
  have ol := hL.okc
  have lM := hM.lt
  have lL := fun j h => acc_lt hL j h
  simp [enc, om, ol]
  by_cases k6 : K' = 6 ∨ K' = 7
  · obtain ⟨v', m3, e1, a3, kc3, nw⟩ := acc_any (m := ((m.new [int K, int N, .sc (.string ⟨⟨S⟩⟩), xM, xL, .emp 0] false).new [int K', int N', .sc (.string ⟨⟨S'⟩⟩), .lst (M'.map int), .lst (encs L'), .lst (encs T')] false).new zeroCells false) (zs := encs L') (hL.kp (by simp)) (by simp; omega) (okAll_encs _) el23 (okAll_encs _) (by simp [fzx, fzvs]) (by simp; omega)
    have hsrc : ∀ m, srcOf m (.lst (encs L')) = some (encs L') := fun m => rfl
    have ol' := a3.okc
    have n3 := kc3.next
    simp at n3
    have go4 : (K' = 6 ∨ (K' ≠ 6 ∧ K' = 7)) := by omega
    have no : ∀ j, m.next ≤ j → ¬ owns xL j := fun j h q => by have := (lL j q).2; omega
    have g1 : m3.get m.next = some (.cells [int K, int N, .sc (.string ⟨⟨S⟩⟩), xM, xL, .emp 0] false (m.clock + 1)) := by rw [kc3.get _ (by simp) (no _ (by omega))]; simp
    have g2 : m3.get (m.next + 1) = some (.cells [int K', int N', .sc (.string ⟨⟨S'⟩⟩), .lst (M'.map int), .lst (encs L'), .lst (encs T')] false (m.clock + 2)) := by rw [kc3.get _ (by simp) (no _ (by omega))]; simp
    have g4 : m3.get (m.next + 2) = some (.cells zeroCells false (m.clock + 3)) := by rw [kc3.get _ (by simp) (no _ (by omega))]; simp
    have fin : ∀ (F : Mem) (K2 : Int) (T2 : List Dat), KpC (fun i => i = m.next ∨ i = m.next + 2) m3 F → (AV.agg [.sc (.int .i64 K2), .sc (.int .i64 N), .sc (.string ⟨⟨S⟩⟩), (fz1 F xM).1, (fz1 (fz1 F xM).2 v').1, .lst (encs T2)] = enc (.mk K2 N S M (L ++ L') T2) ∧ KpC (fun i => owns xM i ∨ owns xL i) m (fz1 (fz1 F xM).2 v').2) := by
      intro F K2 T2 kF
      have k0 : KpC (fun i => (owns xM i ∨ owns xL i) ∨ m.next ≤ i) m (((m.new [int K, int N, .sc (.string ⟨⟨S⟩⟩), xM, xL, .emp 0] false).new [int K', int N', .sc (.string ⟨⟨S'⟩⟩), .lst (M'.map int), .lst (encs L'), .lst (encs T')] false).new zeroCells false) := .of (.of (by simp))
      have kF' : KpC (fun i => (owns xM i ∨ owns xL i) ∨ m.next ≤ i) m F := (k0.trans (kc3.mono fun j h => .inl (.inr h))).trans (kF.mono fun j h => .inr (by omega))
      have hM' : Lv m0 F 1 false (M.map int) xM := by
        refine ((hM.keep (X := fun _ => False) (.of (.of (by simp))) fun _ _ h => h).keep kc3 d1).keep kF fun j hj h => ?_
        have := (lM j hj).2
        omega
      have a3' : Acc m0 F 6 true (encs (L ++ L')) v' := by
        have e : encs (L ++ L') = encs L ++ encs L' := by simp [encs_map]
        rw [e]
        refine acc_keptC a3 kF fun j hj h => ?_
        rcases nw j hj with q | q
        · have := (lL j q).2; omega
        · simp at q; omega
      obtain ⟨m1, a1, a2⟩ := hM'.fz rfl (ints_row M) (okAll_ints _)
      obtain ⟨m2, b1, b2⟩ := ((Ow.lv (.inl a3')).keep a2 fun j hj h => by
        rcases nw j hj with q | q
        · exact d1 j h q
        · have := (lM j h).2; simp at q; omega).fz rfl (encs_row (L ++ L')) (okAll_encs _)
      rw [a1, b1]
      refine ⟨by simp [enc], KpC.cut ((kF'.trans (a2.mono fun j h => .inl (.inl h))).trans (b2.mono fun j h => ?_))⟩
      rcases nw j h with q | q
      · exact .inl (.inr q)
      · simp at q; exact .inr (by omega)
    clear k6
    rcases go4 with rfl | ⟨k, rfl⟩
    all_goals
      simp
      refine go_drawD (by kernel_rfl) ?_
      simp [abuiltin, hsrc, e1, g1, g2, g4, ol'.1, ol'.2]
      refine goM_of (l := [(1, 6), (6, 8), (8, 10), (8, 12)]) (by kernel_rfl) (?_ : List.all _ _ = true) ?_
      · simp [metAtD, metOkD, rank, verKeptD, Region.wanted, Mem.ver, g1, g2, g4]
      simp [g1, g2, g4, om, ol']
      refine hQ _ _ _ ?_
      simp [fzr_agg, jn]
      exact fin _ _ _ ((((kc_set _ _ _).mono fun j h => .inl h).trans ((kc_set _ _ _).mono fun j h => .inl h)).trans ((kc_set _ _ _).mono fun j h => .inl h) |>.trans ((kc_set _ _ _).mono fun j h => .inr h))
  · have k1 : ¬ K' = 6 := fun h => k6 (.inl h)
    have k2 : ¬ K' = 7 := fun h => k6 (.inr h)
    have hlen := fun m' R => (Ow.lv (.inl hL)).len (T := 23) (m' := m') (R := R) Tryz.underlying23
    by_cases hL0 : L = []
    · subst hL0
      have hxe : xL = .emp 0 := by
        rcases hL with ⟨_, e⟩ | ⟨e, _⟩
        · exact e
        · simp [encs] at e
      have zd : List.drop 6 zeroCells = [] := rfl
      simp [k1, k2, hlen, zd]
      refine hQ _ _ _ ?_
      simp [fzr_agg, jn, k1, k2, enc]
      exact .of (.of (by simp))
    simp [k1, k2, hlen, hL0, abuildSlice, fillAt, zeros]
    refine hQ _ _ _ ?_
    simp [fzr_agg, jn, k1, k2, hL0]
    have fin3 : ∀ (F : Mem) (w : Nat), Kp m F → m.next + 3 < F.next → F.get (m.next + 3) = some (.cells [int K', int N', .sc (.string ⟨⟨S'⟩⟩), .lst (M'.map int), .lst (encs L'), .lst (encs T')] false w) →
        (AV.agg [.sc (.int .i64 K), .sc (.int .i64 N), .sc (.string ⟨⟨S⟩⟩), (fz1 F xM).1, (fz1 (fz1 F xM).2 xL).1, (fz1 (fz1 (fz1 F xM).2 xL).2 (.sl (m.next + 3) 0 1 6 true (some 1))).1] = enc (.mk K N S M L [.mk K' N' S' M' L' T']) ∧ KpC (fun i => owns xM i ∨ owns xL i) m (fz1 (fz1 (fz1 F xM).2 xL).2 (.sl (m.next + 3) 0 1 6 true (some 1))).2) := by
      intro F w kF hlt hg
      have kc := KpC.of (X := fun _ => False) (.of kF)
      have hM' := hM.keep kc fun _ _ h => h
      have hL' := (Ow.lv (.inl hL)).keep kc fun _ _ h => h
      have hT' : Lv m0 F 6 true (encs [.mk K' N' S' M' L' T']) (.sl (m.next + 3) 0 1 6 true (some 1)) := .inr (.inr ⟨m.next + 3, w, some 1, by simp, by omega, hlt, by rw [hg]; simp [encs, flat_cons, flat_nil, enc]⟩)
      obtain ⟨m', e, k2⟩ := fz_dat (K := K) (N := N) (S := S) hM' hL' hT' d1 (fun j h q => by have := (lM j h).2; simp [owns] at q; omega) (fun j h q => by have := (lL j h).2; simp [owns] at q; omega)
      simp [fzv, fzs] at e
      obtain ⟨e1, e2⟩ := e
      rw [e2]
      refine ⟨e1, KpC.cut (((KpC.of (X := fun i => (owns xM i ∨ owns xL i) ∨ m.next ≤ i) (.of kF))).trans (k2.mono fun j h => ?_))⟩
      rcases h with h | h | h
      · exact .inl (.inl h)
      · exact .inl (.inr h)
      · simp [owns] at h; exact .inr (by omega)
    exact fin3 _ _ (by simp) (by simp) (by simp; rfl)
end Go.Proofs.YtjiijacibpgciaaGreat
