import Derived.Test.YtjiijacibpgciaaGreatTDatum
/- What is built of a template. -/
set_option linter.unusedSimpArgs false
set_option linter.unusedVariables false
set_option linter.unusedSectionVars false
namespace Go.Proofs.YtjiijacibpgciaaGreat
set_option maxRecDepth 4000
open Go.V
attribute [local simp] Nat.add_assoc

theorem kpc_kp {X : Nat → Prop} {m0 a b : Mem} (h : KpC X a b) (k : Kp m0 a) (hx : ∀ j, X j → m0.next ≤ j) : Kp m0 b :=
  ⟨Nat.le_trans k.next h.next, fun id hi => (h.get id (Nat.lt_of_lt_of_le hi k.next) (fun x => by have := hx id x; omega)).trans (k.get id hi), fun id hi => have q := h.x id (Nat.lt_of_lt_of_le hi k.next) (fun x => by have := hx id x; omega); ⟨q.1.trans (k.x id hi).1, q.2.trans (k.x id hi).2⟩⟩
/-- What is asked of what is built. -/
def BuildR (R : Dat → Prop) (got : List Got) (mark : Int) (v : AV) : Prop := ∃ (d : Dat) (e : Int), v = .tup [enc d, int e] ∧ d.fits ∧ (e = 0 → 0 ≤ mark ∧ chk d = 0 ∧ AllSym R d ∧ mayPs got ∧ gsizes got ≤ 4096)
set_option maxHeartbeats 8000000 in
theorem t7 (R : Dat → Prop) (tmpl : Dat) (ht : tmpl.fits) (got : List Got) (hgot : gfits got) (hl : got.length < 2 ^ 21) (mark : Int) (hok : mayPs got → okGs R got) (hT : 0 ≤ mark → chk tmpl = 0 → Tmp R mark tmpl) (m : Mem) :
    ∃ r, BuildR R got mark r ∧ EH Tryz.prog cw (.func 7) [enc tmpl, .lst (encGs got), int mark] m r m := by
  refine eh_ex Tryz.func7 rfl rfl rfl rfl (args1 := [enc tmpl, .lst (encGs got), int mark]) (m1 := m) (by simp [fzvs]) (by rintro r ⟨d, e, rfl, _⟩; simp [AV.bel, AV.bels]) (by simp [Tryz.f7]) (by simp [Tryz.f7]) ?_
  have zf : Dat.zero.fits := by
    unfold Dat.zero
    rw [Dat.fits]
    exact ⟨⟨by omega, by simp, by simp, by simp, by simp⟩, trivial, trivial⟩
  have bad : ∀ (e : Int), e ≠ 0 → BuildR R got mark (.tup [enc .zero, int e]) := fun e he => ⟨.zero, e, rfl, zf, fun h => absurd h he⟩
  have zz : ofConst (.agg #[.int .i64 0, .int .i64 0, .string ⟨⟨[]⟩⟩, .slice none 0 0, .slice none 0 0, .slice none 0 0]) = .agg zeroCells := by kernel_rfl
  simp only [Tryz.f7, show cw.keepRes 7 = false from rfl]
  have ab0 : abuild Tryz.prog 25 [] = some (.agg zeroCells) := by simp [abuild, placesOf, fillAt]
  have zl : 6 ≤ zeroCells.length := by decide
  have zd : List.drop 6 zeroCells = [] := rfl
  have fzt : ∀ (M : Mem) (e : Int), fzr M (.tup [.agg zeroCells, int e]) = (.tup [enc .zero, int e], M) := by
    intro M e
    have : fzv M (.agg zeroCells) = (enc .zero, M) := by
      simp only [fzv, fzs_zero]
      rw [enc_agg]
    simp [fzr, fzvs, this]
  by_cases q1 : mark < 0
  · simp [q1, undefV, undef, ab0, zl, zd]
    exact bad 1 (by omega)
  by_cases q2 : 1048576 < mark
  · simp [q1, q2, undefV, undef, ab0, zl, zd]
    exact bad 1 (by omega)
  simp [q1, q2]
  refine goH_of (t17 (m.next + 2) got hgot hl _ ⟨by simp, _, by simp; rfl⟩) ?_
  rintro v m2 ⟨b, rfl, hb, ⟨k, hk⟩, kc2⟩
  have n2 := kc2.next
  simp at n2
  have g0 : m2.get m.next = some (.cells (enc tmpl).cells false (m.clock + 1)) := (kc2.get m.next (by simp) (by omega)).trans (by simp)
  have g1 : m2.get (m.next + 1) = some (.cells zeroCells false (m.clock + 2)) := (kc2.get (m.next + 1) (by simp) (by omega)).trans (by simp)
  have kp2 : Kp m m2 := kpc_kp (m0 := m) kc2 (by simp) (fun j h => by omega)
  cases b with
  | true =>
    simp [ab0, g1, zl, zd]
    exact ⟨bad 1 (by omega), kp2⟩
  | false =>
    simp [g0]
    have hok' := hok (hb rfl).1
    obtain ⟨_, ⟨e, rfl, he⟩, e18⟩ := t18 tmpl got ht hgot hl m2
    refine goH_eh e18 ?_
    by_cases he0 : e = 0
    rotate_left
    · simp [he0, ab0, g1, zl, zd]
      exact ⟨bad e he0, kp2⟩
    subst he0
    have hTm := hT (by omega) (he rfl)
    have ab52 : abuild Tryz.prog 52 [(0, int mark), (1, int 16384)] = some (.agg (bld mark 16384 0)) := by simp [abuild, placesOf, fillAt]
    have n02 : m.next ≠ m2.next := by omega
    simp [ab52, g0, n02]
    refine goH_of (t19 R m2.next mark tmpl.size tmpl (Nat.le_refl _) ht hTm got 16384 0 _ hgot hok' hl ⟨by simp, m2.clock + 1, by simp⟩) ?_
    rintro v m3 ⟨r, bad', rfl, hrf, hrs, _, kc3, ⟨left', Bl, Bv, Be⟩, _⟩
    have n3 := kc3.next
    simp at n3
    have kp3 : Kp m m3 := kpc_kp (m0 := m) kc3 (kp2.trans (.new _ _ _)) (fun j h => by omega)
    have h1 : m3.get (m.next + 1) = some (.cells zeroCells false (m.clock + 2)) := (kc3.get (m.next + 1) (by simp; omega) (by omega)).trans (by simp [show m.next + 1 ≠ m2.next by omega, g1])
    have nB3 : m2.next ≠ m3.next := by omega
    have n13 : m.next + 1 ≠ m3.next := by omega
    have kp4 : ∀ M, Kp m3 M → Kp m M := fun M k => kp3.trans k
    by_cases hb0 : bad' = 0
    rotate_left
    · simp [Be, nB3, hb0]
      refine go_drawD (by kernel_rfl) ?_
      have nB1 : m.next + 1 ≠ m2.next := by omega
      have nB1' : m2.next ≠ m.next + 1 := by omega
      simp [ab0, Be, nB3, h1, n13, zl, zd]
      refine goM_of (l := [(4, 5)]) (by kernel_rfl) (?_ : List.all _ _ = true) ?_
      · simp [metAtD, metOkD, rank, verKeptD, Region.wanted, Mem.ver, Be, nB3, nB1, nB1']
      simp [h1, n13, ab0, zl, zd]
      exact ⟨bad bad' hb0, kp4 _ (by simp)⟩
    subst hb0
    simp [Be, nB3, (cw_gives (g14 r hrf)).go]
    by_cases hc : chk r = 0
    rotate_left
    · simp [hc, ab0, h1, n13, zl, zd]
      exact ⟨bad _ hc, kp4 _ (by simp)⟩
    have hcl : cln r = r := if_pos hc
    simp [hc, (cw_gives (g33 r hrf)).go, hcl, h1, n13]
    exact ⟨⟨r, 0, rfl, hrf, fun _ => ⟨by omega, hc, hrs rfl, hb rfl⟩⟩, kp4 _ (by simp)⟩
end Go.Proofs.YtjiijacibpgciaaGreat
