import Derived.Test.YtjiijacibpgciaaGreatTForm
/- How deep the deepest variable within a datum is: some answer is given. -/
set_option linter.unusedSimpArgs false
set_option linter.unusedVariables false
set_option linter.unusedSectionVars false
namespace Go.Proofs.YtjiijacibpgciaaGreat
set_option maxRecDepth 4000
open Go.V
attribute [local simp] Nat.add_assoc

/-- A call gives some number, and leaves memory as it was. -/
def SomeI (v : AV) : Prop := ∃ b : Int, v = int b
theorem SomeI.bel {v : AV} (h : SomeI v) (n : Nat) : v.bel n = true := by obtain ⟨b, rfl⟩ := h; rfl
theorem someI_fun {fn : Fn} {args : List AV} (h : ∀ m : Mem, ∃ r, SomeI r ∧ EH Tryz.prog cw fn args m r m) : ∃ f : Mem → Int, ∀ m, EH Tryz.prog cw fn args m (int (f m)) m := by
  have h2 : ∀ m, ∃ b : Int, EH Tryz.prog cw fn args m (int b) m := fun m => by
    obtain ⟨_, ⟨b, rfl⟩, e⟩ := h m
    exact ⟨b, e⟩
  exact ⟨fun m => Classical.choose (h2 m), fun m => Classical.choose_spec (h2 m)⟩
/-- What 'deepest' keeps while it is told parts: its own number, the list, the loop. -/
def DeepJ (lo nb gb : Nat) (got : List Got) (c : LCode) (_ : List Dat) (F : Nat → Prop) (m : Mem) : Prop :=
  ∃ (k : Int) (ver : Nat), F = (fun i => i = lo ∨ i = nb ∨ i = gb) ∧ lo < m.next ∧ has m nb [int k] ∧ has m gb [.lst (encGs got)] ∧ m.loop lo = some ⟨.ready, none, c, ver⟩
set_option maxHeartbeats 4000000 in
theorem t50 (d : Dat) (got : List Got) (hd : d.fits) (hgot : gfits got) (hl : got.length < 2 ^ 21) (m : Mem) : ∃ r, SomeI r ∧ EH Tryz.prog cw (.func 50) [enc d, .lst (encGs got)] m r m := by
  refine eh_ex Tryz.func50 rfl rfl rfl rfl (args1 := [enc d, .lst (encGs got)]) (m1 := m) (by simp [fzvs]) (fun r h => h.bel _) (by simp [Tryz.f50]) (by simp [Tryz.f50]) ?_
  simp only [Tryz.f50, show cw.keepRes 50 = false from rfl]
  simp
  refine goH_eh (e30 d _) ?_
  simp
  refine go_range (f := 69) (a := []) (b := [.ptr (m.next + 3) 0]) (by simp) (by kernel_rfl) ?_
  simp only [List.nil_append, List.singleton_append]
  generalize hcd : LCode.mk _ _ _ _ _ = c
  have T : Tells (DeepJ (m.next + 4) (m.next + 2) (m.next + 1) got c) (fun _ => true) (m.next + 4) := by
    refine ⟨?_, ?_, ?_⟩
    · rintro l F m m' ⟨k, ver, rfl, h1, h2, h3, h4⟩ kx
      exact ⟨k, ver, rfl, Nat.lt_of_lt_of_le h1 kx.next, h2.kept kx (by simp), h3.kept kx (by simp), by rw [(kx.x _ h1).1]; exact h4⟩
    · rintro l F m ⟨k, ver, rfl, h1, h2, h3, h4⟩ i (rfl | rfl | rfl)
      · exact h1
      · exact h2.1
      · exact h3.1
    rintro l F m1 x ⟨k, ver, rfl, h1, ⟨nl, nv, ne⟩, ⟨gl, gv, ge⟩, h4⟩ _ hx
    refine wph_round h4 (by rw [← hcd]; rfl) ?_
    have c1 := congrArg LCode.assign hcd
    have c2 := congrArg LCode.body hcd
    have c3 := congrArg LCode.N hcd
    have c4 := congrArg LCode.s hcd
    have c5 := congrArg LCode.ps hcd
    dsimp only at c1 c2 c3 c4 c5
    simp only [← c1, ← c2, ← c3, ← c4, ← c5]
    have n1 : m.next + 1 ≠ m1.next := by omega
    have n2 : m.next + 2 ≠ m1.next := by omega
    have zl : 6 ≤ zeroCells.length := by decide
    have zd : List.drop 6 zeroCells = [] := rfl
    simp [Sl.puts, h4, ge, ne, n1, n2, zl, zd, (t34 got x hgot hl hx).go]
    rcases plc_in got x with h | ⟨i, h, hi⟩
    · simp [h]
      refine ⟨_, ⟨k, m1.clock + 4, rfl, by simp; omega, ⟨by simp; omega, nv, by simp [n2, ne]⟩, ⟨by simp; omega, gv, by simp [n1, ge]⟩, by simp⟩, fun i hi => .inl hi, by simp, fun id hi hx => ?_, fun id hi hx => ?_⟩
      · have : id ≠ m1.next := by omega
        simp [this]
      · have : id ≠ m.next + 4 := fun e => hx (.inl e)
        simp [this]
    · obtain ⟨g, hg⟩ : ∃ g, got[i]? = some g := ⟨_, List.getElem?_eq_getElem hi⟩
      have hg' : (encGs got)[i]? = some (encG g) := by rw [encGs_get, hg]; rfl
      have h0 : (0 : Int) ≤ i := by omega
      simp [h, h0]
      refine go_draw0 (by kernel_rfl) (by kernel_rfl) ?_
      simp [ne, ge, n1, n2, aindexAddr_lst Tryz.underlying26 tsize44 hg' (encG_cells_length g), encG_cells, amax2]
      refine ⟨_, ⟨max k g.deep, m1.clock + 5, rfl, by simp; omega, ⟨by simp; omega, m1.clock + 4, by simp⟩, ⟨by simp; omega, gv, by simp [n1, ge]⟩, by simp⟩, fun i hi => .inl hi, by simp, fun id hi hx => ?_, fun id hi hx => ?_⟩
      · have a1 : id ≠ m1.next := by omega
        have a2 : id ≠ m.next + 2 := fun e => hx (.inr (.inl e))
        simp [a1, a2]
      · have : id ≠ m.next + 4 := fun e => hx (.inl e)
        simp [this]
  refine wph_mono (all52 T d hd (fun i => i = m.next + 4 ∨ i = m.next + 2 ∨ i = m.next + 1) _ ⟨-1, m.clock + 6, rfl, by simp, ⟨by simp, _, by simp; rfl⟩, ⟨by simp, _, by simp; rfl⟩, by simp⟩ ⟨by simp, _, by simp; rfl⟩ (by omega)) ?_
  rintro v m2 ⟨⟨F', ⟨k, ver, rfl, h1, ⟨nl, nv, ne⟩, ⟨gl, gv, ge⟩, h4⟩, h8⟩, h9⟩
  have hb9 := h9.next
  simp at hb9
  have kf : Kp m (m2.killLoop (m.next + 4)) := by
    have ho : ∀ id, id < m.next → ¬ (id = m.next + 4 ∨ id = m.next + 2 ∨ id = m.next + 1) := by
      intro id hi h
      omega
    refine ⟨by simp; omega, fun id hi => ?_, fun id hi => ?_⟩
    · have := h9.get id (by simp; omega) (ho id hi)
      have a1 : id ≠ m.next := by omega
      have a2 : id ≠ m.next + 1 := by omega
      have a3 : id ≠ m.next + 2 := by omega
      have a4 : id ≠ m.next + 3 := by omega
      simpa [a1, a2, a3, a4] using this
    · have := h9.x id (by simp; omega) (ho id hi)
      have a1 : id ≠ m.next + 4 := by omega
      simpa [a1] using this
  have gk : (m2.killLoop (m.next + 4)).get (m.next + 2) = some (.cells [int k] false nv) := by simpa using ne
  refine ⟨_, .normal, by simpa using h4, by simp, rfl, ?_⟩
  simp [gk]
  exact ⟨⟨_, rfl⟩, by simpa using kf⟩
end Go.Proofs.YtjiijacibpgciaaGreat
