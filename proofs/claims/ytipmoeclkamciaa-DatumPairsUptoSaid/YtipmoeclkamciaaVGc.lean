/- What a call made for itself is forgotten. -/
import Derived.Test.YtipmoeclkamciaaVVer
set_option linter.unusedSimpArgs false
set_option linter.unusedVariables false
set_option linter.unusedSectionVars false
namespace Go.V
variable {g : G} {B : Nat} {W w : World}

theorem Tr.get_filt {α : Type} : ∀ (t : Tr α) (p : Nat → Bool) (i : Nat), (t.filt p).get i = if p i then t.get i else none
  | .nil, p, i => by simp [Tr.filt, Tr.get]
  | .nd l v r, p, i => by
    simp only [Tr.filt, Tr.get]
    by_cases h0 : i = 0
    · subst h0; simp
    · rw [if_neg h0, if_neg h0]
      by_cases h1 : i % 2 = 1
      · rw [if_pos h1, if_pos h1, Tr.get_filt l, show 2 * (i / 2) + 1 = i by omega]
      · rw [if_neg h1, if_neg h1, Tr.get_filt r, show 2 * (i / 2 - 1) + 2 = i by omega]
theorem Mem.get_cut (m : Mem) (n i : Nat) : (m.cut n).get i = if i < n then m.get i else none := by
  unfold Mem.cut Mem.get
  rw [Tr.get_filt]
  by_cases h : i < n <;> simp [h]

mutual
theorem Rel.bel {n : Nat} (hn : g.n ≤ n) : ∀ (x : AV) (v : Value), Rel g x v → x.bel n = true
  | .sc x, v, k => by simp [AV.bel]
  | .ptr id off, v, k => by simp only [Rel] at k; simp only [AV.bel]; simp; omega
  | .cptr x off, v, k => by
    simp only [Rel] at k
    obtain ⟨b, o, u, h1, _⟩ := k
    simpa [AV.bel] using Rel.bel hn x u h1
  | .sl id off len q ag cap, v, k => by simp only [Rel] at k; simp only [AV.bel]; simp; omega
  | .emp 0, v, k => by simp [AV.bel]
  | .emp 1, v, k => by simp [AV.bel]
  | .emp 2, v, k => by simp [AV.bel]
  | .emp (n + 3), v, k => by simp [AV.bel]
  | .lst xs, v, k => by
    simp only [Rel] at k
    obtain ⟨a, c, vs, q, _, h, _⟩ := k
    simpa [AV.bel] using Rels.bel hn xs vs h
  | .fn f fi ca, v, k => by
    simp only [Rel] at k
    obtain ⟨vf, vc, _, h1, h2⟩ := k
    simp [AV.bel, Rels.bel hn fi vf h1, Rels.bel hn ca vc h2]
  | .mp _, _, k => by simp [Rel] at k
  | .iface t x, v, k => by
    simp only [Rel] at k
    obtain ⟨u, _, h⟩ := k
    simpa [AV.bel] using Rel.bel hn x u h
  | .agg cs, v, k => by
    simp only [Rel] at k
    obtain ⟨vs, _, h, _⟩ := k
    simpa [AV.bel] using Rels.bel hn cs vs h
  | .tup cs, v, k => by
    simp only [Rel] at k
    obtain ⟨vs, _, h⟩ := k
    simpa [AV.bel] using Rels.bel hn cs vs h
theorem Rels.bel {n : Nat} (hn : g.n ≤ n) : ∀ (xs : List AV) (vs : List Value), Rels g xs vs → AV.bels n xs = true
  | [], vs, k => by simp [AV.bels]
  | x :: xs, vs, k => by
    simp only [Rels] at k
    obtain ⟨v, rest, _, h1, h2⟩ := k
    simp [AV.bels, Rel.bel hn x v h1, Rels.bel hn xs rest h2]
end

/-- The ghost, back at so many objects. -/
def G.back (g : G) (n : Nat) : G := { g with n := n }

mutual
theorem Rel.back {n : Nat} : ∀ (x : AV) (v : Value), Rel g x v → x.bel n = true → Rel (g.back n) x v
  | .sc x, v, k, _ => k
  | .ptr id off, v, k, hb => by
    simp only [Rel] at k ⊢
    simp only [AV.bel, decide_eq_true_eq] at hb
    exact ⟨hb, k.2⟩
  | .cptr x off, v, k, hb => by
    simp only [Rel] at k ⊢
    obtain ⟨b, o, u, h1, h2, h3⟩ := k
    exact ⟨b, o, u, Rel.back x u h1 (by simpa [AV.bel] using hb), h2, h3⟩
  | .sl id off len q ag cap, v, k, hb => by
    simp only [Rel] at k ⊢
    simp only [AV.bel, decide_eq_true_eq] at hb
    exact ⟨hb, k.2⟩
  | .emp 0, v, k, _ => k
  | .emp 1, v, k, _ => k
  | .emp 2, v, k, _ => k
  | .emp (n + 3), v, k, _ => k
  | .lst xs, v, k, hb => by
    simp only [Rel] at k ⊢
    obtain ⟨a, c, vs, q, h1, h2, h3, h4⟩ := k
    exact ⟨a, c, vs, q, h1, Rels.back xs vs h2 (by simpa [AV.bel] using hb), h3, h4⟩
  | .fn f fi ca, v, k, hb => by
    simp only [Rel] at k ⊢
    obtain ⟨vf, vc, h1, h2, h3⟩ := k
    simp only [AV.bel, Bool.and_eq_true] at hb
    exact ⟨vf, vc, h1, Rels.back fi vf h2 hb.1, Rels.back ca vc h3 hb.2⟩
  | .mp _, _, k, _ => k
  | .iface t x, v, k, hb => by
    simp only [Rel] at k ⊢
    obtain ⟨u, h1, h2⟩ := k
    exact ⟨u, h1, Rel.back x u h2 (by simpa [AV.bel] using hb)⟩
  | .agg cs, v, k, hb => by
    simp only [Rel] at k ⊢
    obtain ⟨vs, h1, h2, h3⟩ := k
    exact ⟨vs, h1, Rels.back cs vs h2 (by simpa [AV.bel] using hb), h3⟩
  | .tup cs, v, k, hb => by
    simp only [Rel] at k ⊢
    obtain ⟨vs, h1, h2⟩ := k
    exact ⟨vs, h1, Rels.back cs vs h2 (by simpa [AV.bel] using hb)⟩
theorem Rels.back {n : Nat} : ∀ (xs : List AV) (vs : List Value), Rels g xs vs → AV.bels n xs = true → Rels (g.back n) xs vs
  | [], vs, k, _ => k
  | x :: xs, vs, k, hb => by
    simp only [Rels] at k ⊢
    obtain ⟨v, rest, h1, h2, h3⟩ := k
    simp only [AV.bels, Bool.and_eq_true] at hb
    exact ⟨v, rest, h1, Rel.back x v h2 hb.1, Rels.back xs rest h3 hb.2⟩
end

theorem VM.cut {m m' : Mem} (h : VM m m') : VM m (m'.cut m.next) := by
  refine ⟨h.clock, Nat.le_refl _, fun i id cs f v e => ?_, fun id hi hg => ?_, fun i id cs f v cs' f' v' h1 h2 => ?_⟩
  · rw [Mem.get_cut] at e
    split at e
    · rename_i hl; exact ⟨(h.inv i id cs f v e).1, hl⟩
    · cases e
  · rw [Mem.get_cut, h.gone id hi hg]; split <;> rfl
  · rw [Mem.get_cut] at h2
    split at h2
    · exact h.kept i id cs f v cs' f' v' h1 h2
    · cases h2

theorem VM.gcw {k : Nat} {m m' : Mem} {r : AV × Mem} {v : AV} (h : VM m r.2) (e : gcw k m r = some (v, m')) : VM m m' := by
  unfold Go.V.gcw at e
  split at e
  · cases e; exact h
  · split at e
    · cases e; exact .refl _
    · cases e
  · split at e
    · cases e; exact h.cut
    · cases e

theorem gcw_sound {k : Nat} {m1 m2 m' : Mem} {x v : AV} {u : Value} {g1 g3 : G} {w' : World} (h1 : WR B W g1 m1 w) (hvi : VI m1) (hvm : VM m1 m2) (l : g1.le g3) (w3 : WR B W g3 m2 w') (r3 : Rel g3 x u) (e : gcw k m1 (x, m2) = some (v, m')) :
    ∃ g4, g1.le g4 ∧ Rel g4 v u ∧ WR B W g4 m' w' := by
  have old : ∀ id cs f ver, m1.get id = some (.cells cs f ver) → AV.bels m1.next cs = true := by
    intro id cs f ver hg
    obtain ⟨_, ⟨_, vs, _, _, _, _, hr, _⟩, _⟩ := h1.objs id cs f ver hg
    exact Rels.bel (by rw [h1.n]; exact Nat.le_refl _) cs vs hr
  have lb : g1.le (g3.back m1.next) := ⟨by simp [G.back, h1.n], l.mu, l.sz, l.ln, l.fz⟩
  have same : ∀ id, sameO (m1.get id) (m2.get id) = true → m2.get id = m1.get id := by
    intro id hs
    unfold sameO at hs
    split at hs
    · rename_i cs f v cs' f' v' e1 e2
      simp only [Bool.and_eq_true, beq_iff_eq] at hs
      obtain ⟨rfl, rfl⟩ := hs
      rcases hvm.kept hvi id _ _ _ _ _ _ e1 e2 with ⟨_, rfl⟩ | h
      · rw [e1, e2]
      · have := (hvi id _ _ _ e1).1; omega
    · rename_i e1 e2; rw [e1, e2]
    · cases hs
  have obj : ∀ id cs f ver, m2.get id = some (.cells cs f ver) → AV.bels m1.next cs = true → ObjR B (g3.back m1.next) id cs f w' := by
    intro id cs f ver hg hb
    obtain ⟨a1, ⟨pre, vs, post, el, a2, a3, a4, a5, a6⟩, a7⟩ := w3.objs id cs f ver hg
    exact ⟨a1, ⟨pre, vs, post, el, a2, a3, Rels.back cs vs a4 hb, a5, a6⟩, a7⟩
  unfold Go.V.gcw at e
  split at e
  · cases e; exact ⟨g3, l, r3, w3⟩
  · split at e
    · rename_i hc
      cases e
      simp only [Bool.and_eq_true, List.all_eq_true, List.mem_range] at hc
      have sm : ∀ id, id < m1.next → m2.get id = m1.get id := fun id hi => same id (hc.2 id hi)
      refine ⟨g3.back m1.next, lb, r3.back _ _ hc.1, w3.below, w3.base, rfl, ?_, ?_, ?_, w3.fz⟩
      · intro id o hg; have := h1.ids id o hg; rw [← h1.n] at this; exact this
      · intro id cs f ver hg
        have hi := h1.ids id _ hg
        rw [← h1.n] at hi
        exact obj id cs f ver ((sm id hi).trans hg) (old id cs f ver hg)
      · intro i j hi hj he
        obtain ⟨o, ho⟩ := Option.isSome_iff_exists.1 hi
        obtain ⟨o', ho'⟩ := Option.isSome_iff_exists.1 hj
        have a := h1.ids i o ho; have b := h1.ids j o' ho'
        rw [← h1.n] at a b
        exact w3.inj i j (by rw [sm i a, ho]; rfl) (by rw [sm j b, ho']; rfl) he
    · cases e
  · split at e
    · rename_i hc
      cases e
      simp only [Bool.and_eq_true, List.all_eq_true, List.mem_range, Bool.or_eq_true] at hc
      refine ⟨g3.back m1.next, lb, r3.back _ _ hc.1, w3.below, w3.base, rfl, ?_, ?_, ?_, w3.fz⟩
      · intro id o hg
        rw [Mem.get_cut] at hg
        split at hg
        · assumption
        · cases hg
      · intro id cs f ver hg
        rw [Mem.get_cut] at hg
        split at hg
        · rename_i hi
          refine obj id cs f ver hg ?_
          rcases hc.2 id hi with h | h
          · exact old id cs f ver ((same id h).symm.trans hg)
          · rw [hg] at h; exact h
        · cases hg
      · intro i j hi hj he
        rw [Mem.get_cut] at hi hj
        refine w3.inj i j ?_ ?_ he
        · split at hi
          · exact hi
          · cases hi
        · split at hj
          · exact hj
          · cases hj
    · cases e
end Go.V
