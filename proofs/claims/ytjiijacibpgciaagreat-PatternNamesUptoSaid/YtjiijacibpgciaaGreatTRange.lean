import Derived.Test.YtjiijacibpgciaaGreatTMap
/- The variables of a row: how many there are of each. -/
set_option linter.unusedSimpArgs false
set_option linter.unusedVariables false
set_option linter.unusedSectionVars false
namespace Go.Proofs.YtjiijacibpgciaaGreat
set_option maxRecDepth 4000
open Go.V
attribute [local simp] Nat.add_assoc

/-- One part more of a row. -/
def rstep (got : List Got) (st : Int × List Int) (x : Dat) : Option (Int × List Int) :=
  if plc got x < 0 then some st else match got[(plc got x).toNat]? with
    | some g => if g.deep = 0 then some st else if 0 ≤ st.1 ∧ st.1 ≠ g.subs.length then none else some (g.subs.length, plc got x :: st.2)
    | none => none
def rfold (got : List Got) (ys : List Dat) : Option (Int × List Int) := ys.foldl (fun o x => o.bind fun st => rstep got st x) (some (-1, []))
theorem rfold_snoc (got : List Got) (l : List Dat) (x : Dat) : rfold got (l ++ [x]) = (rfold got l).bind fun st => rstep got st x := by simp [rfold]
/-- What is so of the numbers that are kept. -/
def RInv (got : List Got) (st : Int × List Int) : Prop := (st.1 < 0 ↔ st.2 = []) ∧ ∀ k ∈ st.2, ∃ (j : Nat) (g : Got), k = j ∧ got[j]? = some g ∧ (g.subs.length : Int) = st.1
theorem rstep_inv {got : List Got} {st st' : Int × List Int} {x : Dat} (h : RInv got st) (e : rstep got st x = some st') : RInv got st' := by
  unfold rstep at e
  split at e
  · cases e; exact h
  · rename_i hp
    split at e
    · rename_i g hg
      split at e
      · cases e; exact h
      · split at e
        · cases e
        · rename_i hc
          cases e
          refine ⟨⟨fun q => by simp at q; omega, fun q => by simp at q⟩, fun k hk => ?_⟩
          simp at hk
          rcases hk with rfl | hk
          · exact ⟨_, g, by omega, hg, rfl⟩
          · obtain ⟨j, g', e1, e2, e3⟩ := h.2 k hk
            have h0 : 0 ≤ st.1 := by omega
            have : st.1 = g.subs.length := Classical.byContradiction fun q => hc ⟨h0, q⟩
            exact ⟨j, g', e1, e2, by rw [e3, this]⟩
    · cases e
theorem rfold_inv {got : List Got} : ∀ {ys : List Dat} {st : Int × List Int}, rfold got ys = some st → RInv got st := by
  have key : ∀ (ys : List Dat) (o : Option (Int × List Int)), (∀ st, o = some st → RInv got st) → ∀ st, ys.foldl (fun o x => o.bind fun st => rstep got st x) o = some st → RInv got st := by
    intro ys
    induction ys with
    | nil => intro o h st e; exact h st e
    | cons x ys ih =>
      intro o h st e
      refine ih (o.bind fun st => rstep got st x) (fun st' e' => ?_) st e
      obtain ⟨s0, h0, h1⟩ := Option.bind_eq_some_iff.1 e'
      exact rstep_inv (h s0 h0) h1
  intro ys st e
  exact key ys _ (fun st h => by cases h; exact ⟨⟨fun _ => rfl, fun _ => by simp⟩, fun k hk => by simp at hk⟩) st e

/-- What 'row' keeps while it is told parts. -/
def RowJ (lo B b3 gb rb nb mid mb : Nat) (mark left bad : Int) (got : List Got) (c : LCode) (ys : List Dat) (F : Nat → Prop) (m : Mem) : Prop :=
  F = (fun i => i = lo ∨ i = B ∨ i = b3 ∨ i = gb ∨ i = rb ∨ i = nb ∨ i = mid ∨ i = mb) ∧ lo < m.next ∧ has m b3 [.ptr B 0] ∧ has m gb [.lst (encGs got)] ∧ has m mb [.mp mid] ∧ mid < m.next ∧ has m rb [.emp 0] ∧
  match rfold got ys with
  | some st => has m B (bld mark left bad) ∧ has m nb [int st.1] ∧ (∃ kl, SetOk m mid kl ∧ ∀ x, x ∈ kl ↔ x ∈ st.2) ∧ ∃ ver, m.loop lo = some ⟨.ready, none, c, ver⟩
  | none => has m B (bld mark left 62) ∧ (∃ k, has m nb [int k]) ∧ ∃ ver, m.loop lo = some ⟨.done, some .ret, c, ver⟩
section
variable {lo B b3 gb rb nb mid mb : Nat} {mark left bad : Int} {got : List Got} {c : LCode}
theorem rowJ_keep {l : List Dat} {F : Nat → Prop} {m m' : Mem} (h : RowJ lo B b3 gb rb nb mid mb mark left bad got c l F m) (k : KpX (fun i => ¬ F i) m m') : RowJ lo B b3 gb rb nb mid mb mark left bad got c l F m' := by
  obtain ⟨rfl, h1, h2, h3, h4, h5, h6, h7⟩ := h
  refine ⟨rfl, Nat.lt_of_lt_of_le h1 k.next, h2.kept k (by simp), h3.kept k (by simp), h4.kept k (by simp), Nat.lt_of_lt_of_le h5 k.next, h6.kept k (by simp), ?_⟩
  revert h7
  cases rfold got l with
  | some st =>
    rintro ⟨a1, a2, ⟨kl, a3, a4⟩, ver, a5⟩
    exact ⟨a1.kept k (by simp), a2.kept k (by simp), ⟨kl, a3.keep (k.x mid h5).2, a4⟩, ver, by rw [(k.x lo h1).1]; exact a5⟩
  | none =>
    rintro ⟨a1, ⟨q, a2⟩, ver, a5⟩
    exact ⟨a1.kept k (by simp), ⟨q, a2.kept k (by simp)⟩, ver, by rw [(k.x lo h1).1]; exact a5⟩
theorem rowJ_lt {l : List Dat} {F : Nat → Prop} {m : Mem} (h : RowJ lo B b3 gb rb nb mid mb mark left bad got c l F m) : ∀ i, F i → i < m.next := by
  obtain ⟨rfl, h1, h2, h3, h4, h5, h6, h7⟩ := h
  have hB : B < m.next ∧ nb < m.next := by
    revert h7
    cases rfold got l with
    | some st => rintro ⟨a1, a2, _⟩; exact ⟨a1.1, a2.1⟩
    | none => rintro ⟨a1, ⟨q, a2⟩, _⟩; exact ⟨a1.1, a2.1⟩
  rintro i (rfl | rfl | rfl | rfl | rfl | rfl | rfl | rfl)
  · exact h1
  · exact hB.1
  · exact h2.1
  · exact h3.1
  · exact h6.1
  · exact hB.2
  · exact h5
  · exact h4.1
end
end Go.Proofs.YtjiijacibpgciaaGreat
