import Derived.Test.YtnhcmcfgemoehaaPBase
/- Going through the procedures; the one of a name. -/
set_option linter.unusedSimpArgs false
set_option linter.unusedVariables false
set_option linter.unusedSectionVars false
namespace Go.Proofs.Ytnhcmcfgemoehaa
open Go.V
attribute [local simp] Nat.add_assoc

/-- What a loop's body does with the procedures that are told to it. -/
structure Rows21 (lo : Nat) (J : Nat → Mem → Prop) (Z : Mem → Prop) : Prop where
  keep : ∀ k m m', J k m → Kp m m' → J k m'
  skip : ∀ k r m, rws[k]? = some r → r.1 = [] → J k m → J (k + 1) m
  see : ∀ k r m, rws[k]? = some r → r.1 ≠ [] → J k m → wph Try.prog cp (.yield lo) [int k, .sc (.string ⟨⟨r.1⟩⟩)] m fun v m' => ∃ b, v = .sc (.bool b) ∧ (b = true → J (k + 1) m') ∧ (b = false → Z m')

set_option maxHeartbeats 4000000 in
theorem all21 {lo : Nat} {J : Nat → Mem → Prop} {Z : Mem → Prop} (R : Rows21 lo J Z) (m : Mem) (hJ : J 0 m) :
    wph Try.prog cp (.func 21) [.yl lo] m fun _ m' => J 85 m' ∨ Z m' := by
  refine wph_go Try.func21 rfl rfl (by simp [Try.f21]) (by simp [Try.f21]) fun Q hQ => ?_
  simp only [Try.f21, show cp.keepRes 21 = false from rfl, show cp.keepArgs 21 = false from rfl] at hQ ⊢
  simp [(g22 _).go]
  refine go_count 5 85 (fun i s m' => J i m' ∧ s.at 4 = tableA ∧ s.at 0 = .yl lo) (by simp) (by omega) ⟨hJ, by simp, by simp⟩ ?_
  rintro i s m' hi e5 ⟨hJi, e4, e0⟩ hsame hw Q' hn he
  simp [e5]
  refine goB_split (fun h => ?_) fun h => ?_
  · have hlt : i < 85 := by have := of_decide_eq_true h; omega
    obtain ⟨r, hr⟩ : ∃ r, rws[i]? = some r := ⟨_, List.getElem?_eq_getElem (by rw [rws_length]; exact hlt)⟩
    have kp : Kp m' ((m'.new [AV.sc (Value.string ⟨⟨[]⟩⟩), int 0, int 0] false).set m'.next (rowC r)) := by simp
    by_cases hr0 : r.1 = []
    · simp [e5, e4, e0, table_at hr, rowC, hr0, hw]
      simp only [rowC] at kp
      refine hn _ _ hlt (by simp) ⟨R.skip i r _ hr hr0 (R.keep i _ _ hJi ?_), by simp [e4], by simp [e0]⟩
      simp
    · simp [e5, e4, e0, table_at hr, rowC, hr0, hw]
      simp only [rowC] at kp
      refine goH_of (R.see i r _ hr hr0 (R.keep i _ _ hJi kp)) ?_
      rintro v m2 ⟨b, rfl, h1, h2⟩
      cases b with
      | true =>
        simp [e5, hw]
        refine hn _ _ hlt (by simp) ⟨h1 rfl, by simp [e4], by simp [e0]⟩
      | false =>
        simp
        refine he _ _ _ (by simp) ?_
        simp
        refine hQ _ _ _ ⟨.inr rfl, [], rfl, .inr (h2 rfl)⟩
  · have hge : i = 85 := by have := of_decide_eq_false h; omega
    subst hge
    simp
    refine he _ _ _ (by simp) ?_
    simp
    exact hQ _ _ _ ⟨.inl rfl, [], rfl, .inl hJi⟩

/-- Where a name is. -/
def isRow (s : List UInt8) (r : List UInt8 × Int × Int) : Bool := !decide (r.1 = []) && decide (r.1 = s)
def fnd (s : List UInt8) : Int × Bool := match rws.findIdx? (isRow s) with | some k => (k, true) | none => (0, false)
theorem findIdx_first {α : Type} {p : α → Bool} : ∀ {l : List α} {k : Nat} {x : α}, l[k]? = some x → p x = true → (∀ j y, j < k → l[j]? = some y → p y = false) → l.findIdx? p = some k
  | [], k, x, h, _, _ => by simp at h
  | a :: l, 0, x, h, hp, _ => by simp at h; subst h; simp [List.findIdx?_cons, hp]
  | a :: l, k + 1, x, h, hp, hn => by
    have h0 := hn 0 a (by omega) (by simp)
    rw [List.findIdx?_cons, h0]
    rw [findIdx_first (l := l) (k := k) (by simpa using h) hp fun j y hj hy => hn (j + 1) y (by omega) (by simpa using hy)]
    rfl

theorem g11 : Gives Try.prog cp 11 [] (.fn (.func 21) [] []) := by
  refine gives_run Try.func11 rfl rfl rfl rfl (by simp) (by simp [Try.f11]) (by simp [Try.f11]) fun m => ?_
  simp [Try.f11, show cp.keepRes 11 = false from rfl, fzr, fzv, fz1]

structure FindJ (s : List UInt8) (m0 : Mem) (c : LCode) (k : Nat) (m : Mem) : Prop where
  kp : Kp m0 m
  lt : m0.next + 3 < m.next
  lp : ∃ ver, m.loop (m0.next + 3) = some ⟨.ready, none, c, ver⟩
  a : ∃ v, m.get m0.next = some (.cells [.sc (.string ⟨⟨s⟩⟩)] false v)
  b : ∃ v, m.get (m0.next + 1) = some (.cells [int 0] false v)
  d : ∃ v, m.get (m0.next + 2) = some (.cells [.sc (.bool false)] false v)
  no : ∀ j r, j < k → rws[j]? = some r → isRow s r = false
structure FindZ (s : List UInt8) (m0 : Mem) (c : LCode) (m : Mem) : Prop where
  kp : Kp m0 m
  lp : ∃ ver, m.loop (m0.next + 3) = some ⟨.done, some .ret, c, ver⟩
  b : ∃ v, m.get (m0.next + 1) = some (.cells [int (fnd s).1] false v)
  d : ∃ v, m.get (m0.next + 2) = some (.cells [.sc (.bool true)] false v)
  yes : (fnd s).2 = true

set_option maxHeartbeats 4000000 in
theorem g12 (s : List UInt8) : Gives Try.prog cp 12 [.sc (.string ⟨⟨s⟩⟩)] (.tup [int (fnd s).1, .sc (.bool (fnd s).2)]) := by
  refine gives_run Try.func12 rfl rfl rfl rfl (by simp) (by simp [Try.f12]) (by simp [Try.f12]) fun m => ?_
  simp [Try.f12, show cp.keepRes 12 = false from rfl, g11.go]
  refine go_range (f := 21) (a := []) (b := []) (by simp) (by kernel_rfl) ?_
  simp only [List.nil_append, List.append_nil]
  generalize hcd : LCode.mk _ _ _ _ _ = c
  have c1 := congrArg LCode.assign hcd
  have c2 := congrArg LCode.body hcd
  have c3 := congrArg LCode.N hcd
  have c4 := congrArg LCode.s hcd
  have c5 := congrArg LCode.ps hcd
  dsimp only at c1 c2 c3 c4 c5
  have R : Rows21 (m.next + 3) (FindJ s m c) (FindZ s m c) := by
    refine ⟨fun k m1 m2 h q => ?_, fun k r m1 hr h0 h => ?_, fun k r m1 hr h0 h => ?_⟩
    · obtain ⟨v, hv⟩ := h.lp
      obtain ⟨va, ha⟩ := h.a
      obtain ⟨vb, hb⟩ := h.b
      obtain ⟨vd, hd⟩ := h.d
      have hlt := h.lt
      exact ⟨h.kp.trans q, Nat.lt_of_lt_of_le h.lt q.next, ⟨v, by rw [(q.x _ h.lt).1]; exact hv⟩, ⟨va, by rw [q.get _ (by omega)]; exact ha⟩, ⟨vb, by rw [q.get _ (by omega)]; exact hb⟩, ⟨vd, by rw [q.get _ (by omega)]; exact hd⟩, h.no⟩
    · refine ⟨h.kp, h.lt, h.lp, h.a, h.b, h.d, fun j r' hj hr' => ?_⟩
      by_cases e : j = k
      · subst e; rw [hr] at hr'; cases hr'; simp [isRow, h0]
      · exact h.no j r' (by omega) hr'
    · obtain ⟨v, hv⟩ := h.lp
      obtain ⟨va, ha⟩ := h.a
      obtain ⟨vb, hb⟩ := h.b
      obtain ⟨vd, hd⟩ := h.d
      have hlt := h.lt
      refine wph_round hv (by rw [← hcd]; rfl) ?_
      simp only [← c1, ← c2, ← c3, ← c4, ← c5]
      by_cases e : r.1 = s
      · have hf : fnd s = ((k : Int), true) := by
          unfold fnd
          rw [findIdx_first hr (by simp [isRow, h0, e]; rw [← e]; exact h0) fun j y hj hy => h.no j y hj hy]
        simp [Sl.puts, hv, ha, hb, hd, e]
        refine ⟨?_, ⟨_, by simp; rfl⟩, ⟨_, by simp [hf]; rfl⟩, ⟨_, by simp; rfl⟩, by rw [hf]⟩
        simp
        exact h.kp
      · simp [Sl.puts, hv, ha, e]
        refine ⟨?_, by simpa using hlt, ⟨_, by simp; rfl⟩, ⟨va, by simpa using ha⟩, ⟨vb, by simpa using hb⟩, ⟨vd, by simpa using hd⟩, fun j r' hj hr' => ?_⟩
        · simp
          exact h.kp
        · by_cases ej : j = k
          · subst ej; rw [hr] at hr'; cases hr'; simp [isRow, e]
          · exact h.no j r' (by omega) hr'
  refine wph_mono (all21 R _ ⟨?_, by simp, ⟨_, by simp; rfl⟩, ⟨_, by simp; rfl⟩, ⟨_, by simp; rfl⟩, ⟨_, by simp; rfl⟩, fun j r hj => absurd hj (Nat.not_lt_zero j)⟩) ?_
  · simp
  rintro v m2 (h | h)
  · obtain ⟨v, hv⟩ := h.lp
    obtain ⟨vb, hb⟩ := h.b
    obtain ⟨vd, hd⟩ := h.d
    have hlt := h.lt
    have hf : fnd s = (0, false) := by
      have : rws.findIdx? (isRow s) = none := List.findIdx?_eq_none_iff.2 fun x hx => by
        obtain ⟨j, hj, rfl⟩ := List.mem_iff_getElem.1 hx
        exact h.no j _ (by rw [← rws_length]; exact hj) (List.getElem?_eq_getElem hj)
      unfold fnd
      rw [this]
    refine ⟨_, .normal, hv, by simp, rfl, ?_⟩
    simp [hb, hd, hf]
    exact h.kp
  · obtain ⟨v, hv⟩ := h.lp
    obtain ⟨vb, hb⟩ := h.b
    obtain ⟨vd, hd⟩ := h.d
    have hy := h.yes
    refine ⟨_, .ret, hv, by simp, rfl, ?_⟩
    simp [hb, hd, hy]
    exact h.kp
end Go.Proofs.Ytnhcmcfgemoehaa
