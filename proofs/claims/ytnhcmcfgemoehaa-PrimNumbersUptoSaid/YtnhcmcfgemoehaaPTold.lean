import Derived.Test.YtnhcmcfgemoehaaPAll
/- The procedures that are told. -/
set_option linter.unusedSimpArgs false
set_option linter.unusedVariables false
set_option linter.unusedSectionVars false
namespace Go.Proofs.Ytnhcmcfgemoehaa
open Go.V
attribute [local simp] Nat.add_assoc

/-- A procedure that is told. -/
def nmA (i : Nat) (s : List UInt8) : AV := .agg [int i, .sc (.string ⟨⟨s⟩⟩)]
def ent : List (List UInt8 × Int × Int) → Nat → List AV
  | [], _ => []
  | r :: l, i => (if r.1 = [] then [] else [nmA i r.1]) ++ ent l (i + 1)
def ents (k : Nat) : List AV := ent (rws.take k) 0
theorem ent_append : ∀ (a b : List (List UInt8 × Int × Int)) (i : Nat), ent (a ++ b) i = ent a i ++ ent b (i + a.length)
  | [], b, i => by simp [ent]
  | r :: a, b, i => by
    simp only [List.cons_append, ent, ent_append a b (i + 1), List.length_cons, List.append_assoc]
    rw [show i + 1 + a.length = i + (a.length + 1) by omega]
theorem ents_succ {k : Nat} {r : List UInt8 × Int × Int} (h : rws[k]? = some r) : ents (k + 1) = ents k ++ if r.1 = [] then [] else [nmA k r.1] := by
  obtain ⟨h1, h2⟩ := List.getElem?_eq_some_iff.1 h
  have hl : (rws.take k).length = k := by rw [List.length_take]; omega
  unfold ents
  rw [List.take_succ_eq_append_getElem h1, h2, ent_append, hl]
  simp [ent]
theorem ents_prefix {k : Nat} (h : k ≤ 85) : ∃ l, ents 85 = ents k ++ l := by
  refine ⟨ent (rws.drop k) k, ?_⟩
  have hl : (rws.take k).length = k := by rw [List.length_take, rws_length]; omega
  unfold ents
  rw [List.take_of_length_le (by rw [rws_length]; omega)]
  conv => lhs; rw [← List.take_append_drop k rws]
  rw [ent_append, hl, Nat.zero_add]
theorem ent_ok : ∀ (l : List (List UInt8 × Int × Int)) (i : Nat), okAll 2 (ent l i) = true
  | [], i => rfl
  | r :: l, i => by
    simp only [ent]
    split
    · simpa using ent_ok l (i + 1)
    · simp [okAll_cons, nmA, ent_ok l (i + 1)]
theorem ent_row : ∀ (l : List (List UInt8 × Int × Int)) (i : Nat), ∀ y ∈ ent l i, y.cells.length = 2 ∧ AV.agg y.cells = y
  | [], i, y, h => by simp [ent] at h
  | r :: l, i, y, h => by
    simp only [ent, List.mem_append] at h
    rcases h with h | h
    · split at h
      · simp at h
      · simp at h; subst h; simp [nmA]
    · exact ent_row l (i + 1) y h
theorem ent_len : ∀ (l : List (List UInt8 × Int × Int)) (i : Nat), (ent l i).length ≤ l.length
  | [], i => by simp [ent]
  | r :: l, i => by
    have := ent_len l (i + 1)
    simp only [ent, List.length_append, List.length_cons]
    split <;> simp <;> omega

theorem ent_bel : ∀ (l : List (List UInt8 × Int × Int)) (i n : Nat), AV.bels n (ent l i) = true
  | [], i, n => rfl
  | r :: l, i, n => by
    simp only [ent]
    split
    · simpa using ent_bel l (i + 1) n
    · simp [nmA, AV.bels, AV.bel, ent_bel l (i + 1) n]
theorem take_bel : ∀ (l : List AV) (k n : Nat), AV.bels n l = true → AV.bels n (l.take k) = true
  | [], k, n, h => by simp [AV.bels]
  | x :: l, 0, n, h => by simp [AV.bels]
  | x :: l, k + 1, n, h => by
    simp only [AV.bels, Bool.and_eq_true] at h
    simp [AV.bels, h.1, take_bel l k n h.2]
theorem take_ok : ∀ (l : List AV) (k : Nat), okAll 2 l = true → okAll 2 (l.take k) = true
  | [], k, h => by simp [okAll_nil]
  | x :: l, 0, h => by simp [okAll_nil]
  | x :: l, k + 1, h => by
    rw [okAll_cons] at h
    simp only [Bool.and_eq_true] at h
    rw [List.take_succ_cons, okAll_cons]
    simp [h.1, take_ok l k h.2]

theorem ents_bel (k n : Nat) : AV.bels n (ents k) = true := ent_bel _ _ _
theorem ents_ok (k : Nat) : okAll 2 (ents k) = true := ent_ok _ _
theorem ents_row (k : Nat) : ∀ y ∈ ents k, y.cells.length = 2 ∧ AV.agg y.cells = y := ent_row _ _
theorem ents_len (k : Nat) (h : k ≤ 85) : (ents k).length ≤ 85 := by have := ent_len (rws.take k) 0; unfold ents; rw [List.length_take, rws_length] at this; omega
theorem ents_zero : ents 0 = [] := rfl
attribute [irreducible] ents

structure ToldJ (most : Nat) (m0 : Mem) (c : LCode) (k : Nat) (m : Mem) : Prop where
  kp : Kp m0 m
  lt : m0.next + 2 < m.next
  kk : k ≤ 85
  lp : ∃ ver, m.loop (m0.next + 2) = some ⟨.ready, none, c, ver⟩
  a : ∃ v, m.get m0.next = some (.cells [int most] false v)
  b : ∃ w v, m.get (m0.next + 1) = some (.cells [w] false v) ∧ Acc m0 m 2 true (ents k) w ∧ ¬ owns w m0.next ∧ ¬ owns w (m0.next + 1) ∧ ¬ owns w (m0.next + 2)
  le : (ents k).length ≤ most
structure ToldZ (most : Nat) (m0 : Mem) (c : LCode) (m : Mem) : Prop where
  kp : Kp m0 m
  lp : ∃ ver, m.loop (m0.next + 2) = some ⟨.done, some (.exit 0), c, ver⟩
  b : ∃ w v, m.get (m0.next + 1) = some (.cells [w] false v) ∧ Acc m0 m 2 true ((ents 85).take most) w

theorem eqNilFn {x y : Operand} {f : Fn} {a b : List AV} : abin Try.prog .eql 41 x y (.fn f a b) (.sc .nilFunc) = some (.sc (.bool false)) := by
  have : nilTest Try.prog 41 (.fn f a b) (.sc .nilFunc) = some false := by
    unfold nilTest
    rw [Try.underlying41]
  simp [abin, plain, this]

set_option maxRecDepth 100000 in
set_option maxHeartbeats 8000000 in
theorem e10 (most : Nat) (hm : most ≤ 2 ^ 20) (m : Mem) : EH Try.prog cp (.func 10) [.fn (.func 21) [] [], int most] m (.lst ((ents 85).take most)) m := by
  refine eh_run Try.func10 rfl rfl rfl rfl (args1 := [.fn (.func 21) [] [], int most]) (m1 := m) (by simp) (by simp [AV.bel, take_bel _ _ _ (ents_bel _ _)]) (by simp [Try.f10]) (by simp [Try.f10]) ?_
  simp only [Try.f10, show cp.keepRes 10 = false from rfl]
  simp [eqNilFn]
  refine go_range (f := 21) (a := []) (b := []) (by simp) (by kernel_rfl) ?_
  simp only [List.nil_append, List.append_nil]
  generalize hcd : LCode.mk _ _ _ _ _ = c
  have c1 := congrArg LCode.assign hcd
  have c2 := congrArg LCode.body hcd
  have c3 := congrArg LCode.N hcd
  have c4 := congrArg LCode.s hcd
  have c5 := congrArg LCode.ps hcd
  dsimp only at c1 c2 c3 c4 c5
  have R : Rows21 (m.next + 2) (ToldJ most m c) (ToldZ most m c) := by
    refine ⟨fun k m1 m2 h q => ?_, fun k r m1 hr h0 h => ?_, fun k r m1 hr h0 h => ?_⟩
    · obtain ⟨v, hv⟩ := h.lp
      obtain ⟨va, ha⟩ := h.a
      obtain ⟨w, vb, hb, hacc, o1, o2, o3⟩ := h.b
      have hlt := h.lt
      exact ⟨h.kp.trans q, Nat.lt_of_lt_of_le h.lt q.next, h.kk, ⟨v, by rw [(q.x _ h.lt).1]; exact hv⟩, ⟨va, by rw [q.get _ (by omega)]; exact ha⟩, ⟨w, vb, by rw [q.get _ (by omega)]; exact hb, hacc.kp q, o1, o2, o3⟩, h.le⟩
    · have hk := (List.getElem?_eq_some_iff.1 hr).1
      rw [rws_length] at hk
      have e : ents (k + 1) = ents k := by rw [ents_succ hr, if_pos h0, List.append_nil]
      exact ⟨h.kp, h.lt, hk, h.lp, h.a, by rw [e]; exact h.b, by rw [e]; exact h.le⟩
    · have hk := (List.getElem?_eq_some_iff.1 hr).1
      rw [rws_length] at hk
      obtain ⟨v, hv⟩ := h.lp
      obtain ⟨va, ha⟩ := h.a
      obtain ⟨w, vb, hb, hacc, o1, o2, o3⟩ := h.b
      have hlt := h.lt
      have hle := h.le
      have e : ents (k + 1) = ents k ++ [nmA k r.1] := by rw [ents_succ hr, if_neg h0]
      have hl85 := ents_len k h.kk
      refine wph_round hv (by rw [← hcd]; rfl) ?_
      simp only [← c1, ← c2, ← c3, ← c4, ← c5]
      have hlp : ∀ (m' : Mem), abuiltin Try.prog .len #[38] 3 [w] m' = some (int (ents k).length, m') := by
        intro m'
        rcases hacc with ⟨h1, rfl⟩ | ⟨h1, id, w, rfl, h2, h3, h4⟩
        · rw [h1]; exact alen_emp Try.underlying38
        · rw [alen_sl Try.underlying38]
      by_cases hge : most ≤ (ents k).length
      · simp [Sl.puts, hv, ha, hb, hlp, hge]
        have ht : (ents 85).take most = ents k := by
          obtain ⟨l, hl⟩ := ents_prefix (k := k) (by omega)
          have : most = (ents k).length := by omega
          rw [hl, this, List.take_left]
        have kc : KpC (fun i => i = m.next + 2) m1 ((m1.setLoop (m.next + 2) .busy none c).setLoop (m.next + 2) .done (some (.exit 0)) c) := by
          refine ⟨by simp, fun id hi _ => by simp, fun id hi hx => ?_⟩
          have : id ≠ m.next + 2 := hx
          simp [this]
        refine ⟨?_, ⟨_, by simp; rfl⟩, w, vb, by simpa using hb, ?_⟩
        · simp
          exact h.kp
        · rw [ht]
          exact acc_keptC hacc kc fun j hj e => o3 (e ▸ hj)
      · obtain ⟨m2, hm2⟩ : ∃ m2 : Mem, m2 = m1.setLoop (m.next + 2) .busy none c := ⟨_, rfl⟩
        have hkc : KpC (fun i => i = m.next + 2) m1 m2 := by
          rw [hm2]
          refine ⟨by simp, fun id hi _ => by simp, fun id hi hx => ?_⟩
          have : id ≠ m.next + 2 := hx
          simp [this]
        have hb2 : m2.get (m.next + 1) = some (.cells [w] false vb) := by rw [hm2]; simpa using hb
        have ha2 : m2.get m.next = some (.cells [int most] false va) := by rw [hm2]; simpa using ha
        have hl2 : m2.loop (m.next + 2) = some ⟨.busy, none, c, m1.clock + 1⟩ := by rw [hm2]; simp
        have hn2 : m2.next = m1.next := by rw [hm2]; simp
        have kp2 : Kp m m2 := by rw [hm2]; simp; exact h.kp
        have hacc2 := acc_keptC hacc hkc fun j hj e => o3 (e ▸ hj)
        have ovl := acc_lt hacc
        simp [Sl.puts, hv, ha, hb, hlp, hge, ← hm2]
        clear hm2
        simp [ha2, hb2, hlp, hge, abuild, placesOf, fillAt, abuildSlice, zeros]
        have k1 : Kp m2 (m2.new (nmA k r.1).cells false) := .new _ _ _
        have hsrc := src_one (m := m2.new (nmA k r.1).cells false) (id := m2.next) (c := some 1) (k := 2) (ag := true) (x := nmA k r.1) (w := m2.clock + 1) (f := false) rfl (by simp [nmA]) (by simp [nmA]) (by simp [nmA])
        have key := acc_app2 (hacc2.kp k1) (ents_ok k) el38 (zs := [nmA k r.1]) (zs' := [nmA k r.1]) (List.cons_ne_nil _ _) (by simp [okAll_cons, okAll_nil, nmA]) (by simp [fzvs, nmA]) (.refl _) (Nat.le_trans (show (ents k).length + 1 ≤ 86 by omega) (Nat.le_of_ble_eq_true rfl))
        obtain ⟨m3, q1, q2, q3', q4, q4x⟩ := key
        obtain ⟨w3, q3⟩ := q3'
        simp [hn2, nmA] at q1 q2 q3 q4 hsrc
        have g3b : m3.get (m.next + 1) = some (.cells [w] false vb) := by rw [q4 _ (by omega) o2, if_neg (by omega)]; exact hb2
        have g3a : m3.get m.next = some (.cells [int most] false va) := by rw [q4 _ (by omega) o1, if_neg (by omega)]; exact ha2
        have g3l : m3.loop (m.next + 2) = some ⟨.busy, none, c, m1.clock + 1⟩ := by
          rw [(q4x (m.next + 2) (by simp; omega)).1]
          simpa using hl2
        simp [hsrc, q1, hn2, hb2, g3b]
        obtain ⟨m4, hm4⟩ : ∃ m4 : Mem, m4 = ((m3.set (m.next + 1) [AV.sl (m1.next + 1) 0 ((ents k).length + 1) 2 true none]).setLoop (m.next + 2) .ready none c) := ⟨_, rfl⟩
        have n4 : m4.next = m1.next + 2 := by rw [hm4]; simp [q2]
        rw [g3l]
        refine ⟨_, rfl, ?_⟩
        dsimp only
        rw [← hm4]
        have kp3 : Kp m m3 := by
          refine ⟨by omega, fun id hi => ?_, fun id hi => ?_⟩
          · have a1 : ¬ owns w id := fun e => by have := (ovl id e).1; omega
            rw [q4 id (by omega) a1, if_neg (by omega)]
            exact kp2.get id hi
          · have a2 := q4x id (by simp; omega)
            have a3 := kp2.x id hi
            simp at a2
            exact ⟨a2.1.trans a3.1, a2.2.trans a3.2⟩
        refine ⟨?_, by omega, by omega, ⟨m3.clock + 2, by rw [hm4]; simp⟩, ⟨va, by rw [hm4]; simp [g3a]⟩, ⟨.sl (m1.next + 1) 0 ((ents k).length + 1) 2 true none, m3.clock + 1, by rw [hm4]; simp, ?_, by simp [owns]; omega, by simp [owns]; omega, by simp [owns]; omega⟩, by rw [e]; simp; omega⟩
        · rw [hm4]; simp; exact kp3
        · refine .inr ⟨by rw [e]; simp, m1.next + 1, w3, by rw [e]; simp, by omega, by omega, ?_⟩
          have a1 : m1.next ≠ m.next := by omega
          rw [hm4, e]
          simp [a1, q3, flat_append, flat_cons, flat_nil, nmA]
  refine wph_mono (all21 R _ ⟨?_, by simp, by omega, ⟨_, by simp; rfl⟩, ⟨_, by simp; rfl⟩, ⟨.emp 0, _, by simp; rfl, .inl ⟨ents_zero, rfl⟩, fun h => h, fun h => h, fun h => h⟩, by rw [ents_zero]; simp⟩) ?_
  · simp
  have fin : ∀ (m2 : Mem) (w : AV) (vb : Nat), Kp m m2 → m2.get (m.next + 1) = some (.cells [w] false vb) → Acc m m2 2 true ((ents 85).take most) w → (fzr (m2.killLoop (m.next + 2)) w).1 = .lst ((ents 85).take most) ∧ Kp m (fzr (m2.killLoop (m.next + 2)) w).2 := by
    intro m2 w vb hk hb hacc
    have kl : KpX (fun _ => False) m2 (m2.killLoop (m.next + 2)) ∨ True := .inr trivial
    have hacc' : Acc m (m2.killLoop (m.next + 2)) 2 true ((ents 85).take most) w := by
      rcases hacc with h | ⟨h, id, u, h1, h2, h3, h4⟩
      · exact .inl h
      · exact .inr ⟨h, id, u, h1, h2, by simpa using h3, by simpa using h4⟩
    have hk' : Kp m (m2.killLoop (m.next + 2)) := by simp; exact hk
    obtain ⟨m3, q1, q2⟩ := hacc'.fz hk' rfl (fun y hy => by have := ents_row 85 y (List.mem_of_mem_take hy); simpa using this) (take_ok _ _ (ents_ok 85))
    rw [hacc'.fzr, q1]
    exact ⟨rfl, q2⟩
  rintro v m2 (h | h)
  · obtain ⟨v, hv⟩ := h.lp
    obtain ⟨w, vb, hb, hacc, o1, o2, o3⟩ := h.b
    refine ⟨_, .normal, hv, by simp, rfl, ?_⟩
    simp [hb]
    exact fin m2 w vb h.kp hb (by rw [List.take_of_length_le h.le]; exact hacc)
  · obtain ⟨v, hv⟩ := h.lp
    obtain ⟨w, vb, hb, hacc⟩ := h.b
    refine ⟨_, .exit 0, hv, by simp, rfl, ?_⟩
    simp [hb]
    exact fin m2 w vb h.kp hb hacc
end Go.Proofs.Ytnhcmcfgemoehaa
