import Derived.Test.YtipmoeclkamciaaYSee
import Derived.Test.YtipmoeclkamciaaVE
import Derived.Test.YtipmoeclkamciaaYLaw5
/- The parts of a datum, told. -/
set_option linter.unusedSimpArgs false
set_option linter.unusedVariables false
set_option linter.unusedSectionVars false
namespace Go.Proofs.Ytipmoeclkamciaa
open Go.V

set_option maxHeartbeats 4000000 in
/-- The walk, its parts shown. -/
theorem see43 {J : List Dat → (Nat → Prop) → Mem → Prop} {go' : List Dat → Bool} {fs : FuncId} {ca : List AV} (hJ : Sees J go' (.func fs) [] ca) (d : Dat) (hd : d.fits) (h0 : chk d = 0) (F : Nat → Prop) (m : Mem) (hJl : J [] F m) :
    wph Try.prog cw (.func 43) [enc d, .fn (.func fs) [] ca] m fun v m' => (∃ F', J (vis go' [] (pre d)).1 F' m' ∧ ∀ i, F' i → F i ∨ m.next ≤ i) ∧ KpC F m m' := by
  refine wph_go Try.func43 rfl rfl (by simp [Try.f43]) (by simp [Try.f43]) fun Q hQ => ?_
  simp only [Try.f43, show cw.keepRes 43 = false from rfl, show cw.keepArgs 43 = false from rfl] at hQ ⊢
  simp [Nat.add_assoc]
  obtain ⟨em, hem⟩ : ∃ em, em = (((((((((((m.new (enc d).cells false).new [AV.fn (Fn.func fs) [] ca] false).new [int 0] false).new [int 0] false).set (m.next + 2) [int 0]).set (m.next + 3) [int 0]).new [.sc (.bool false)] false).set (m.next + 4) [.sc (.bool false)]).new [.sc .nilFunc] false).set (m.next + 5) [.fn (.func 58) [] [.ptr (m.next + 2) 0, .ptr (m.next + 3) 0, .ptr (m.next + 1) 0, .ptr (m.next + 4) 0, .ptr (m.next + 5) 0]])) := ⟨_, rfl⟩
  have hk : Kp m em := by
    rw [hem]
    exact ((((((((((Kp.new _ _ _).newr _ _).newr _ _).newr _ _).set (by omega) _).set (by omega) _).newr _ _).set (by omega) _).newr _ _).set (by omega) _)
  rw [← hem]
  have hlt := hJ.lt _ _ _ hJl
  have hn : em.next = m.next + 6 := by rw [hem]; simp
  refine goH_of (see58 hJ (m.next + 2) (m.next + 3) (m.next + 1) (m.next + 4) (m.next + 5) (by omega) d.size d (Nat.le_refl _) hd 1 0 0 [] F em ⟨fun h => by have := hlt _ h; omega, fun h => by have := hlt _ h; omega, fun h => by have := hlt _ h; omega, fun h => by have := hlt _ h; omega, fun h => by have := hlt _ h; omega⟩ (by omega) (by omega) ⟨⟨by omega, ?_⟩, ⟨by omega, ?_⟩, ⟨by omega, ?_⟩, ⟨by omega, ?_⟩, ⟨by omega, ?_⟩⟩ (hJ.keep _ _ _ _ hJl (.of hk)) (.inl rfl) h0) ?_
  all_goals first
    | (rw [hem]; simp [Nat.add_assoc]; done)
    | skip
  rintro v m1 ⟨rfl, ⟨F', hJ', hF'⟩, kc, p', q', st, hpq⟩
  obtain ⟨pl, pv, pe⟩ := st.p
  obtain ⟨ql, qv, qe⟩ := st.q
  simp
  refine go_draw_of (by kernel_rfl) ?_
  simp [pe, qe]
  refine goM_nil (by kernel_rfl) ?_
  simp
  refine hQ _ _ _ ⟨.inr rfl, _, rfl, ?_⟩
  simp only [Bool.false_eq_true, if_false]
  simp [oneOf, fzr]
  refine ⟨⟨F', hJ', fun i hi => (hF' i hi).imp id fun h => by omega⟩, KpC.after hk kc ?_⟩
  rintro i hi (h | h | h | h)
  · exact h
  all_goals omega

/-- What a loop's body does with the parts that are told to it. -/
structure Tells (J : List Dat → (Nat → Prop) → Mem → Prop) (go : List Dat → Bool) (lo : Nat) : Prop where
  keep : ∀ l F m m', J l F m → KpX (fun i => ¬ F i) m m' → J l F m'
  lt : ∀ l F m, J l F m → ∀ i, F i → i < m.next
  see : ∀ l F m x, J l F m → (l = [] ∨ go l = true) → x.fits → wph Try.prog cw (.yield lo) [enc x] m fun v m' => v = .sc (.bool (go (l ++ [x]))) ∧ ∃ F', J (l ++ [x]) F' m' ∧ (∀ i, F' i → F i ∨ m.next ≤ i) ∧ KpC F m m'

/-- The loop's own, and the box that holds its body. -/
def withBox (J : List Dat → (Nat → Prop) → Mem → Prop) (lo yb : Nat) (l : List Dat) (F : Nat → Prop) (m : Mem) : Prop := ∃ F0, F = (fun i => F0 i ∨ i = yb) ∧ J l F0 m ∧ ¬ F0 yb ∧ has m yb [.yl lo]

set_option maxHeartbeats 4000000 in
/-- The closure that shows a part of its own. -/
theorem see53 {J : List Dat → (Nat → Prop) → Mem → Prop} {go' : List Dat → Bool} {lo yb : Nat} (hJ : Tells J go' lo) : Sees (withBox J lo yb) go' (.func 53) [] [.ptr yb 0] := by
  refine ⟨?_, ?_, ?_⟩
  · rintro l F m m' ⟨F0, rfl, a, b, c⟩ k
    exact ⟨F0, rfl, hJ.keep _ _ _ _ a (k.mono fun j _ h => fun h' => h (.inl h')), b, c.kept k (fun h => h (.inr rfl))⟩
  · rintro l F m ⟨F0, rfl, a, b, c⟩ i (h | rfl)
    · exact hJ.lt _ _ _ a i h
    · exact c.1
  rintro l F m x ⟨F0, rfl, a, b, c⟩ hgo hx
  refine wph_go Try.func53 rfl rfl (by simp [Try.f53]) (by simp [Try.f53]) fun Q hQ => ?_
  simp only [Try.f53, show cw.keepRes 53 = false from rfl, show cw.keepArgs 53 = false from rfl] at hQ ⊢
  obtain ⟨yl, yv, ye⟩ := c
  have yn : yb ≠ m.next := by omega
  simp
  refine go_draw_of (by kernel_rfl) ?_
  simp [ye, yn, (cw_gives (g47G x hx)).go]
  have k1 : Kp m (m.new (enc x).cells false) := .new _ _ _
  have hlt := hJ.lt _ _ _ a
  refine goH_of (hJ.see l F0 _ x (hJ.keep _ _ _ _ a (.of k1)) hgo hx) ?_
  rintro v m2 ⟨rfl, F', h1, h2, h3⟩
  simp
  refine goM_of (l := [(0, 2)]) (by kernel_rfl) (?_ : List.all _ _ = true) ?_
  · simp [metAt, metOk, rank, objOf, verKept, Region.wanted, Mem.ver, ye, yn]
  simp
  refine hQ _ _ _ (leave_sc (.inr rfl) at_set_eq ?_)
  simp at h2
  refine ⟨rfl, _, ⟨F', rfl, h1, fun h => (h2 _ h).elim b fun h => by omega, (show has _ yb [.yl lo] from ⟨by simp; omega, yv, by simp [yn, ye]⟩).kc h3 b⟩, ?_, ?_⟩
  · rintro i (h | rfl)
    · rcases h2 i h with h | h
      · exact .inl (.inl h)
      · exact .inr (by omega)
    · exact .inl (.inr rfl)
  · exact KpC.after k1 h3 fun i _ h => .inl h

set_option maxHeartbeats 4000000 in
/-- The closure of All. -/
theorem all52 {J : List Dat → (Nat → Prop) → Mem → Prop} {go' : List Dat → Bool} {lo db : Nat} (hJ : Tells J go' lo) (d : Dat) (hd : d.fits) (F : Nat → Prop) (m : Mem) (hJl : J [] F m) (hb : has m db (enc d).cells) (hF : ¬ F db) :
    wph Try.prog cw (.func 52) [.yl lo, .ptr db 0] m fun v m' => (∃ F', J (vis go' [] (if chk d = 0 then pre d else [])).1 F' m' ∧ ∀ i, F' i → F i ∨ m.next ≤ i) ∧ KpC F m m' := by
  refine wph_go Try.func52 rfl rfl (by simp [Try.f52]) (by simp [Try.f52]) fun Q hQ => ?_
  simp only [Try.f52, show cw.keepRes 52 = false from rfl, show cw.keepArgs 52 = false from rfl] at hQ ⊢
  obtain ⟨bl, bv, be⟩ := hb
  have bn : db ≠ m.next := by omega
  have hlt := hJ.lt _ _ _ hJl
  have k1 : Kp m (m.new [.yl lo] false) := .new _ _ _
  have hJ1 := hJ.keep _ _ _ _ hJl (.of k1)
  simp [be, bn, (cw_gives (g14 d hd)).go]
  by_cases h0 : chk d = 0
  · simp [h0, be, bn]
    refine goH_of (see43 (see53 (yb := m.next) hJ) d hd h0 _ _ ⟨F, rfl, hJ1, fun h => by have := hlt _ h; omega, ⟨by simp, m.clock + 1, by simp⟩⟩) ?_
    rintro v m2 ⟨⟨F', ⟨F0, rfl, h1, h2, h3⟩, h4⟩, h5⟩
    simp
    refine hQ _ _ _ ⟨.inl rfl, [], rfl, ?_⟩
    rw [if_pos h0]
    refine ⟨⟨F0, h1, fun i hi => ?_⟩, KpC.after k1 h5 ?_⟩
    · rcases h4 i (.inl hi) with (h | rfl) | h
      · exact .inl h
      · exact .inr (Nat.le_refl _)
      · exact .inr (by simp at h; omega)
    · rintro i hi (h | rfl)
      · exact h
      · omega
  · simp [h0]
    refine hQ _ _ _ ⟨.inl rfl, [], rfl, ?_⟩
    rw [if_neg h0]
    exact ⟨⟨F, hJ1, fun i hi => .inl hi⟩, .of (.of k1)⟩

/-- The parts that are told. -/
def parts (d : Dat) : List Dat := if chk d = 0 then pre d else []

theorem e30 (d : Dat) (m : Mem) : EH Try.prog cw (.func 30) [enc d] m (.fn (.func 52) [] [.ptr m.next 0]) (m.new (enc d).cells false) := by
  refine eh_of (wph_go Try.func30 rfl rfl (by simp [Try.f30]) (by simp [Try.f30]) fun Q hQ => ?_)
  simp only [Try.f30, show cw.keepRes 30 = false from rfl, show cw.keepArgs 30 = false from rfl] at hQ ⊢
  simp
  exact hQ _ _ _ ⟨.inr rfl, _, rfl, by simp [oneOf]⟩

theorem eqNilFn {x y : Operand} {f : Fn} {a b : List AV} : abin Try.prog .eql 44 x y (.fn f a b) (.sc .nilFunc) = some (.sc (.bool false)) := by
  have : nilTest Try.prog 44 (.fn f a b) (.sc .nilFunc) = some false := by
    unfold nilTest
    rw [Try.underlying44]
  simp [abin, plain, this]

/-- What 'told' keeps while it is told parts. -/
def ToldJ (m0 : Mem) (lo a b : Nat) (most : Nat) (c : LCode) (ys : List Dat) (F : Nat → Prop) (m : Mem) : Prop :=
  ∃ v ver, F = (fun i => i = lo ∨ i = a ∨ i = b ∨ owns v i) ∧ lo < m.next ∧ has m a [int most] ∧ has m b [v] ∧ Acc m0 m 6 true (encs (ys.take most)) v ∧ ¬ owns v a ∧ ¬ owns v b ∧ ¬ owns v lo ∧
    m.loop lo = some (if ys.length ≤ most then ⟨.ready, none, c, ver⟩ else ⟨.done, some (.exit 0), c, ver⟩)

theorem parts_fits {d : Dat} (h : d.fits) : fitss (parts d) := by
  unfold parts
  split
  · exact pre_fits d h
  · trivial

theorem toldJ_lt {m0 : Mem} {lo a b most : Nat} {c : LCode} {l : List Dat} {F : Nat → Prop} {m : Mem} (h : ToldJ m0 lo a b most c l F m) : ∀ i, F i → i < m.next := by
  obtain ⟨v, ver, rfl, h1, h2, h3, h4, _⟩ := h
  rintro i (rfl | rfl | rfl | h)
  · exact h1
  · exact h2.1
  · exact h3.1
  · exact (acc_lt h4 i h).2
theorem toldJ_keep {m0 : Mem} {lo a b most : Nat} {c : LCode} {l : List Dat} {F : Nat → Prop} {m m' : Mem} (h : ToldJ m0 lo a b most c l F m) (k : KpX (fun i => ¬ F i) m m') : ToldJ m0 lo a b most c l F m' := by
  obtain ⟨v, ver, rfl, h1, h2, h3, h4, h5, h6, hvlo, h7⟩ := h
  refine ⟨v, ver, rfl, Nat.lt_of_lt_of_le h1 k.next, h2.kept k (by simp), h3.kept k (by simp), acc_keptX h4 k (fun j hj hn => hn (.inr (.inr (.inr hj)))), h5, h6, hvlo, ?_⟩
  rw [(k.x lo h1).1]
  exact h7

theorem acc_keptC {X : Nat → Prop} {m0 m m' : Mem} {k : Nat} {ag : Bool} {ys : List AV} {v : AV} (h : Acc m0 m k ag ys v) (kx : KpC X m m') (hx : ∀ j, owns v j → ¬ X j) : Acc m0 m' k ag ys v := by
  rcases h with h | ⟨h, id, w, rfl, h2, h3, h4⟩
  · exact .inl h
  · exact .inr ⟨h, id, w, rfl, h2, Nat.lt_of_lt_of_le h3 kx.next, by rw [kx.get id h3 (hx id rfl)]; exact h4⟩

set_option maxHeartbeats 8000000 in
theorem e29 (d : Dat) (hd : d.fits) (most : Nat) (hm : most ≤ 2 ^ 20) (m : Mem) (db : Nat) (hb : has m db (enc d).cells) : EH Try.prog cw (.func 29) [.fn (.func 52) [] [.ptr db 0], int most] m (.lst (encs ((parts d).take most))) m := by
  refine eh_run Try.func29 rfl rfl rfl rfl (args1 := [.fn (.func 52) [] [.ptr db 0], int most]) (m1 := m) (by simp) (by simp) (by simp [Try.f29]) (by simp [Try.f29]) ?_
  simp only [Try.f29, show cw.keepRes 29 = false from rfl]
  simp [eqNilFn]
  refine go_range (f := 52) (a := []) (b := [.ptr db 0]) (by simp) (by kernel_rfl) ?_
  simp only [List.nil_append, List.singleton_append]
  generalize hcd : LCode.mk _ _ _ _ _ = c
  have T : Tells (ToldJ m (m.next + 2) m.next (m.next + 1) most c) (fun ys => decide (ys.length ≤ most)) (m.next + 2) := by
    refine ⟨fun l F m m' h k => toldJ_keep h k, fun l F m h => toldJ_lt h, ?_⟩
    rintro l F m1 x ⟨v, ver, rfl, h1, h2, h3, h4, h5, h6, hvlo, h7⟩ hgo hx
    have hle : l.length ≤ most := by
      rcases hgo with rfl | h
      · simp
      · simpa using h
    rw [if_pos hle] at h7
    rw [List.take_of_length_le hle] at h4
    refine wph_round h7 (by rw [← hcd]; rfl) ?_
    obtain ⟨al, av, ae⟩ := h2
    obtain ⟨bl, bv, be⟩ := h3
    have c1 := congrArg LCode.assign hcd
    have c2 := congrArg LCode.body hcd
    have c3 := congrArg LCode.N hcd
    have c4 := congrArg LCode.s hcd
    have c5 := congrArg LCode.ps hcd
    dsimp only at c1 c2 c3 c4 c5
    simp only [← c1, ← c2, ← c3, ← c4, ← c5]
    have n1 : m.next + 1 ≠ m1.next := by omega
    have n2 : m.next ≠ m1.next := by omega
    have hlp : ∀ (m' : Mem), abuiltin Try.prog .len #[23] 3 [v] m' = some (int l.length, m') := by
      intro m'
      rcases h4 with ⟨h1, rfl⟩ | ⟨h, id, w, rfl, h2, h3, h4⟩
      · have : l = [] := by cases hp : l with | nil => rfl | cons a b => rw [hp] at h1; simp [encs] at h1
        rw [this]; exact alen_emp Try.underlying23
      · rw [alen_sl Try.underlying23]; simp
    have zl : 6 ≤ zeroCells.length := by decide
    have zd : List.drop 6 zeroCells = [] := rfl
    have hlo := toldJ_lt (⟨v, ver, rfl, h1, ⟨al, av, ae⟩, ⟨bl, bv, be⟩, by rw [List.take_of_length_le hle]; exact h4, h5, h6, hvlo, by rw [if_pos hle]; exact h7⟩ : ToldJ m (m.next + 2) m.next (m.next + 1) most c l _ m1)
    by_cases hge : most ≤ l.length
    · simp [Sl.puts, h7, be, ae, n1, n2, hlp, hge, zl, zd]
      have hl1 : ¬ (l.length + 1 ≤ most) := by omega
      obtain ⟨m2, hm2⟩ : ∃ m2 : Mem, m2 = ((((m1.new zeroCells false).set m1.next (enc x).cells).setLoop (m.next + 2) .busy none c).setLoop (m.next + 2) .done (some (.exit 0)) c) := ⟨_, rfl⟩
      have hk : KpC (fun i => i = m.next + 2) m1 m2 := by
        rw [hm2]
        refine ⟨by simp, fun id hi _ => by have : id ≠ m1.next := by omega
                                           simp [this], fun id hi hx => by have : id ≠ m.next + 2 := hx
                                                                           simp [this]⟩
      rw [← hm2]
      refine ⟨by simpa using Nat.lt_of_not_le hl1, _, ⟨v, m1.clock + 4, rfl, Nat.lt_of_lt_of_le h1 hk.next, ⟨Nat.lt_of_lt_of_le al hk.next, av, ?_⟩, ⟨Nat.lt_of_lt_of_le bl hk.next, bv, ?_⟩, ?_, h5, h6, hvlo, ?_⟩, fun i hi => .inl hi, hk.mono fun _ h => .inl h⟩
      · rw [hm2]; simp [n2, ae]
      · rw [hm2]; simp [n1, be]
      · have : (l ++ [x]).take most = l := by rw [List.take_append_of_le_length (by omega), List.take_of_length_le hle]
        rw [this]
        exact acc_keptC h4 hk fun j hj h => hvlo (h ▸ hj)
      · rw [hm2]; simp; omega
    · simp [Sl.puts, h7, be, ae, n1, n2, hlp, hge, zl, zd]
      refine go_draw_of (by kernel_rfl) ?_
      obtain ⟨m2, hm2⟩ : ∃ m2 : Mem, m2 = (((m1.new zeroCells false).set m1.next (enc x).cells).setLoop (m.next + 2) .busy none c) := ⟨_, rfl⟩
      have hk : KpC (fun i => i = m.next + 2) m1 m2 := by
        rw [hm2]
        refine ⟨by simp, fun id hi _ => by have : id ≠ m1.next := by omega
                                           simp [this], fun id hi hx => by have : id ≠ m.next + 2 := hx
                                                                           simp [this]⟩
      rw [← hm2]
      have g2b : m2.get (m.next + 1) = some (.cells [v] false bv) := by rw [hm2]; simp [n1, be]
      have g2a : m2.get m.next = some (.cells [int most] false av) := by rw [hm2]; simp [n2, ae]
      have g2x : m2.get m1.next = some (.cells (enc x).cells false (m1.clock + 2)) := by rw [hm2]; simp
      have g2l : m2.loop (m.next + 2) = some ⟨.busy, none, c, m1.clock + 3⟩ := by rw [hm2]; simp
      have n2' : m2.next = m1.next + 1 := by rw [hm2]; simp
      have h4' : Acc m m2 6 true (encs l) v := acc_keptC h4 hk fun j hj h => hvlo (h ▸ hj)
      have ovl := acc_lt h4
      clear hm2
      simp [g2b, g2x, hlp, ofConst_zero, abuildSlice, fillAt, zeros]
      have hp6 : l.length < 2 ^ 20 := by omega
      have k1 : Kp m2 (m2.new (enc .zero).cells false) := .new _ _ _
      have hsrc := src_one (m := m2.new (enc .zero).cells false) (id := m2.next) (c := some 1) (k := 6) (ag := true) (x := enc .zero) (w := m2.clock + 1) (f := false) rfl (by simp) (by simp) (by simp)
      obtain ⟨m3, q1, q2, ⟨w3, q3⟩, q4, q4x⟩ := acc_app2 (h4'.kp k1) (okAll_encs _) el23 (zs := [enc .zero]) (zs' := [enc .zero]) (List.cons_ne_nil _ _) (by simp [okAll_cons, okAll_nil]) (by simp [fzvs]) (.refl _) (by simp; omega)
      simp [n2'] at q1 q2 q3 q4 hsrc
      have g3b : m3.get (m.next + 1) = some (.cells [v] false bv) := by rw [q4 _ (by omega) h6, if_neg (by omega)]; exact g2b
      have g3a : m3.get m.next = some (.cells [int most] false av) := by rw [q4 _ (by omega) h5, if_neg (by omega)]; exact g2a
      have g3x : m3.get m1.next = some (.cells (enc x).cells false (m1.clock + 2)) := by rw [q4 _ (by omega) (fun h => by have := (ovl _ h).2; omega), if_neg (by omega)]; exact g2x
      have ix : aindexAddr Try.prog 23 (.sl (m1.next + 2) 0 (l.length + 1) 6 true none) (int l.length) = some (.ptr (m1.next + 2) (0 + l.length * 6)) := aindexAddr_sl Try.underlying23 tsize25 (by omega)
      have hfl : (flat (encs l)).length = l.length * 6 := by rw [flat_length (okAll_encs _)]; simp
      have w2 : m.next + 1 ≠ m1.next + 2 := by omega
      have w3 : m.next ≠ m1.next + 1 := by omega
      have hdr : List.drop (l.length * 6 + 6) (flat (encs l) ++ (enc Dat.zero).cells) = [] := List.drop_eq_nil_of_le (by simp [hfl])
      simp [abuiltin, hsrc, q1, n2', ix, q3, flat_append, flat_cons, flat_nil, hfl, g3b, w2, w3, hdr]
      have w4 : m1.next + 2 ≠ m.next + 1 := by omega
      have w5 : ¬ m1.next + 1 = m.next := by omega
      refine goM_of (l := [(0, 3), (1, 3), (6, 7)]) (by kernel_rfl) (?_ : List.all _ _ = true) ?_
      · simp [metAt, metOk, rank, objOf, verKept, Region.wanted, Mem.ver, g2b, g2x, w2, w3, w4, w5, n1, n2', Ne.symm n1, n2]
      simp
      have g3l : m3.loop (m.next + 2) = some ⟨.busy, none, c, m1.clock + 3⟩ := by
        rw [(q4x (m.next + 2) (by simp; omega)).1]
        simpa using g2l
      have htk : (l ++ [x]).take most = l ++ [x] := List.take_of_length_le (by simp; omega)
      have he : encs (l ++ [x]) = encs l ++ [enc x] := by simp [encs_map]
      obtain ⟨m4, hm4⟩ : ∃ m4 : Mem, m4 = (((m3.set (m1.next + 2) (flat (encs l) ++ (enc x).cells)).set (m.next + 1) [AV.sl (m1.next + 1 + 1) 0 (l.length + 1) 6 true none]).setLoop (m.next + 2) LoopState.ready none c) := ⟨_, rfl⟩
      have n4 : m4.next = m1.next + 3 := by rw [hm4]; simp [q2]
      refine ⟨_, g3l, by omega, _, ⟨.sl (m1.next + 2) 0 (l.length + 1) 6 true none, m3.clock + 3, rfl, ?_, ⟨?_, av, ?_⟩, ⟨?_, m3.clock + 2, ?_⟩, .inr ⟨?_, m1.next + 2, m3.clock + 1, ?_, ?_, ?_, ?_⟩, ?_, ?_, ?_, ?_⟩, ?_, ?_, fun id hi hx => ?_, fun id hi hx => ?_⟩
      all_goals try dsimp only
      all_goals try rw [← hm4]
      · omega
      · omega
      · rw [hm4]
        simp [g3a]
        omega
      · omega
      · rw [hm4]; simp
      · rw [htk, he]; simp
      · rw [htk]; simp
      · omega
      · omega
      · rw [hm4, htk, he]
        simp [flat_append, flat_cons, flat_nil]
        omega
      · simp [owns]; omega
      · simp [owns]; omega
      · simp [owns]; omega
      · rw [hm4]; simp; omega
      · intro i hi
        simp only [owns] at hi
        omega
      · omega
      · have a1 : id ≠ m1.next + 2 := by omega
        have a2 : id ≠ m.next + 1 := fun e => hx (.inr (.inr (.inl e)))
        have a3 := q4 id (by omega) fun h => hx (.inr (.inr (.inr h)))
        rw [if_neg (by omega)] at a3
        rw [hm4]
        simp [a1, a2, a3]
        exact hk.get id hi fun e => hx (.inl e)
      · have a1 : id ≠ m.next + 2 := fun e => hx (.inl e)
        have a3 := q4x id (by simp; omega)
        have a4 := hk.x id hi a1
        rw [hm4]
        simp [a1, a3, a4]
  obtain ⟨bl, bv, be⟩ := hb
  refine wph_mono (all52 T d hd (fun i => (i = m.next + 2 ∨ i = m.next ∨ i = m.next + 1 ∨ owns (.emp 0) i)) _ ⟨.emp 0, m.clock + 3, rfl, by simp, ⟨by simp <;> omega, m.clock + 1, by simp⟩, ⟨by simp <;> omega, m.clock + 2, by simp⟩, .inl ⟨by simp [encs], rfl⟩, fun h => h, fun h => h, fun h => h, by simp⟩ ⟨by simp <;> omega, bv, ?_⟩ ?_) ?_
  · have a1 : db ≠ m.next := by omega
    have a2 : db ≠ m.next + 1 := by omega
    simp [be, a1, a2]
  · simp [owns]
    omega
  rintro v m2 ⟨⟨F', ⟨v', ver, rfl, h1, h2, h3, h4, h5, h6, hvlo, h7⟩, h8⟩, h9⟩
  have hvis : ∀ (a b : List Dat), (vis (fun ys => decide (ys.length ≤ most)) a b).1.take most = (a ++ b).take most := by
    intro a b
    induction b generalizing a with
    | nil => simp [vis]
    | cons x b ih =>
      simp only [vis]
      split
      · rw [ih]; simp
      · rename_i hc
        have : most ≤ a.length := by simp at hc; omega
        simp [List.take_append_of_le_length this]
  have hvp : (vis (fun ys => decide (ys.length ≤ most)) [] (if chk d = 0 then pre d else [])).1.take most = (parts d).take most := by
    rw [hvis]; rfl
  rw [hvp] at h4
  generalize vis (fun ys => decide (ys.length ≤ most)) [] (if chk d = 0 then pre d else []) = r at *
  obtain ⟨bl3, bv3, be3⟩ := h3
  have hnx : ((m.new [int most] false).new [AV.emp 0] false).next = m.next + 2 := rfl
  have kf : Kp m (m2.killLoop (m.next + 2)) := by
    have hb9 := h9.next
    simp at hb9
    have ho : ∀ id, id < m.next → ¬ (id = m.next + 2 ∨ id = m.next ∨ id = m.next + 1 ∨ owns (.emp 0) id) := by
      intro id hi h
      simp [owns] at h
      omega
    refine ⟨by simp; omega, fun id hi => ?_, fun id hi => ?_⟩
    · have := h9.get id (by simp; omega) (ho id hi)
      have a1 : id ≠ m.next := by omega
      have a2 : id ≠ m.next + 1 := by omega
      simpa [a1, a2] using this
    · have := h9.x id (by simp; omega) (ho id hi)
      have a1 : id ≠ m.next + 2 := by omega
      simpa [a1] using this
  rw [hnx]
  have gk : (m2.killLoop (m.next + 2)).get (m.next + 1) = some (.cells [v'] false bv3) := by simpa using be3
  have fin : (fzr (m2.killLoop (m.next + 2)) v').1 = .lst (encs ((parts d).take most)) ∧ Kp m (fzr (m2.killLoop (m.next + 2)) v').2 := by
    have kl : KpC (fun i => i = m.next + 2) m2 (m2.killLoop (m.next + 2)) := by
      refine ⟨Nat.le_refl _, fun _ _ _ => rfl, fun id hi hx => ?_⟩
      try dsimp only at hx
      simp [hx]
    have h4' : Acc m (m2.killLoop (m.next + 2)) 6 true (encs ((parts d).take most)) v' := acc_keptC h4 kl fun j hj h => hvlo (h ▸ hj)
    obtain ⟨m3, q1, q2⟩ := h4'.fz kf rfl (fun y hy => by rw [encs_map] at hy; obtain ⟨x, _, rfl⟩ := List.mem_map.1 hy; simp) (okAll_encs _)
    rw [h4'.fzr, q1]
    exact ⟨rfl, q2⟩
  by_cases hc : r.1.length ≤ most
  · rw [if_pos hc] at h7
    refine ⟨_, .normal, h7, by simp, rfl, ?_⟩
    simp [gk]
    exact fin
  · rw [if_neg hc] at h7
    refine ⟨_, .exit 0, h7, by simp, rfl, ?_⟩
    simp [gk]
    exact fin
end Go.Proofs.Ytipmoeclkamciaa
