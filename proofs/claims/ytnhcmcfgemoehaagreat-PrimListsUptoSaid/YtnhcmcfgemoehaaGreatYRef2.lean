import Derived.Test.YtnhcmcfgemoehaaGreatYRef
import Derived.Test.YtnhcmcfgemoehaaGreatYPair
/- Going through a datum: the reference, in memory. -/
set_option linter.unusedSimpArgs false
set_option linter.unusedVariables false
set_option linter.unusedSectionVars false
namespace Go.Proofs.YtnhcmcfgemoehaaGreat
set_option maxRecDepth 4000
open Go.V
attribute [local simp] Nat.add_assoc

/-- A slice's object. -/
def owns : AV → Nat → Prop
  | .sl id _ _ _ _ _, k => id = k
  | _, _ => False
theorem owns_emp {n k : Nat} : owns (.emp n) k ↔ False := Iff.rfl
theorem owns_sl {id off len q k : Nat} {ag : Bool} {c : Option Nat} : owns (.sl id off len q ag c) k ↔ id = k := Iff.rfl

/-- What the reference's walk has in memory. -/
structure RSt (m0 m : Mem) (W : Nat) (pv dv : AV) (r : RS) : Prop where
  w : has m W [pv, dv, int r.e]
  p : Acc m0 m 6 true (encs r.ps) pv
  d : Acc m0 m 1 false (r.ds.map int) dv
  kp : Kp m0 m
  wn : m0.next ≤ W
  pw : ¬ owns pv W
  dw : ¬ owns dv W
  pd : ∀ k, owns pv k → ¬ owns dv k

/-- What a call may touch. -/
def tch (W : Nat) (pv dv : AV) (k : Nat) : Prop := k = W ∨ owns pv k ∨ owns dv k

theorem acc_keptX {X : Nat → Prop} {m0 m m' : Mem} {k : Nat} {ag : Bool} {ys : List AV} {v : AV} (h : Acc m0 m k ag ys v) (kx : KpX X m m') (hx : ∀ j, owns v j → ¬ X j) : Acc m0 m' k ag ys v := by
  rcases h with h | ⟨h, id, w, rfl, h2, h3, h4⟩
  · exact .inl h
  · exact .inr ⟨h, id, w, rfl, h2, Nat.lt_of_lt_of_le h3 kx.next, by rw [kx.get id h3 (hx id rfl)]; exact h4⟩
theorem acc_lt {m0 m : Mem} {k : Nat} {ag : Bool} {ys : List AV} {v : AV} (h : Acc m0 m k ag ys v) : ∀ j, owns v j → m0.next ≤ j ∧ j < m.next := by
  rcases h with ⟨_, rfl⟩ | ⟨_, id, w, rfl, h2, h3, h4⟩
  · intro j hj; exact hj.elim
  · rintro j rfl; exact ⟨h2, h3⟩
theorem KpX.mono {X Y : Nat → Prop} {a b : Mem} (h : KpX X a b) (k : ∀ j, j < a.next → X j → Y j) : KpX Y a b := ⟨h.next, fun id hi hn => h.get id hi fun hx => hn (k id hi hx), h.x⟩
theorem KpX.toKp {X : Nat → Prop} {m0 a b : Mem} (h : KpX X a b) (k : Kp m0 a) (hx : ∀ j, X j → m0.next ≤ j) : Kp m0 b := ⟨Nat.le_trans k.next h.next, fun id hi => (h.get id (Nat.lt_of_lt_of_le hi k.next) (fun x => by have := hx id x; omega)).trans (k.get id hi), k.x.trans k.next h.x⟩

theorem acc_app2 {T : TypeId} {m m' m2 : Mem} {k : Nat} {ag : Bool} {ys zs zs' : List AV} {v : AV} (h : Acc m m' k ag ys v) (hy : okAll k ys = true) (el : ElemOf Tryz.prog T k ag) (hz : zs ≠ []) (ho : okAll k zs = true) (hf : fzx Tryz.prog T m' zs = (zs', m2)) (hm2 : Kp m' m2) (hb : ys.length + zs.length ≤ 2 ^ 26) :
    ∃ m3, aappend Tryz.prog T v none (some zs) m' = some (.sl m2.next 0 (ys.length + zs.length) k ag none, m3) ∧ m3.next = m2.next + 1 ∧ (∃ w, m3.get m2.next = some (.cells (flat (ys ++ zs')) false w)) ∧ (∀ j, j < m2.next → ¬ owns v j → m3.get j = m2.get j) ∧ XK m' m3 := by
  rcases h with ⟨rfl, rfl⟩ | ⟨h, id, w, rfl, h2, h3, h4⟩
  · have e := aapp_emp (n := 0) (by omega) el hz ho hf (by simp at hb; omega)
    refine ⟨m2.new (flat zs') false, by simpa using e, by simp, ⟨m2.clock + 1, by simp⟩, fun j hj _ => ?_, hm2.x.same rfl rfl⟩
    rw [Mem.get_new, if_neg (by omega)]
  · have h5 : m2.get id = some (.cells (flat ys) false w) := by rw [hm2.get id h3]; exact h4
    refine ⟨_, aapp_row el hz ho hf h5 (flat_length hy) hb, by simp, ⟨m2.clock + 1, by simp [flat_append]⟩, fun j hj hn => ?_, hm2.x.same rfl rfl⟩
    rw [Mem.get_new, if_neg (by simp; omega), Mem.get_kill, if_neg (fun e => hn e.symm)]

theorem ofConst_zero : ofConst (.agg #[.int .i64 0, .int .i64 0, .string ⟨⟨[]⟩⟩, .slice none 0 0, .slice none 0 0, .slice none 0 0]) = .agg zeroCells := by kernel_rfl

theorem rgos_snoc : ∀ (a : List Dat) (x : Dat) (deep : Int) (r : RS), rgos (a ++ [x]) deep r = rgo x deep (rgos a deep r)
  | [], x, deep, r => by simp [rgos]
  | d :: a, x, deep, r => by simp [rgos, rgos_snoc a x]

/-- Between the children: the walk's state, the datum's box, what stays. -/
structure Mid (m0 m m' : Mem) (W : Nat) (pv dv : AV) (bx : List AV) (r : RS) : Prop where
  ex : ∃ pv' dv', RSt m0 m' W pv' dv' r ∧ (∀ k, owns pv' k → m.next < k) ∧ (∀ k, owns dv' k → m.next < k)
  len : r.ps.length ≤ 4096 ∧ r.ds.length = r.ps.length
  box : has m' m.next bx
  kx : KpX (tch W pv dv) m m'

theorem Mid.wph {P : Program} {cfg : Cfg} {fn : Fn} {args : List AV} {m0 m m' : Mem} {W : Nat} {pv dv : AV} {bx : List AV} {r : RS} (h : Mid m0 m m' W pv dv bx r) (hWm : W < m.next) {r' : RS}
    (hc : ∀ pv' dv', RSt m0 m' W pv' dv' r → V.wph P cfg fn args m' fun v m2 => v = .tup [] ∧ (r'.ps.length ≤ 4096 ∧ r'.ds.length = r'.ps.length) ∧ ∃ pv2 dv2, RSt m0 m2 W pv2 dv2 r' ∧ KpX (tch W pv' dv') m' m2 ∧ (∀ k, owns pv2 k → owns pv' k ∨ m'.next ≤ k) ∧ (∀ k, owns dv2 k → owns dv' k ∨ m'.next ≤ k)) :
    V.wph P cfg fn args m' fun v m2 => v = .tup [] ∧ Mid m0 m m2 W pv dv bx r' := by
  obtain ⟨pv', dv', h1, h2, h3⟩ := h.ex
  refine wph_mono (hc pv' dv' h1) ?_
  rintro v m2 ⟨rfl, hl, pv2, dv2, c1, c2, c3, c4⟩
  refine ⟨rfl, ?_⟩
  have hlt := h.box.1
  refine ⟨⟨pv2, dv2, c1, fun k hk => ?_, fun k hk => ?_⟩, hl, h.box.kept c2 ?_, ?_⟩
  · rcases c3 k hk with h | h
    · exact h2 k h
    · omega
  · rcases c4 k hk with h | h
    · exact h3 k h
    · omega
  · rintro (e | e | e)
    · omega
    · have := h2 _ e; omega
    · have := h3 _ e; omega
  · refine ⟨Nat.le_trans h.kx.next c2.next, fun id hi hn => ?_, h.kx.x.trans h.kx.next c2.x⟩
    rw [c2.get id (Nat.lt_of_lt_of_le hi h.kx.next) ?_, h.kx.get id hi hn]
    rintro (e | e | e)
    · exact hn (.inl e)
    · have := h2 _ e; omega
    · have := h3 _ e; omega

def GoesAt (n : Nat) : Prop := ∀ (d : Dat), d.size ≤ n → d.fits → ∀ (deep : Int) (r : RS) (m0 m : Mem) (W : Nat) (pv dv : AV), 0 ≤ deep ∧ deep ≤ 1000 → r.ps.length ≤ 4096 ∧ r.ds.length = r.ps.length → RSt m0 m W pv dv r →
    wph Tryz.prog cf (.func 143) [.ptr W 0, enc d, int deep] m fun v m' => v = .tup [] ∧ ((rgo d deep r).ps.length ≤ 4096 ∧ (rgo d deep r).ds.length = (rgo d deep r).ps.length) ∧ ∃ pv' dv', RSt m0 m' W pv' dv' (rgo d deep r) ∧ KpX (tch W pv dv) m m' ∧ (∀ k, owns pv' k → owns pv k ∨ m.next ≤ k) ∧ (∀ k, owns dv' k → owns dv k ∨ m.next ≤ k)

set_option maxHeartbeats 4000000 in
theorem goes_at : ∀ n, GoesAt n := by
  intro n
  induction n with
  | zero => intro d hs; cases d; simp [Dat.size] at hs
  | succ n ih =>
    intro d hs hfit deep r m0 m W pv dv hdeep hlen hst
    obtain ⟨K, N, Sx, M, L, Tx⟩ := d
    refine wph_go Tryz.func143 rfl rfl (by simp [Tryz.f143]) (by simp [Tryz.f143]) fun Q hQ => ?_
    simp only [Tryz.f143, show cf.keepRes 143 = false from rfl, show cf.keepArgs 143 = false from rfl] at hQ ⊢
    simp only [enc]
    obtain ⟨wl, wv, we⟩ := hst.w
    have wn : W ≠ m.next := by omega
    have wn' : m.next ≠ W := by omega
    -- what an error leaves
    have err : ∀ (x : Int) (s4 : Sl) (m4 : Mem) (e : Ex), (e = .normal ∨ e = .ret) → KpX (fun k => k = W) m m4 → has m4 W [pv, dv, int x] → rgo (.mk K N Sx M L Tx) deep r = { r with e := x } → Q e s4 m4 := by
      intro x s4 m4 e he kx hw hr
      refine hQ _ _ _ ⟨he, _, rfl, ?_⟩
      rw [hr]
      refine ⟨rfl, hlen, pv, dv, ⟨hw, acc_keptX hst.p kx ?_, acc_keptX hst.d kx ?_, kx.toKp hst.kp (fun j e => by rw [e]; exact hst.wn), hst.wn, hst.pw, hst.dw, hst.pd⟩, kx.mono (fun j _ e => .inl e), fun k h => .inl h, fun k h => .inl h⟩
      · rintro j hj rfl; exact hst.pw hj
      · rintro j hj rfl; exact hst.dw hj
    have kx0 : ∀ (cs : List AV), KpX (fun k => k = W) m (m.new cs false) := fun cs => (KpX.refl _ m).new _ _
    by_cases e0 : r.e = 0
    · simp [we, wn, e0]
      by_cases e1 : 64 < deep
      · simp [we, wn, e1, e0]
        exact err 4 _ _ _ (.inr rfl) ((kx0 _).set (id := W) rfl _) ⟨by simp; omega, by simp⟩ (by simp [rgo, e0, e1])
      have hlp : ∀ (m' : Mem), abuiltin Tryz.prog .len #[43] 3 [pv] m' = some (int r.ps.length, m') := by
        intro m'
        rcases hst.p with ⟨h1, rfl⟩ | ⟨h, id, w, rfl, h2, h3, h4⟩
        · have : r.ps = [] := by cases hp : r.ps with | nil => rfl | cons a b => rw [hp] at h1; simp [encs] at h1
          rw [this]; exact alen_emp Tryz.underlying43
        · rw [alen_sl Tryz.underlying43]; simp
      by_cases e2 : (4096 : Int) ≤ r.ps.length
      · simp [we, wn, e1, e2, hlp, e0]
        exact err 3 _ _ _ (.inr rfl) ((kx0 _).set (id := W) rfl _) ⟨by simp; omega, by simp⟩ (by simp [rgo, e0, e1]; omega)
      have c71 := g71 (alone_fits hfit)
      simp only [enc] at c71
      simp [we, wn, e0, e1, e2, hlp, c71.go]
      cases ha : alone (.mk K N Sx M L Tx) with
      | false =>
        simp [we, wn, e0]
        exact err 20 _ _ _ (.inr rfl) ((kx0 _).set (id := W) rfl _) ⟨by simp; omega, by simp⟩ (by simp [rgo, e0, e1, ha]; omega)
      | true =>
        simp
        refine go_draw_of (by kernel_rfl) ?_
        simp [we, wn, hlp, ofConst_zero, abuildSlice, fillAt, zeros]
        have hp6 : r.ps.length ≤ 4095 := by omega
        generalize hbx : [AV.sc (Value.int IntKind.i64 K), AV.sc (Value.int IntKind.i64 N), AV.sc (Value.string { data := { toList := Sx } }), AV.lst (List.map int M), AV.lst (encs L), AV.lst (encs Tx)] = bx
        have k1 : Kp m ((m.new bx false).new (enc .zero).cells false) := by simp
        have hsrc := src_one (m := (m.new bx false).new (enc .zero).cells false) (id := m.next + 1) (c := some 1) (k := 6) (ag := true) (x := enc .zero) (w := m.clock + 2) (f := false) rfl (by simp) (by simp) (by simp)
        obtain ⟨m3, h1, h2, ⟨w3, h3⟩, h4, h4x⟩ := acc_app2 (hst.p.kp k1) (okAll_encs _) el43 (zs := [enc .zero]) (zs' := [enc .zero]) (List.cons_ne_nil _ _) (by simp [okAll_cons, okAll_nil]) (by simp [fzvs]) (.refl _) (by simp; omega)
        simp at h1 h2 h3 h4
        have gW : m3.get W = some (.cells [pv, dv, int r.e] false wv) := by rw [h4 W (by omega) hst.pw]; simp [wn, we]; omega
        have gB : m3.get m.next = some (.cells bx false (m.clock + 1)) := by rw [h4 m.next (by omega) (fun h => by have := (acc_lt hst.p _ h).2; omega)]; simp
        have ix : aindexAddr Tryz.prog 43 (.sl (m.next + 2) 0 (r.ps.length + 1) 6 true none) (int r.ps.length) = some (.ptr (m.next + 2) (0 + r.ps.length * 6)) := aindexAddr_sl Tryz.underlying43 tsize56 (by omega)
        have hfl : (flat (encs r.ps)).length = r.ps.length * 6 := by rw [flat_length (okAll_encs _)]; simp
        have w2 : W ≠ m.next + 2 := by omega
        have hbl : bx.length = 6 := by rw [← hbx]; rfl
        simp [abuiltin, hsrc, h1, ix, h3, flat_append, flat_cons, flat_nil, hfl, hbl, gW, w2]
        have w2' : m.next + 2 ≠ W := by omega
        have w1 : W ≠ m.next + 1 := by omega
        refine goM_of (l := [(3, 6), (4, 6), (9, 12)]) (by kernel_rfl) (?_ : List.all _ _ = true) ?_
        · simp [metAt, metOk, rank, objOf, verKept, Region.wanted, Mem.ver, we, wn, w1, w2']
        simp
        have hdr : List.drop (r.ps.length * 6 + 6) (flat (encs r.ps) ++ (enc Dat.zero).cells) = [] := List.drop_eq_nil_of_le (by simp [hfl])
        rw [hdr, List.append_nil]
        obtain ⟨m4, hm4⟩ : ∃ m4, m4 = (m3.set (m.next + 2) (flat (encs r.ps) ++ bx)).set W [AV.sl (m.next + 2) 0 (r.ps.length + 1) 6 true none, dv, int r.e] := ⟨_, rfl⟩
        rw [← hm4]
        have g4W : m4.get W = some (.cells [AV.sl (m.next + 2) 0 (r.ps.length + 1) 6 true none, dv, int r.e] false (m3.clock + 2)) := by rw [hm4]; simp
        have g4P : m4.get (m.next + 2) = some (.cells (flat (encs r.ps) ++ bx) false (m3.clock + 1)) := by rw [hm4]; simp [w2']
        have g4B : m4.get m.next = some (.cells bx false (m.clock + 1)) := by rw [hm4]; simp [wn', gB]
        have n4 : m4.next = m.next + 3 := by rw [hm4]; simp [h2]
        have kx4 : KpX (fun k => k = W ∨ owns pv k) m m4 := by
          refine ⟨by omega, fun id hi hn => ?_, by rw [hm4]; exact (k1.x.trans k1.next h4x).same rfl rfl⟩
          have a1 : id ≠ W := fun e => hn (.inl e)
          have a2 : id ≠ m.next + 2 := by omega
          have a3 : id ≠ m.next + 1 := by omega
          have a4 : id ≠ m.next := by omega
          rw [hm4]
          simp [a1, a2]
          rw [h4 id (by omega) fun e => hn (.inr e)]
          simp [a3, a4]
        clear hm4 h1 h2 h3 h4 gW gB hsrc k1 hdr
        have accd := acc_keptX hst.d kx4 fun j hj e => by
          rcases e with rfl | e
          · exact hst.dw hj
          · exact hst.pd j e hj
        have src2 := src_one (m := m4.new [int deep] false) (id := m4.next) (c := some 1) (k := 1) (ag := false) (x := int deep) (w := m4.clock + 1) (f := false) rfl (by simp) (by simp) (by simp)
        obtain ⟨m6, q1, q2, ⟨w6, q3⟩, q4, q4x⟩ := acc_app2 (accd.kp (.new m4 [int deep] false)) (okAll_ints _) el54 (zs := [int deep]) (zs' := [int deep]) (List.cons_ne_nil _ _) (by simp [okAll_cons, okAll_nil]) (by simp [fzvs]) (.refl _) (by simp; omega)
        simp [n4] at q1 q2 q3 q4 src2
        have w3' : W ≠ m.next + 3 := by omega
        have w4' : W ≠ m.next + 4 := by omega
        have q6W : m6.get W = some (.cells [AV.sl (m.next + 2) 0 (r.ps.length + 1) 6 true none, dv, int r.e] false (m3.clock + 2)) := by rw [q4 W (by omega) hst.dw]; simp [w3', g4W]
        simp [abuildSlice, fillAt, zeros, n4, src2, q1, q6W]
        obtain ⟨m7, hm7⟩ : ∃ m7, m7 = m6.set W [AV.sl (m.next + 2) 0 (r.ps.length + 1) 6 true none, AV.sl (m.next + 4) 0 (r.ds.length + 1) 1 false none, int r.e] := ⟨_, rfl⟩
        rw [← hm7]
        obtain ⟨r1, hr1⟩ : ∃ r1 : RS, r1 = ⟨r.ps ++ [.mk K N Sx M L Tx], r.ds ++ [deep], 0⟩ := ⟨_, rfl⟩
        have wd : IntKind.i64.wrap (deep + 1) = deep + 1 := IntWalk.i64_in _ (by omega)
        have bx4 : bx[4]? = some (.lst (encs L)) := by rw [← hbx]; rfl
        have bx5 : bx[5]? = some (.lst (encs Tx)) := by rw [← hbx]; rfl
        have hft := alone_fits hfit
        have hL : fitss L := by rw [Dat.fits] at hfit; exact hfit.2.1
        have hTx : fitss Tx := by rw [Dat.fits] at hfit; exact hfit.2.2
        have hsz : sizes L ≤ n ∧ sizes Tx ≤ n := by rw [Dat.size] at hs; omega
        have lL := hft.l
        have lT := hft.t
        have g7P : ∃ v, m7.get (m.next + 2) = some (.cells (flat (encs r.ps) ++ bx) false v) := by
          refine ⟨m3.clock + 1, ?_⟩
          rw [hm7, Mem.get_set, if_neg w2', q4 (m.next + 2) (by omega) (fun h => by have := (acc_lt hst.d _ h).2; omega), if_neg (by omega)]
          exact g4P
        have g7B : ∃ v, m7.get m.next = some (.cells bx false v) := by
          refine ⟨m.clock + 1, ?_⟩
          rw [hm7, Mem.get_set, if_neg wn', q4 m.next (by omega) (fun h => by have := (acc_lt hst.d _ h).2; omega), if_neg (by omega)]
          exact g4B
        have g7D : ∃ v, m7.get (m.next + 4) = some (.cells (flat (r.ds.map int ++ [int deep])) false v) := by
          refine ⟨w6, ?_⟩
          rw [hm7, Mem.get_set, if_neg (by omega)]
          exact q3
        obtain ⟨vP, g7P⟩ := g7P
        obtain ⟨vD, g7D⟩ := g7D
        have n7 : m7.next = m.next + 5 := by rw [hm7]; simp [q2]
        have kx7 : KpX (tch W pv dv) m m7 := by
          refine ⟨by omega, fun id hi hn => ?_, by rw [hm7]; exact ((kx4.x.trans kx4.next (Kp.new m4 [int deep] false).x).trans (Nat.le_trans kx4.next (Kp.new m4 [int deep] false).next) q4x).same rfl rfl⟩
          have a1 : id ≠ W := fun e => hn (.inl e)
          rw [hm7, Mem.get_set, if_neg a1, q4 id (by omega) (fun h => hn (.inr (.inr h))), if_neg (by omega)]
          exact kx4.get id hi fun h => h.elim (fun e => a1 e) fun h => hn (.inr (.inl h))
        have mid6 : Mid m0 m m7 W pv dv bx r1 := by
          have ebx : (enc (.mk K N Sx M L Tx)).cells = bx := by rw [← hbx]; simp [enc]
          refine ⟨⟨AV.sl (m.next + 2) 0 (r.ps.length + 1) 6 true none, AV.sl (m.next + 4) 0 (r.ds.length + 1) 1 false none, ⟨⟨by omega, m6.clock + 1, by rw [hm7, hr1, ← e0]; simp⟩, .inr ⟨?_, m.next + 2, vP, ?_, by have := hst.kp.next; omega, by omega, ?_⟩, .inr ⟨?_, m.next + 4, vD, ?_, by have := hst.kp.next; omega, by omega, ?_⟩, kx7.toKp hst.kp ?_, hst.wn, ?_, ?_, ?_⟩, ?_, ?_⟩, ?_, ⟨by omega, g7B⟩, kx7⟩
          · rw [hr1, encs_map]; simp
          · rw [hr1, encs_map]; simp
          · rw [g7P, hr1]
            simp only [encs_map, List.map_append, flat_append, List.map_cons, List.map_nil, flat_cons, flat_nil, ebx, List.append_nil]
          · rw [hr1]; simp
          · rw [hr1]; simp
          · rw [g7D, hr1]; simp
          · rintro j (rfl | h | h)
            · exact hst.wn
            · exact (acc_lt hst.p _ h).1
            · exact (acc_lt hst.d _ h).1
          · intro h; simp only [owns] at h; omega
          · intro h; simp only [owns] at h; omega
          · intro k h h'; simp only [owns] at h h'; omega
          · intro k h; simp only [owns] at h; omega
          · intro k h; simp only [owns] at h; omega
          · rw [hr1]; simp; omega
        clear g7P g7B g7D kx7 hm7 q1 q2 q3 q4 src2 q6W accd kx4 g4W g4P g4B n4 n7
        have sl6 := True.intro
        refine go_count 6 L.length (fun i s m' => s.at 0 = .ptr W 0 ∧ s.at 2 = int deep ∧ s.at 4 = .ptr m.next 0 ∧ Mid m0 m m' W pv dv bx (rgos (L.take i) (deep + 1) r1)) (by simp) (by omega) ⟨by simp [sl6], by simp [sl6], by simp [sl6], by simpa [rgos] using mid6⟩ ?_
        clear mid6
        rintro i s6 m6 hi e6 ⟨e0', e2', e4', hmid⟩ hs' hw Q6 hn he
        clear hs'
        obtain ⟨bl, bv, be⟩ := hmid.box
        simp [e6, e4', be, bx4]
        refine goB_split (fun h => ?_) fun h => ?_
        · have hlt : i < L.length := by simpa using h
          obtain ⟨x, hx⟩ : ∃ x, L[i]? = some x := ⟨_, List.getElem?_eq_getElem hlt⟩
          have hxe : (encs L)[i]? = some (enc x) := by rw [encs_get, hx]; rfl
          have hxm := List.mem_of_getElem? hx
          have := size_mem hxm
          simp [e6, e0', e2', e4', be, bx4, aindexAddr_lst Tryz.underlying43 tsize56 hxe (enc_cells_length x), wd]
          obtain ⟨pv', dv', hst', _, _⟩ := hmid.ex
          have ht : L.take (i + 1) = L.take i ++ [x] := by
            obtain ⟨h1, h2⟩ := List.getElem?_eq_some_iff.1 hx
            rw [List.take_succ_eq_append_getElem h1, h2]
          refine goH_of (Mid.wph hmid wl (fun pv' dv' hst' => ih x (by omega) (fits_mem hL hxm) (deep + 1) _ m0 m6 W pv' dv' (by omega) hmid.len hst')) ?_
          rintro v m2 ⟨rfl, hm2⟩
          simp [e6, hw]
          refine hn _ _ hlt (by simp) ⟨by simp [e0'], by simp [e2'], by simp [e4'], ?_⟩
          rw [ht, rgos_snoc]
          exact hm2
        · simp
          refine he _ _ _ (by simp) ?_
          have hle : i = L.length := by simp at h hi ⊢; omega
          subst hle
          rw [List.take_length] at hmid
          simp
          have mid7 := hmid
          have sl7 := And.intro e0' (And.intro e2' e4')
          refine go_count 7 Tx.length (fun i s m' => s.at 0 = .ptr W 0 ∧ s.at 2 = int deep ∧ s.at 4 = .ptr m.next 0 ∧ Mid m0 m m' W pv dv bx (rgos (Tx.take i) (deep + 1) (rgos L (deep + 1) r1))) (by simp) (by omega) ⟨by simp [sl7], by simp [sl7], by simp [sl7], by simpa [rgos] using mid7⟩ ?_
          clear mid7
          rintro i s7 m7 hi e7 ⟨e0', e2', e4', hmid⟩ hs' hw Q7 hn he
          clear hs'
          obtain ⟨bl, bv, be⟩ := hmid.box
          simp [e7, e4', be, bx5]
          refine goB_split (fun h => ?_) fun h => ?_
          · have hlt : i < Tx.length := by simpa using h
            obtain ⟨x, hx⟩ : ∃ x, Tx[i]? = some x := ⟨_, List.getElem?_eq_getElem hlt⟩
            have hxe : (encs Tx)[i]? = some (enc x) := by rw [encs_get, hx]; rfl
            have hxm := List.mem_of_getElem? hx
            have := size_mem hxm
            simp [e7, e0', e2', e4', be, bx5, aindexAddr_lst Tryz.underlying43 tsize56 hxe (enc_cells_length x), wd]
            obtain ⟨pv', dv', hst', _, _⟩ := hmid.ex
            have ht : Tx.take (i + 1) = Tx.take i ++ [x] := by
              obtain ⟨h1, h2⟩ := List.getElem?_eq_some_iff.1 hx
              rw [List.take_succ_eq_append_getElem h1, h2]
            refine goH_of (Mid.wph hmid wl (fun pv' dv' hst' => ih x (by omega) (fits_mem hTx hxm) (deep + 1) _ m0 m7 W pv' dv' (by omega) hmid.len hst')) ?_
            rintro v m2 ⟨rfl, hm2⟩
            simp [e7, hw]
            refine hn _ _ hlt (by simp) ⟨by simp [e0'], by simp [e2'], by simp [e4'], ?_⟩
            rw [ht, rgos_snoc]
            exact hm2
          · simp
            refine he _ _ _ (by simp) ?_
            have hle : i = Tx.length := by simp at h hi ⊢; omega
            subst hle
            rw [List.take_length] at hmid
            simp
            refine hQ _ _ _ ⟨.inl rfl, _, rfl, ?_⟩
            have hr : rgo (.mk K N Sx M L Tx) deep r = rgos Tx (deep + 1) (rgos L (deep + 1) r1) := by
              rw [rgo, if_neg (by simp [e0]), if_neg e1, if_neg e2, if_neg (by simp [ha]), hr1]
            rw [hr]
            obtain ⟨pv', dv', f1, f2, f3⟩ := hmid.ex
            exact ⟨rfl, hmid.len, pv', dv', f1, hmid.kx, fun k hk => .inr (by have := f2 k hk; omega), fun k hk => .inr (by have := f3 k hk; omega)⟩
    · simp [we, wn, e0]
      exact err r.e _ _ _ (.inr rfl) (kx0 _) ⟨by simp; omega, by simp [wn, we]⟩ (rgo_err _ _ _ e0)
end Go.Proofs.YtnhcmcfgemoehaaGreat
