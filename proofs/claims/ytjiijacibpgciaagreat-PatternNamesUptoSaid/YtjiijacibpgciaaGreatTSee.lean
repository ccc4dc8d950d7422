import Derived.Test.YtjiijacibpgciaaGreatYRef4
import Derived.Test.YtjiijacibpgciaaGreatYHalves
import Derived.Test.YtjiijacibpgciaaGreatVE
import Derived.Test.YtjiijacibpgciaaGreatTTab
import Derived.Test.YtjiijacibpgciaaGreatYCons2
/- Going through a datum, each part shown to a function, until it answers no (turned from the texts YSee and YTold). -/
set_option linter.unusedSimpArgs false
set_option linter.unusedVariables false
set_option linter.unusedSectionVars false
namespace Go.Proofs.YtjiijacibpgciaaGreat
set_option maxRecDepth 4000
open Go.V

/-- The functions that are run here; all others as they were told. -/
def here : List Nat := [52, 41, 69, 70, 54, 3, 5, 6, 7, 8, 15, 16, 17, 18, 19, 28, 29, 31, 32, 33, 34, 35, 38, 39, 40, 50, 51]
/-- Those that leave something in memory. -/
def leavesT : List Nat := [52, 41, 69, 70, 54, 8, 15, 16, 17, 19, 31, 35, 39, 40]
noncomputable def cw : Cfg := ⟨fun f => f == 40 || f == 8, fun f => f == 8, fun f => if f == 53 || f == 37 then some (cloneL Tryz.prog f) else if f == 4 then some (rowH rows4) else if here.contains f then none else some (limH Tryz.prog cf f), fun f => if here.contains f then (if leavesT.contains f then 0 else 1) else 0⟩
theorem cw_eh {f : FuncId} {args : List AV} {r : AV} {m m' : Mem} (h : EH Tryz.prog cf (.func f) args m r m') (hf : cw.hook f = some (limH Tryz.prog cf f) := by rfl) : EH Tryz.prog cw (.func f) args m r m' := eh_hook hf (lim_eq h)
theorem cw_gives {f : FuncId} {args : List AV} {r : AV} (h : Gives Tryz.prog cf f args r) (hf : cw.hook f = some (limH Tryz.prog cf f) := by rfl) : Gives Tryz.prog cw f args r := fun m0 args0 m hz => cw_eh (h m0 args0 m hz) hf

/-- Showing: what was shown, and whether it was ended. -/
def vis (go : List Dat → Bool) (l : List Dat) : List Dat → List Dat × Bool
  | [] => (l, false)
  | x :: xs => if go (l ++ [x]) then vis go (l ++ [x]) xs else (l ++ [x], true)
theorem vis_append (go : List Dat → Bool) : ∀ (a b l : List Dat), vis go l (a ++ b) = if (vis go l a).2 then ((vis go l a).1, true) else vis go (vis go l a).1 b
  | [], b, l => by simp [vis]
  | x :: a, b, l => by
    simp only [List.cons_append, vis]
    split
    · exact vis_append go a b _
    · rfl

structure KpC (X : Nat → Prop) (m m' : Mem) : Prop where
  next : m.next ≤ m'.next
  get : ∀ id, id < m.next → ¬ X id → m'.get id = m.get id
  x : ∀ id, id < m.next → ¬ X id → m'.loop id = m.loop id ∧ m'.map id = m.map id
theorem KpC.refl (X : Nat → Prop) (m : Mem) : KpC X m m := ⟨Nat.le_refl _, fun _ _ _ => rfl, fun _ _ _ => ⟨rfl, rfl⟩⟩
theorem KpC.trans {X : Nat → Prop} {a b c : Mem} (h : KpC X a b) (k : KpC X b c) : KpC X a c := ⟨Nat.le_trans h.next k.next, fun id hi hx => (k.get id (Nat.lt_of_lt_of_le hi h.next) hx).trans (h.get id hi hx), fun id hi hx => ⟨(k.x id (Nat.lt_of_lt_of_le hi h.next) hx).1.trans (h.x id hi hx).1, (k.x id (Nat.lt_of_lt_of_le hi h.next) hx).2.trans (h.x id hi hx).2⟩⟩
theorem KpC.of {X : Nat → Prop} {a b : Mem} (h : KpX X a b) : KpC X a b := ⟨h.next, h.get, fun id hi _ => h.x id hi⟩
theorem KpC.mono {X Y : Nat → Prop} {a b : Mem} (h : KpC X a b) (k : ∀ j, X j → Y j) : KpC Y a b := ⟨h.next, fun id hi hx => h.get id hi fun x => hx (k id x), fun id hi hx => h.x id hi fun x => hx (k id x)⟩
theorem has.kc {X : Nat → Prop} {m m' : Mem} {id : Nat} {cs : List AV} (h : has m id cs) (k : KpC X m m') (hx : ¬ X id) : has m' id cs := ⟨Nat.lt_of_lt_of_le h.1 k.next, by rw [k.get id h.1 hx]; exact h.2⟩

/-- What a function that is shown a part does: F are its objects. -/
structure Sees (J : List Dat → (Nat → Prop) → Mem → Prop) (go : List Dat → Bool) (fn : Fn) (fi ca : List AV) : Prop where
  keep : ∀ l F m m', J l F m → KpX (fun i => ¬ F i) m m' → J l F m'
  lt : ∀ l F m, J l F m → ∀ i, F i → i < m.next
  see : ∀ l F m x, J l F m → (l = [] ∨ go l = true) → x.fits → wph Tryz.prog cw fn (fi ++ [enc x] ++ ca) m fun v m' => v = .sc (.bool (go (l ++ [x]))) ∧ ∃ F', J (l ++ [x]) F' m' ∧ (∀ i, F' i → F i ∨ m.next ≤ i) ∧ KpC F m m'

structure St2 (m : Mem) (P Q S T D : Nat) (p q : Int) (see : AV) (st : Bool) : Prop where
  p : has m P [int p]
  q : has m Q [int q]
  s : has m S [see]
  t : has m T [.sc (.bool st)]
  d : has m D [.fn (.func 54) [] [.ptr P 0, .ptr Q 0, .ptr S 0, .ptr T 0, .ptr D 0]]
def tq (F : Nat → Prop) (P Q T : Nat) (i : Nat) : Prop := F i ∨ i = P ∨ i = Q ∨ i = T
theorem tq_trans {F F1 : Nat → Prop} {P Q T : Nat} {m m1 m2 : Mem} (h : KpC (tq F P Q T) m m1) (hf : ∀ i, F1 i → F i ∨ m.next ≤ i) (k : KpC (tq F1 P Q T) m1 m2) : KpC (tq F P Q T) m m2 := by
  have key : ∀ id, id < m.next → ¬ tq F P Q T id → ¬ tq F1 P Q T id := by
    rintro id hi hx (x | x)
    · rcases hf id x with y | y
      · exact hx (.inl y)
      · omega
    · exact hx (.inr x)
  exact ⟨Nat.le_trans h.next k.next, fun id hi hx => (k.get id (Nat.lt_of_lt_of_le hi h.next) (key id hi hx)).trans (h.get id hi hx), fun id hi hx => ⟨(k.x id (Nat.lt_of_lt_of_le hi h.next) (key id hi hx)).1.trans (h.x id hi hx).1, (k.x id (Nat.lt_of_lt_of_le hi h.next) (key id hi hx)).2.trans (h.x id hi hx).2⟩⟩
/-- What was there ahead, and is not the other's. -/
theorem KpC.after {X Y : Nat → Prop} {m m1 m2 : Mem} (h : Kp m m1) (k : KpC Y m1 m2) (hf : ∀ i, i < m.next → Y i → X i) : KpC X m m2 :=
  ⟨Nat.le_trans h.next k.next, fun id hi hx => (k.get id (Nat.lt_of_lt_of_le hi h.next) fun y => hx (hf id hi y)).trans (h.get id hi), fun id hi hx => ⟨(k.x id (Nat.lt_of_lt_of_le hi h.next) fun y => hx (hf id hi y)).1.trans (h.x id hi).1, (k.x id (Nat.lt_of_lt_of_le hi h.next) fun y => hx (hf id hi y)).2.trans (h.x id hi).2⟩⟩
theorem St2.kp {m m' : Mem} {P Q S T D : Nat} {p q : Int} {see : AV} {st : Bool} (h : St2 m P Q S T D p q see st) (k : Kp m m') : St2 m' P Q S T D p q see st := ⟨h.p.kp k, h.q.kp k, h.s.kp k, h.t.kp k, h.d.kp k⟩
theorem St2.kc {X : Nat → Prop} {m m' : Mem} {P Q S T D : Nat} {p q : Int} {see : AV} {st : Bool} (h : St2 m P Q S T D p q see st) (k : KpC X m m') (hp : ¬ X P) (hq : ¬ X Q) (hs : ¬ X S) (ht : ¬ X T) (hd : ¬ X D) : St2 m' P Q S T D p q see st := ⟨h.p.kc k hp, h.q.kc k hq, h.s.kc k hs, h.t.kc k ht, h.d.kc k hd⟩
theorem neqFn {x y : Operand} {f : Fn} {a b : List AV} : abin Tryz.prog .neq 67 x y (.fn f a b) (.sc .nilFunc) = some (.sc (.bool true)) := by
  have : nilTest Tryz.prog 67 (.fn f a b) (.sc .nilFunc) = some false := by
    unfold nilTest
    rw [Tryz.underlying67]
  simp [abin, plain, this]
theorem vis_end {go : List Dat → Bool} : ∀ {x l : List Dat}, (vis go l x).2 = false → (l = [] ∨ go l = true) → ((vis go l x).1 = [] ∨ go (vis go l x).1 = true)
  | [], l, _, h => h
  | x :: xs, l, he, h => by
    simp only [vis] at he ⊢
    split at he
    · rename_i hg; rw [if_pos hg]; exact vis_end he (.inr hg)
    · cases he

set_option maxHeartbeats 8000000 in
theorem see58 {J : List Dat → (Nat → Prop) → Mem → Prop} {go' : List Dat → Bool} {fs : FuncId} {ca : List AV} (hJ : Sees J go' (.func fs) [] ca) (P Qq S T D : Nat) (hd : P ≠ Qq ∧ P ≠ S ∧ P ≠ T ∧ P ≠ D ∧ Qq ≠ S ∧ Qq ≠ T ∧ Qq ≠ D ∧ S ≠ T ∧ T ≠ D) : ∀ (n : Nat) (d : Dat), d.size ≤ n → d.fits → ∀ (deep p q : Int) (l : List Dat) (F : Nat → Prop) (m : Mem), (¬ F P ∧ ¬ F Qq ∧ ¬ F S ∧ ¬ F T ∧ ¬ F D) → 0 ≤ deep ∧ deep ≤ 1000 → 0 ≤ p → St2 m P Qq S T D p q (.fn (.func fs) [] ca) false → J l F m → (l = [] ∨ go' l = true) → (wk d deep p q).1 = 0 →
    wph Tryz.prog cw (.func 54) [enc d, int deep, .ptr P 0, .ptr Qq 0, .ptr S 0, .ptr T 0, .ptr D 0] m fun v m' => v = int 0 ∧ (∃ F', J (vis go' l (pre d)).1 F' m' ∧ ∀ i, F' i → F i ∨ m.next ≤ i) ∧ KpC (tq F P Qq T) m m' ∧ ∃ p' q', St2 m' P Qq S T D p' q' (.fn (.func fs) [] ca) (vis go' l (pre d)).2 ∧ ((vis go' l (pre d)).2 = false → p' = (wk d deep p q).2.1 ∧ q' = (wk d deep p q).2.2) := by
  intro n
  induction n with
  | zero => intro d hs; cases d; simp [Dat.size] at hs
  | succ n ih =>
    intro d hs hfit deep p q l F m hF hdeep hp hst hJl hgo h0
    have hd0 := d
    obtain ⟨K, N, Sx, M, L, Tx⟩ := d
    obtain ⟨d1, d2, d3, d4, d5, d6, d7, d8, d9⟩ := hd
    obtain ⟨nP, nQ, nS, nT, nD⟩ := hF
    refine wph_go Tryz.func54 rfl rfl (by simp [Tryz.f54]) (by simp [Tryz.f54]) fun Q hQ => ?_
    simp only [Tryz.f54, show cw.keepRes 54 = false from rfl, show cw.keepArgs 54 = false from rfl] at hQ ⊢
    simp only [enc]
    obtain ⟨pl, pv, pe⟩ := hst.p
    obtain ⟨ql, qv, qe⟩ := hst.q
    have pn : P ≠ m.next := by omega
    have e1 : ¬ 64 < deep := by intro h; simp [wk, h] at h0
    have e2 : ¬ 4096 ≤ p := by intro h; simp [wk, e1, h] at h0
    have ha : alone (.mk K N Sx M L Tx) = true := by
      cases h : alone (.mk K N Sx M L Tx) with
      | true => rfl
      | false => simp [wk, e1, e2, h] at h0
    simp [e1, pe, pn, e2]
    refine goH_gives (cw_gives (g59 (alone_fits hfit))) (fun m1 k1 => ?_) (by simp [enc])
    have st1 : St2 m1 P Qq S T D p q (.fn (.func fs) [] ca) false := (hst.kp (.new _ _ _)).kp k1
    have kn1 : Kp m m1 := (Kp.new _ _ _).trans k1
    have b1 := k1.get m.next (by simp)
    simp at b1
    simp [ha]
    obtain ⟨pl1, pv1, pe1⟩ := st1.p
    obtain ⟨ql1, qv1, qe1⟩ := st1.q
    obtain ⟨sl1, sv1, se1⟩ := st1.s
    obtain ⟨tl1, tv1, te1⟩ := st1.t
    have w1 : IntKind.i64.wrap (p + 1) = p + 1 := IntWalk.i64_in _ (by omega)
    have n1 : m.next < m1.next := by have := k1.next; simp at this; omega
    have d1' := Ne.symm d1
    have d2' := Ne.symm d2
    have d3' := Ne.symm d3
    have d5' := Ne.symm d5
    have d6' := Ne.symm d6
    have q1 : m.next ≠ P := by omega
    have q2 : m.next ≠ Qq := by omega
    have kx1 : KpX (fun i => ¬ F i) m ((m1.set P [int (p + 1)]).set Qq [int (max q deep)]) := (((KpX.of kn1).set nP _).set nQ _)
    have hJ1 := hJ.keep _ _ _ _ hJl kx1
    have hF1 := hJ.lt _ _ _ hJl
    simp [pe1, qe1, se1, te1, w1, d1, d1', d2, d2', d3, d3', d5, d5', d6, d6', amax2, neqFn, b1, q1, q2]
    obtain ⟨em, hem⟩ : ∃ em, em = (m1.set P [int (p + 1)]).set Qq [int (max q deep)] := ⟨_, rfl⟩
    have hs1 : St2 em P Qq S T D (p + 1) (max q deep) (.fn (.func fs) [] ca) false := by
      rw [hem]
      have kk : KpX (two P Qq) m1 ((m1.set P [int (p + 1)]).set Qq [int (max q deep)]) := ((KpX.refl _ _).set (.inl rfl) _).set (.inr rfl) _
      refine ⟨⟨by simp; omega, ?_⟩, ⟨by simp; omega, ?_⟩, st1.s.kept kk (by unfold two; omega), st1.t.kept kk (by unfold two; omega), st1.d.kept kk (by unfold two; omega)⟩
      · simp [d1]
      · simp
    have hen : em.next = m1.next := by rw [hem]; rfl
    have hbx : has em m.next (enc (.mk K N Sx M L Tx)).cells := by
      rw [hem]
      refine ⟨by simp; omega, ?_⟩
      simp [q1, q2, b1, enc]
    rw [← hem] at hJ1 ⊢
    have hkm : KpC (tq F P Qq T) m em := by
      rw [hem]
      exact .of ((((KpX.of kn1).set (X := tq F P Qq T) (.inr (.inl rfl)) _).set (.inr (.inr (.inl rfl))) _))
    refine goH_of (by simpa [enc] using hJ.see l F em (.mk K N Sx M L Tx) hJ1 hgo hfit) ?_
    rintro v m2 ⟨rfl, F2, hJ2, hF2, kc2⟩
    have hF2m : ∀ i, F2 i → F i ∨ m.next ≤ i := fun i hi => (hF2 i hi).imp id fun h => by omega
    have st2 := hs1.kc kc2 nP nQ nS nT nD
    have hb2 := hbx.kc kc2 (fun h => by have := hF1 _ h; omega)
    have hn2 := kc2.next
    have old : ∀ j, j < m.next → ¬ F j → ¬ F2 j := fun j h1 h2 h => (hF2m j h).elim h2 fun h => by omega
    have hF2P := old P pl nP
    have hF2Q := old Qq ql nQ
    have hF2S := old S hst.s.1 nS
    have hF2T := old T hst.t.1 nT
    have hF2D := old D hst.d.1 nD
    obtain ⟨pl2, pv2, pe2⟩ := st2.p
    obtain ⟨ql2, qv2, qe2⟩ := st2.q
    obtain ⟨sl2, sv2, se2⟩ := st2.s
    obtain ⟨tl2, tv2, te2⟩ := st2.t
    obtain ⟨bl2, bv2, be2⟩ := hb2
    have q3 : m.next ≠ T := by have := hst.t.1; omega
    simp [enc] at be2
    simp [te2, be2, q3, abuildSlice, fillAt, zeros]
    have hL : fitss L := by rw [Dat.fits] at hfit; exact hfit.2.1
    have hT : fitss Tx := by rw [Dat.fits] at hfit; exact hfit.2.2
    have hsz : sizes L ≤ n ∧ sizes Tx ≤ n := by rw [Dat.size] at hs; omega
    obtain ⟨g0, hg0⟩ : ∃ g0, g0 = go' (l ++ [.mk K N Sx M L Tx]) := ⟨_, rfl⟩
    rw [← hg0]
    -- what is left to do with the o-th list
    let Ls : Nat → List Dat := fun o => if o = 0 then L else Tx
    let rem : Nat → Int → Int → Int × Int × Int := fun o p q => if o = 0 then nxt (wks L (deep + 1) p q) fun p q => wks Tx (deep + 1) p q else if o = 1 then wks Tx (deep + 1) p q else (0, p, q)
    let rpre : Nat → List Dat := fun o => if o = 0 then pres L ++ pres Tx else if o = 1 then pres Tx else []
    have hrem : wk (.mk K N Sx M L Tx) deep p q = rem 0 (p + 1) (max q deep) := by
      simp [wk, e1, e2, ha, rem]
    have hpre : vis go' l (pre (.mk K N Sx M L Tx)) = if g0 then vis go' (l ++ [.mk K N Sx M L Tx]) (rpre 0) else (l ++ [.mk K N Sx M L Tx], true) := by
      simp [pre, vis, rpre, hg0]
    rw [hrem] at h0
    let slots : Sl → Prop := fun s => s.at 1 = int deep ∧ s.at 2 = .ptr P 0 ∧ s.at 3 = .ptr Qq 0 ∧ s.at 4 = .ptr S 0 ∧ s.at 5 = .ptr T 0 ∧ s.at 6 = .ptr D 0 ∧ s.at 44 = .sl m2.next 0 2 1 false (some 2) ∧ s.at 45 = int 2
    -- the memory, what was shown, whether it was ended
    let mems : Mem → Int → Int → List Dat → Bool → Prop := fun m' p' q' l' st => St2 m' P Qq S T D p' q' (.fn (.func fs) [] ca) st ∧ has m' m2.next [.lst (encs L), .lst (encs Tx)] ∧ KpC (tq F P Qq T) m m' ∧ (st = false → p ≤ p') ∧ (∃ F', J l' F' m' ∧ (∀ i, F' i → F i ∨ m.next ≤ i) ∧ ¬ F' P ∧ ¬ F' Qq ∧ ¬ F' S ∧ ¬ F' T ∧ ¬ F' D ∧ ¬ F' m2.next) ∧ (st = false → l' = [] ∨ go' l' = true)
    let left : Bool → List Dat → List Dat → Prop := fun st l' r => vis go' l (pre (.mk K N Sx M L Tx)) = if st then (l', true) else vis go' l' r
    have fin : ∀ (m' : Mem) (p' q' : Int) (l' : List Dat) (st : Bool), mems m' p' q' l' st → left st l' [] → (st = false → (0, p', q') = rem 0 (p + 1) (max q deep)) → ∀ (s' : Sl), s'.at 9 = int 0 → Q .ret s' m' := by
      rintro m' p' q' l' st ⟨a1, a2, a3, a4, ⟨F', a5, a7, _⟩, a6⟩ hl hw s' h9
      refine hQ _ _ _ (leave_sc (.inr rfl) h9 ?_)
      have hv : vis go' l (pre (.mk K N Sx M L Tx)) = (l', st) := by rw [hl]; cases st <;> simp [vis]
      rw [hv]
      refine ⟨rfl, ⟨F', a5, a7⟩, a3, p', q', a1, fun h => ?_⟩
      rw [hrem, ← hw h]
      exact ⟨rfl, rfl⟩
    refine go_loop (fun k s m' => ∃ (o : Nat) (p' q' : Int) (l' : List Dat) (st : Bool), k = 2 - o ∧ o ≤ 2 ∧ slots s ∧ s.at 46 = int o ∧ mems m' p' q' l' st ∧ left st l' (rpre o) ∧ (st = false → rem o p' q' = rem 0 (p + 1) (max q deep))) 2 ⟨0, p + 1, max q deep, l ++ [.mk K N Sx M L Tx], !g0, rfl, by omega, by simp [slots], by simp, ?_, ?_, fun _ => rfl⟩ ?_
    · have stx : ∀ m' : Mem, m' = (m2.set T [.sc (.bool !g0)]).new [.lst (encs L), .lst (encs Tx)] false → mems m' (p + 1) (max q deep) (l ++ [.mk K N Sx M L Tx]) (!g0) := by
        rintro m' rfl
        have kk : KpX (fun i => i = T) m2 ((m2.set T [.sc (.bool !g0)]).new [.lst (encs L), .lst (encs Tx)] false) := ((KpX.refl (fun i => i = T) m2).set (id := T) rfl _).new _ _
        have kc := KpC.of kk
        refine ⟨⟨st2.p.kept kk (by omega), st2.q.kept kk (by omega), st2.s.kept kk (by omega), ⟨by simp; omega, ?_⟩, st2.d.kept kk (by omega)⟩, ⟨by simp, ?_⟩, (hkm.trans (kc2.mono fun j hj => .inl hj)).trans (kc.mono fun j hj => .inr (.inr (.inr hj))), fun _ => by omega, ⟨F2, hJ.keep _ _ _ _ hJ2 (kk.mono fun j _ hj => by rw [hj]; exact hF2T), hF2m, hF2P, hF2Q, hF2S, hF2T, hF2D, fun h => by have := hJ.lt _ _ _ hJ2 _ h; omega⟩, fun h => .inr ?_⟩
        · have : T ≠ m2.next := by omega
          simp [this]
        · simp
        · rw [← hg0]; simpa using h
      exact stx _ rfl
    · show vis go' l (pre (.mk K N Sx M L Tx)) = _
      rw [hpre]
      cases g0 <;> simp
    · rintro k s m2' ⟨o, p2, q2, l2, stp, rfl, ho, hsl, h46, hmem, hleft, hw⟩ Q' hn he
      obtain ⟨s1, s2, s3, s4, s5, s6, s44, s45⟩ := hsl
      have hmem0 := hmem
      obtain ⟨st2', hb2', kx2, hp2, _, hgo2⟩ := hmem
      obtain ⟨bl3, bv3, be3⟩ := hb2'
      simp [s45, h46]
      refine goB_split (fun h => ?_) fun h => ?_
      · have ho2 : o < 2 := by simp at h; omega
        have ix : aindexAddr Tryz.prog 104 (.sl m2.next 0 2 1 false (some 2)) (int o) = some (.ptr m2.next (0 + o * 1)) := aindexAddr_sl Tryz.underlying104 tsize23 ho2
        have gx : ([AV.lst (encs L), .lst (encs Tx)] : List AV)[o]? = some (.lst (encs (Ls o))) := by
          rcases (by omega : o = 0 ∨ o = 1) with rfl | rfl <;> simp [Ls]
        simp [s44, h46, ix, be3, gx]
        have hstep : ∀ p q, rem o p q = nxt (wks (Ls o) (deep + 1) p q) fun p q => rem (o + 1) p q := by
          intro p q
          rcases (by omega : o = 0 ∨ o = 1) with rfl | rfl
          · simp [rem, Ls]
          · simp only [rem, Ls, nxt]
            simp
            intro h0
            rw [← h0]
        have hpstep : rpre o = pres (Ls o) ++ rpre (o + 1) := by
          rcases (by omega : o = 0 ∨ o = 1) with rfl | rfl <;> simp [rpre, Ls]
        have hfl : fitss (Ls o) := by
          rcases (by omega : o = 0 ∨ o = 1) with rfl | rfl <;> simp [Ls, hL, hT]
        have hlen : (Ls o).length < 2 ^ 21 := by
          have := alone_fits hfit
          rcases (by omega : o = 0 ∨ o = 1) with rfl | rfl
          · exact this.l
          · exact this.t
        have hsl : sizes (Ls o) ≤ n := by
          rcases (by omega : o = 0 ∨ o = 1) with rfl | rfl <;> simp [Ls, hsz.1, hsz.2]
        refine go_loop (fun k s m' => ∃ (i : Nat) (p' q' : Int) (l' : List Dat) (st : Bool), k = (Ls o).length - i ∧ i ≤ (Ls o).length ∧ slots s ∧ s.at 46 = int o ∧ s.at 50 = .lst (encs (Ls o)) ∧ s.at 51 = int (Ls o).length ∧ s.at 52 = int i ∧ mems m' p' q' l' st ∧ left st l' (pres ((Ls o).drop i) ++ rpre (o + 1)) ∧ (st = false → nxt (wks ((Ls o).drop i) (deep + 1) p' q') (fun p q => rem (o + 1) p q) = rem 0 (p + 1) (max q deep))) (Ls o).length ⟨0, p2, q2, l2, stp, rfl, by omega, by simp [slots, s1, s2, s3, s4, s5, s6, s44, s45], by simp [h46], by simp, by simp, by simp, hmem0, by rw [List.drop_zero, ← hpstep]; exact hleft, fun h => by rw [List.drop_zero, ← hstep]; exact hw h⟩ ?_
        rintro k s m3 ⟨i, p3, q3, l3, st3', rfl, hi, ⟨t1, t2, t3, t4, t5, t6, t44, t45⟩, t46, t50, t51, t52, hm3, hleft3, hw3⟩ Q2 hn2 he2
        have hm30 := hm3
        obtain ⟨st3, hb3, kx3, hp3, ⟨F3, hJ3, hF3, f3P, f3Q, f3S, f3T, f3D, f3A⟩, hgo3⟩ := hm3
        simp [t51, t52]
        refine goB_split (fun h => ?_) fun h => ?_
        · have hlt : i < (Ls o).length := by simpa using h
          obtain ⟨x, hx⟩ : ∃ x, (Ls o)[i]? = some x := ⟨_, List.getElem?_eq_getElem hlt⟩
          have hxe : (encs (Ls o))[i]? = some (enc x) := by rw [encs_get, hx]; rfl
          have hxm : x ∈ Ls o := List.mem_of_getElem? hx
          have n3 : m.next ≤ m3.next := kx3.next
          obtain ⟨tl3, tv3, te3⟩ := st3.t
          obtain ⟨dl3, dv3, de3⟩ := st3.d
          have tne : T ≠ m3.next := by omega
          have dne : D ≠ m3.next := by omega
          simp [t50, t52, aindexAddr_lst Tryz.underlying23 tsize25 hxe (enc_cells_length x)]
          have zl : 6 ≤ zeroCells.length := by decide
          have zd : List.drop 6 zeroCells = [] := rfl
          have wd : IntKind.i64.wrap (deep + 1) = deep + 1 := IntWalk.i64_in _ (by omega)
          have k4 : Kp m3 ((m3.new zeroCells false).set m3.next (enc x).cells) := (Kp.new _ _ _).set (Nat.le_refl _) _
          have st4 := st3.kp k4
          have hJ4 := hJ.keep _ _ _ _ hJ3 (.of k4)
          have kc4 : KpC (tq F P Qq T) m ((m3.new zeroCells false).set m3.next (enc x).cells) := kx3.trans (.of (.of k4))
          have hb4 := hb3.kp k4
          simp [zl, zd, t1, t2, t3, t4, t5, t6, tne, dne, te3, de3, wd]
          cases st3' with
          | true =>
            simp
            refine he2 _ _ _ (by simp) ?_
            simp
            refine he _ _ _ (by simp) ?_
            simp
            exact fin _ p3 q3 l3 true ⟨st4, hb4, kc4, hp3, ⟨F3, hJ4, hF3, f3P, f3Q, f3S, f3T, f3D, f3A⟩, fun h => by cases h⟩ (by simpa [left] using hleft3) (fun h => by cases h) _ (by simp)
          | false =>
            simp [zl, zd, t1, t2, t3, t4, t5, t6, tne, dne, te3, de3, wd]
            have hdrop : (Ls o).drop i = x :: (Ls o).drop (i + 1) := by
              rw [List.drop_eq_getElem_cons hlt]
              obtain ⟨h1, h2⟩ := List.getElem?_eq_some_iff.1 hx
              rw [h2]
            have hw3' := hw3 rfl
            rw [← hw3', hdrop] at h0
            have h0x := (nxt_zero h0).1
            rw [wks] at h0x
            have h0y := (nxt_zero h0x).1
            refine goH_of (ih x (by have := size_mem hxm; omega) (fits_mem hfl hxm) (deep + 1) p3 q3 l3 F3 _ ⟨f3P, f3Q, f3S, f3T, f3D⟩ (by omega) (by have := hp3 rfl; omega) st4 hJ4 (hgo3 rfl) h0y) ?_
            rintro v m5 ⟨rfl, ⟨F5, hJ5, hF5⟩, kx5, p5, q5, st5, hpq5⟩
            have bA := hb3.1
            have hb5 := hb4.kc kx5 (by rintro (h | h | h | h) <;> first | exact f3A h | omega)
            have hF5m : ∀ i, F5 i → F3 i ∨ m3.next ≤ i := fun i hi => (hF5 i hi).imp id fun h => by simp at h; omega
            have old5 : ∀ j, j < m3.next → ¬ F3 j → ¬ F5 j := fun j h1 h2 h => (hF5m j h).elim h2 fun h => by omega
            have hF50 : ∀ i, F5 i → F i ∨ m.next ≤ i := fun i hi => by
              rcases hF5m i hi with h | h
              · exact hF3 i h
              · exact .inr (by omega)
            have hl3 : vis go' l (pre (.mk K N Sx M L Tx)) = vis go' l3 (pre x ++ (pres ((Ls o).drop (i + 1)) ++ rpre (o + 1))) := by
              have : left false l3 (pres ((Ls o).drop i) ++ rpre (o + 1)) := hleft3
              rw [hdrop] at this
              simpa [left, pres, List.append_assoc] using this
            rw [vis_append] at hl3
            have hwx := wk_ok x (deep + 1) p3 q3 h0y
            simp [t52]
            generalize hvx : vis go' l3 (pre x) = vx at hl3 hJ5 st5 hpq5
            obtain ⟨l5, b5⟩ := vx
            refine hn2 ((Ls o).length - (i + 1)) _ _ (by omega) ⟨i + 1, p5, q5, l5, b5, rfl, hlt, by simp [slots, t1, t2, t3, t4, t5, t6, t44, t45], by simp [t46], by simp [t50], by simp [t51], ?_, ⟨st5, hb5, tq_trans kc4 hF3 kx5, fun h => ?_, ⟨F5, hJ5, hF50, old5 P st3.p.1 f3P, old5 Qq st3.q.1 f3Q, old5 S st3.s.1 f3S, old5 T st3.t.1 f3T, old5 D st3.d.1 f3D, old5 _ bA f3A⟩, fun h => ?_⟩, hl3, fun h => ?_⟩
            · rw [at_set_eq, IntWalk.i64_in _ (by omega)]; rfl
            · have := hp3 rfl
              rw [(hpq5 h).1, hwx.1]
              omega
            · have := vis_end (go := go') (x := pre x) (l := l3) (by rw [hvx]; exact h) (hgo3 rfl)
              rw [hvx] at this
              exact this
            · obtain ⟨r1, r2⟩ := hpq5 h
              rw [← hw3', hdrop, wks]
              subst r1 r2
              simp only [nxt, h0y, if_true]
        · simp
          refine he2 _ _ _ (by simp) ?_
          have hle : i = (Ls o).length := by simp at h hi ⊢; omega
          rw [List.drop_eq_nil_of_le (by omega)] at hw3 hleft3
          simp [t46]
          refine hn (2 - (o + 1)) _ _ (by omega) ⟨o + 1, p3, q3, l3, st3', rfl, by omega, by simp [slots, t1, t2, t3, t4, t5, t6, t44, t45], ?_, hm30, by simpa [pres] using hleft3, fun h => by rw [← hw3 h]; simp [nxt, wks]⟩
          rw [at_set_eq, IntWalk.i64_in _ (by omega)]; rfl
      · simp
        refine he _ _ _ (by simp) ?_
        simp
        have ho2 : o = 2 := by simp at h; omega
        subst ho2
        exact fin _ p2 q2 l2 stp hmem0 hleft (fun h => hw h) _ (by simp)
set_option maxHeartbeats 4000000 in
/-- The walk, its parts shown. -/
theorem see43 {J : List Dat → (Nat → Prop) → Mem → Prop} {go' : List Dat → Bool} {fs : FuncId} {ca : List AV} (hJ : Sees J go' (.func fs) [] ca) (d : Dat) (hd : d.fits) (h0 : chk d = 0) (F : Nat → Prop) (m : Mem) (hJl : J [] F m) :
    wph Tryz.prog cw (.func 41) [enc d, .fn (.func fs) [] ca] m fun v m' => (∃ F', J (vis go' [] (pre d)).1 F' m' ∧ ∀ i, F' i → F i ∨ m.next ≤ i) ∧ KpC F m m' := by
  refine wph_go Tryz.func41 rfl rfl (by simp [Tryz.f41]) (by simp [Tryz.f41]) fun Q hQ => ?_
  simp only [Tryz.f41, show cw.keepRes 41 = false from rfl, show cw.keepArgs 41 = false from rfl] at hQ ⊢
  simp [Nat.add_assoc]
  obtain ⟨em, hem⟩ : ∃ em, em = (((((((((((m.new (enc d).cells false).new [AV.fn (Fn.func fs) [] ca] false).new [int 0] false).new [int 0] false).set (m.next + 2) [int 0]).set (m.next + 3) [int 0]).new [.sc (.bool false)] false).set (m.next + 4) [.sc (.bool false)]).new [.sc .nilFunc] false).set (m.next + 5) [.fn (.func 54) [] [.ptr (m.next + 2) 0, .ptr (m.next + 3) 0, .ptr (m.next + 1) 0, .ptr (m.next + 4) 0, .ptr (m.next + 5) 0]])) := ⟨_, rfl⟩
  have hk : Kp m em := by
    rw [hem]
    exact ((((((((((Kp.new _ _ _).newr _ _).newr _ _).newr _ _).set (by omega) _).set (by omega) _).newr _ _).set (by omega) _).newr _ _).set (by omega) _)
  rw [← hem]
  have hlt := hJ.lt _ _ _ hJl
  have hn : em.next = m.next + 6 := by rw [hem]; simp
  refine goH_of (see58 hJ (m.next + 2) (m.next + 3) (m.next + 1) (m.next + 4) (m.next + 5) (by omega) d.size d (Nat.le_refl _) hd 1 0 0 [] F em ⟨fun h => by have := hlt _ h; omega, fun h => by have := hlt _ h; omega, fun h => by have := hlt _ h; omega, fun h => by have := hlt _ h; omega, fun h => by have := hlt _ h; omega⟩ (by omega) (by omega) ⟨⟨by omega, ?_⟩, ⟨by omega, ?_⟩, ⟨by omega, ?_⟩, ⟨by omega, ?_⟩, ⟨by omega, ?_⟩⟩ (hJ.keep _ _ _ _ hJl (.of hk)) (.inl rfl) h0) ?_
  all_goals first
    | (rw [hem]; simp [Nat.add_assoc]; done)
    | skip
  rintro v m1 ⟨rfl, ⟨F', hJ', hF'⟩, kc, p', q', st, hpq⟩
  obtain ⟨pl, pv, pe⟩ := st.p
  obtain ⟨ql, qv, qe⟩ := st.q
  simp
  refine go_draw_of (by kernel_rfl) ?_
  simp [pe, qe]
  refine goM_nil (by kernel_rfl) ?_
  simp
  refine hQ _ _ _ ⟨.inr rfl, _, rfl, ?_⟩
  simp only [Bool.false_eq_true, if_false]
  simp [oneOf, fzr]
  refine ⟨⟨F', hJ', fun i hi => (hF' i hi).imp id fun h => by omega⟩, KpC.after hk kc ?_⟩
  rintro i hi (h | h | h | h)
  · exact h
  all_goals omega

/-- What a loop's body does with the parts that are told to it. -/
structure Tells (J : List Dat → (Nat → Prop) → Mem → Prop) (go : List Dat → Bool) (lo : Nat) : Prop where
  keep : ∀ l F m m', J l F m → KpX (fun i => ¬ F i) m m' → J l F m'
  lt : ∀ l F m, J l F m → ∀ i, F i → i < m.next
  see : ∀ l F m x, J l F m → (l = [] ∨ go l = true) → x.fits → wph Tryz.prog cw (.yield lo) [enc x] m fun v m' => v = .sc (.bool (go (l ++ [x]))) ∧ ∃ F', J (l ++ [x]) F' m' ∧ (∀ i, F' i → F i ∨ m.next ≤ i) ∧ KpC F m m'

/-- The loop's own, and the box that holds its body. -/
def withBox (J : List Dat → (Nat → Prop) → Mem → Prop) (lo yb : Nat) (l : List Dat) (F : Nat → Prop) (m : Mem) : Prop := ∃ F0, F = (fun i => F0 i ∨ i = yb) ∧ J l F0 m ∧ ¬ F0 yb ∧ has m yb [.yl lo]

set_option maxHeartbeats 4000000 in
/-- The closure that shows a part of its own. -/
theorem see53 {J : List Dat → (Nat → Prop) → Mem → Prop} {go' : List Dat → Bool} {lo yb : Nat} (hJ : Tells J go' lo) : Sees (withBox J lo yb) go' (.func 70) [] [.ptr yb 0] := by
  refine ⟨?_, ?_, ?_⟩
  · rintro l F m m' ⟨F0, rfl, a, b, c⟩ k
    exact ⟨F0, rfl, hJ.keep _ _ _ _ a (k.mono fun j _ h => fun h' => h (.inl h')), b, c.kept k (fun h => h (.inr rfl))⟩
  · rintro l F m ⟨F0, rfl, a, b, c⟩ i (h | rfl)
    · exact hJ.lt _ _ _ a i h
    · exact c.1
  rintro l F m x ⟨F0, rfl, a, b, c⟩ hgo hx
  refine wph_go Tryz.func70 rfl rfl (by simp [Tryz.f70]) (by simp [Tryz.f70]) fun Q hQ => ?_
  simp only [Tryz.f70, show cw.keepRes 70 = false from rfl, show cw.keepArgs 70 = false from rfl] at hQ ⊢
  obtain ⟨yl, yv, ye⟩ := c
  have yn : yb ≠ m.next := by omega
  simp
  refine go_draw_of (by kernel_rfl) ?_
  simp [ye, yn, (cw_gives (g47G x hx)).go]
  have k1 : Kp m (m.new (enc x).cells false) := .new _ _ _
  have hlt := hJ.lt _ _ _ a
  refine goH_of (hJ.see l F0 _ x (hJ.keep _ _ _ _ a (.of k1)) hgo hx) ?_
  rintro v m2 ⟨rfl, F', h1, h2, h3⟩
  simp
  refine goM_of (l := [(0, 2)]) (by kernel_rfl) (?_ : List.all _ _ = true) ?_
  · simp [metAt, metOk, rank, objOf, verKept, Region.wanted, Mem.ver, ye, yn]
  simp
  refine hQ _ _ _ (leave_sc (.inr rfl) at_set_eq ?_)
  simp at h2
  refine ⟨rfl, _, ⟨F', rfl, h1, fun h => (h2 _ h).elim b fun h => by omega, (show has _ yb [.yl lo] from ⟨by simp; omega, yv, by simp [yn, ye]⟩).kc h3 b⟩, ?_, ?_⟩
  · rintro i (h | rfl)
    · rcases h2 i h with h | h
      · exact .inl (.inl h)
      · exact .inr (by omega)
    · exact .inl (.inr rfl)
  · exact KpC.after k1 h3 fun i _ h => .inl h

set_option maxHeartbeats 4000000 in
/-- The closure of All. -/
theorem all52 {J : List Dat → (Nat → Prop) → Mem → Prop} {go' : List Dat → Bool} {lo db : Nat} (hJ : Tells J go' lo) (d : Dat) (hd : d.fits) (F : Nat → Prop) (m : Mem) (hJl : J [] F m) (hb : has m db (enc d).cells) (hF : ¬ F db) :
    wph Tryz.prog cw (.func 69) [.yl lo, .ptr db 0] m fun v m' => (∃ F', J (vis go' [] (if chk d = 0 then pre d else [])).1 F' m' ∧ ∀ i, F' i → F i ∨ m.next ≤ i) ∧ KpC F m m' := by
  refine wph_go Tryz.func69 rfl rfl (by simp [Tryz.f69]) (by simp [Tryz.f69]) fun Q hQ => ?_
  simp only [Tryz.f69, show cw.keepRes 69 = false from rfl, show cw.keepArgs 69 = false from rfl] at hQ ⊢
  obtain ⟨bl, bv, be⟩ := hb
  have bn : db ≠ m.next := by omega
  have hlt := hJ.lt _ _ _ hJl
  have k1 : Kp m (m.new [.yl lo] false) := .new _ _ _
  have hJ1 := hJ.keep _ _ _ _ hJl (.of k1)
  simp [be, bn, (cw_gives (g14 d hd)).go]
  by_cases h0 : chk d = 0
  · simp [h0, be, bn]
    refine goH_of (see43 (see53 (yb := m.next) hJ) d hd h0 _ _ ⟨F, rfl, hJ1, fun h => by have := hlt _ h; omega, ⟨by simp, m.clock + 1, by simp⟩⟩) ?_
    rintro v m2 ⟨⟨F', ⟨F0, rfl, h1, h2, h3⟩, h4⟩, h5⟩
    simp
    refine hQ _ _ _ ⟨.inl rfl, [], rfl, ?_⟩
    rw [if_pos h0]
    refine ⟨⟨F0, h1, fun i hi => ?_⟩, KpC.after k1 h5 ?_⟩
    · rcases h4 i (.inl hi) with (h | rfl) | h
      · exact .inl h
      · exact .inr (Nat.le_refl _)
      · exact .inr (by simp at h; omega)
    · rintro i hi (h | rfl)
      · exact h
      · omega
  · simp [h0]
    refine hQ _ _ _ ⟨.inl rfl, [], rfl, ?_⟩
    rw [if_neg h0]
    exact ⟨⟨F, hJ1, fun i hi => .inl hi⟩, .of (.of k1)⟩

/-- The parts that are told. -/
def parts (d : Dat) : List Dat := if chk d = 0 then pre d else []

theorem e30 (d : Dat) (m : Mem) : EH Tryz.prog cw (.func 52) [enc d] m (.fn (.func 69) [] [.ptr m.next 0]) (m.new (enc d).cells false) := by
  refine eh_of (wph_go Tryz.func52 rfl rfl (by simp [Tryz.f52]) (by simp [Tryz.f52]) fun Q hQ => ?_)
  simp only [Tryz.f52, show cw.keepRes 52 = false from rfl, show cw.keepArgs 52 = false from rfl] at hQ ⊢
  simp
  exact hQ _ _ _ ⟨.inr rfl, _, rfl, by simp [oneOf]⟩

theorem eqNilFn {x y : Operand} {f : Fn} {a b : List AV} : abin Tryz.prog .eql 101 x y (.fn f a b) (.sc .nilFunc) = some (.sc (.bool false)) := by
  have : nilTest Tryz.prog 101 (.fn f a b) (.sc .nilFunc) = some false := by
    unfold nilTest
    rw [Tryz.underlying101]
  simp [abin, plain, this]

theorem parts_fits {d : Dat} (h : d.fits) : fitss (parts d) := by
  unfold parts
  split
  · exact pre_fits d h
  · trivial

theorem acc_keptC {X : Nat → Prop} {m0 m m' : Mem} {k : Nat} {ag : Bool} {ys : List AV} {v : AV} (h : Acc m0 m k ag ys v) (kx : KpC X m m') (hx : ∀ j, owns v j → ¬ X j) : Acc m0 m' k ag ys v := by
  rcases h with h | ⟨h, id, w, rfl, h2, h3, h4⟩
  · exact .inl h
  · exact .inr ⟨h, id, w, rfl, h2, Nat.lt_of_lt_of_le h3 kx.next, by rw [kx.get id h3 (hx id rfl)]; exact h4⟩

end Go.Proofs.YtjiijacibpgciaaGreat
