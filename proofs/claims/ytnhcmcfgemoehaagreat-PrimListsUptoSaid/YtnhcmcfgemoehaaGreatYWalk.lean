import Derived.Test.YtnhcmcfgemoehaaGreatYAlone
/- Going through a datum. -/
set_option linter.unusedSimpArgs false
set_option linter.unusedVariables false
set_option linter.unusedSectionVars false
namespace Go.Proofs.YtnhcmcfgemoehaaGreat
set_option maxRecDepth 4000
open Go.V

/-- One goes on if there is no error. -/
def nxt (r : Int × Int × Int) (f : Int → Int → Int × Int × Int) : Int × Int × Int := if r.1 = 0 then f r.2.1 r.2.2 else r

mutual
/-- How far one gets: the error, the parts, the deepest. -/
def wk : Dat → Int → Int → Int → Int × Int × Int
  | .mk K N S M L T, deep, p, q =>
    if 64 < deep then (4, p, q) else if 4096 ≤ p then (3, p, q) else if alone (.mk K N S M L T) = false then (20, p, q) else
    nxt (wks L (deep + 1) (p + 1) (max q deep)) fun p q => wks T (deep + 1) p q
def wks : List Dat → Int → Int → Int → Int × Int × Int
  | [], _, p, q => (0, p, q)
  | d :: l, deep, p, q => nxt (wk d deep p q) fun p q => wks l deep p q
end

/-- What the walk's closure finds in its captured variables. -/
structure St (m : Mem) (P Q S T D : Nat) (p q : Int) : Prop where
  p : has m P [int p]
  q : has m Q [int q]
  s : has m S [.sc .nilFunc]
  t : has m T [.sc (.bool false)]
  d : has m D [.fn (.func 104) [] [.ptr P 0, .ptr Q 0, .ptr S 0, .ptr T 0, .ptr D 0]]

def two (P Q : Nat) (id : Nat) : Prop := id = P ∨ id = Q
theorem St.kp {m m' : Mem} {P Q S T D : Nat} {p q : Int} (h : St m P Q S T D p q) (k : Kp m m') : St m' P Q S T D p q := ⟨h.p.kp k, h.q.kp k, h.s.kp k, h.t.kp k, h.d.kp k⟩

theorem amax2 {t u T : TypeId} {a b : Int} {m : Mem} : abuiltin Tryz.prog .max #[t, u] T [int a, int b] m = some (int (max a b), m) := by
  show Option.map (·, m) (Option.map AV.sc (pureRun Tryz.prog (Builtin.max_ #[t, u] T [Value.int .i64 a, Value.int .i64 b].toArray))) = _
  have : pureRun Tryz.prog (Builtin.max_ #[t, u] T [Value.int .i64 a, Value.int .i64 b].toArray) = some (.int .i64 (if b > a then b else a)) := rfl
  rw [this]
  have : (if b > a then b else a) = max a b := by simp only [Int.max_def]; split <;> split <;> omega
  rw [this]
  rfl
theorem neqNil {x y : Operand} : abin Tryz.prog .neq 159 x y (.sc .nilFunc) (.sc .nilFunc) = some (.sc (.bool false)) := by
  show Option.map AV.sc (pureRun Tryz.prog (do eqGuard .neq 159 x y .nilFunc .nilFunc; binOp .neq 159 .nilFunc .nilFunc)) = _
  kernel_rfl

set_option maxHeartbeats 4000000 in
theorem g58 (P Qq S T D : Nat) (hd : P ≠ Qq ∧ P ≠ S ∧ P ≠ T ∧ P ≠ D ∧ Qq ≠ S ∧ Qq ≠ T ∧ Qq ≠ D) : ∀ (n : Nat) (d : Dat), d.size ≤ n → d.fits → ∀ (deep p q : Int) (m : Mem), 0 ≤ deep ∧ deep ≤ 1000 → 0 ≤ p → St m P Qq S T D p q →
    wph Tryz.prog cf (.func 104) [enc d, int deep, .ptr P 0, .ptr Qq 0, .ptr S 0, .ptr T 0, .ptr D 0] m fun v m' => v = int (wk d deep p q).1 ∧ St m' P Qq S T D (wk d deep p q).2.1 (wk d deep p q).2.2 ∧ p ≤ (wk d deep p q).2.1 ∧ KpX (two P Qq) m m' := by
  intro n
  induction n with
  | zero => intro d hs; cases d; simp [Dat.size] at hs
  | succ n ih =>
    intro d hs hfit deep p q m hdeep hp hst
    obtain ⟨K, N, Sx, M, L, Tx⟩ := d
    obtain ⟨d1, d2, d3, d4, d5, d6, d7⟩ := hd
    refine wph_go Tryz.func104 rfl rfl (by simp [Tryz.f104]) (by simp [Tryz.f104]) fun Q hQ => ?_
    simp only [Tryz.f104, show cf.keepRes 104 = false from rfl, show cf.keepArgs 104 = false from rfl] at hQ ⊢
    simp only [enc]
    obtain ⟨pl, pv, pe⟩ := hst.p
    obtain ⟨ql, qv, qe⟩ := hst.q
    have pn : P ≠ m.next := by omega
    by_cases e1 : 64 < deep
    · simp [e1]
      refine hQ _ _ _ (leave_sc (.inr rfl) at_set_eq ?_)
      refine ⟨by simp [wk, e1], ?_, by simp [wk, e1], (KpX.refl _ _).new _ _⟩
      simpa [wk, e1] using hst.kp (.new _ _ _)
    by_cases e2 : 4096 ≤ p
    · simp [e1, pe, pn, e2]
      refine hQ _ _ _ (leave_sc (.inr rfl) at_set_eq ?_)
      refine ⟨by simp [wk, e1, e2], ?_, by simp [wk, e1, e2], (KpX.refl _ _).new _ _⟩
      simpa [wk, e1, e2] using hst.kp (.new _ _ _)
    simp [e1, pe, pn, e2]
    refine goH_gives (g59 (alone_fits hfit)) (fun m1 k1 => ?_) (by simp [enc])
    have st1 : St m1 P Qq S T D p q := (hst.kp (.new _ _ _)).kp k1
    have kx1 : KpX (two P Qq) m m1 := ((KpX.refl _ _).new _ _).trans (.of k1)
    have b1 := k1.get m.next (by simp)
    simp at b1
    cases ha : alone (.mk K N Sx M L Tx) with
    | false =>
      simp
      refine hQ _ _ _ (leave_sc (.inr rfl) at_set_eq ?_)
      refine ⟨by simp [wk, e1, e2, ha], ?_, by simp [wk, e1, e2, ha], kx1⟩
      simpa [wk, e1, e2, ha] using st1
    | true =>
      obtain ⟨pl1, pv1, pe1⟩ := st1.p
      obtain ⟨ql1, qv1, qe1⟩ := st1.q
      obtain ⟨sl1, sv1, se1⟩ := st1.s
      obtain ⟨tl1, tv1, te1⟩ := st1.t
      have w1 : IntKind.i64.wrap (p + 1) = p + 1 := IntWalk.i64_in _ (by omega)
      have n1 : m.next < m1.next := by have := k1.next; simp at this; omega
      have d1' := Ne.symm d1
      have d2' := Ne.symm d2
      have d3' := Ne.symm d3
      have d5' := Ne.symm d5
      have d6' := Ne.symm d6
      have q1 : m.next ≠ P := by omega
      have q2 : m.next ≠ Qq := by omega
      simp [pe1, qe1, se1, te1, w1, d1, d1', d2, d2', d3, d3', d5, d5', d6, d6', amax2, neqNil, b1, q1, q2, abuildSlice, fillAt, zeros]
      have hL : fitss L := by rw [Dat.fits] at hfit; exact hfit.2.1
      have hT : fitss Tx := by rw [Dat.fits] at hfit; exact hfit.2.2
      have hsz : sizes L ≤ n ∧ sizes Tx ≤ n := by rw [Dat.size] at hs; omega
      -- what is left to do with the o-th list
      let Ls : Nat → List Dat := fun o => if o = 0 then L else Tx
      let rem : Nat → Int → Int → Int × Int × Int := fun o p q => if o = 0 then nxt (wks L (deep + 1) p q) fun p q => wks Tx (deep + 1) p q else if o = 1 then wks Tx (deep + 1) p q else (0, p, q)
      have hrem : wk (.mk K N Sx M L Tx) deep p q = rem 0 (p + 1) (max q deep) := by
        simp [wk, e1, e2, ha, rem]
      let slots : Sl → Prop := fun s => s.at 1 = int deep ∧ s.at 2 = .ptr P 0 ∧ s.at 3 = .ptr Qq 0 ∧ s.at 4 = .ptr S 0 ∧ s.at 5 = .ptr T 0 ∧ s.at 6 = .ptr D 0 ∧ s.at 44 = .sl m1.next 0 2 1 false (some 2) ∧ s.at 45 = int 2
      let mems : Mem → Int → Int → Prop := fun m' p' q' => St m' P Qq S T D p' q' ∧ has m' m1.next [.lst (encs L), .lst (encs Tx)] ∧ KpX (two P Qq) m m' ∧ p ≤ p'
      refine go_loop (fun k s m' => ∃ (o : Nat) (p' q' : Int), k = 2 - o ∧ o ≤ 2 ∧ slots s ∧ s.at 46 = int o ∧ mems m' p' q' ∧ wk (.mk K N Sx M L Tx) deep p q = rem o p' q') 2 ⟨0, p + 1, max q deep, rfl, by omega, by simp [slots], by simp, ?_, hrem⟩ ?_
      · have stx : ∀ m' : Mem, m' = ((m1.set P [int (p + 1)]).set Qq [int (max q deep)]).new [.lst (encs L), .lst (encs Tx)] false → mems m' (p + 1) (max q deep) := by
          rintro m' rfl
          have kk : KpX (two P Qq) m1 (((m1.set P [int (p + 1)]).set Qq [int (max q deep)]).new [.lst (encs L), .lst (encs Tx)] false) := (((KpX.refl _ _).set (.inl rfl) _).set (.inr rfl) _).new _ _
          have nP : P ≠ m1.next := by omega
          have nQ : Qq ≠ m1.next := by omega
          refine ⟨⟨⟨by simp; omega, ?_⟩, ⟨by simp; omega, ?_⟩, st1.s.kept kk (by unfold two; omega), st1.t.kept kk (by unfold two; omega), st1.d.kept kk (by unfold two; omega)⟩, ⟨by simp, ?_⟩, kx1.trans kk, by omega⟩
          · simp [nP, d1]
          · simp [nQ]
          · simp
        exact stx _ rfl
      · rintro k s m2 ⟨o, p2, q2, rfl, ho, hsl, h46, hmem, hw⟩ Q' hn he
        obtain ⟨s1, s2, s3, s4, s5, s6, s44, s45⟩ := hsl
        obtain ⟨st2, hb2, kx2, hp2⟩ := hmem
        obtain ⟨bl2, bv2, be2⟩ := hb2
        simp [s45, h46]
        refine goB_split (fun h => ?_) fun h => ?_
        · have ho2 : o < 2 := by simp at h; omega
          have ix : aindexAddr Tryz.prog 161 (.sl m1.next 0 2 1 false (some 2)) (int o) = some (.ptr m1.next (0 + o * 1)) := aindexAddr_sl Tryz.underlying161 tsize43 ho2
          have gx : ([AV.lst (encs L), .lst (encs Tx)] : List AV)[o]? = some (.lst (encs (Ls o))) := by
            rcases (by omega : o = 0 ∨ o = 1) with rfl | rfl <;> simp [Ls]
          simp [s44, h46, ix, be2, gx]
          have hstep : ∀ p q, rem o p q = nxt (wks (Ls o) (deep + 1) p q) fun p q => rem (o + 1) p q := by
            intro p q
            rcases (by omega : o = 0 ∨ o = 1) with rfl | rfl
            · simp [rem, Ls]
            · simp only [rem, Ls, nxt]
              simp
              intro h0
              rw [← h0]
          have hfl : fitss (Ls o) := by
            rcases (by omega : o = 0 ∨ o = 1) with rfl | rfl <;> simp [Ls, hL, hT]
          have hlen : (Ls o).length < 2 ^ 21 := by
            have := alone_fits hfit
            rcases (by omega : o = 0 ∨ o = 1) with rfl | rfl
            · exact this.l
            · exact this.t
          have hsl : sizes (Ls o) ≤ n := by
            rcases (by omega : o = 0 ∨ o = 1) with rfl | rfl <;> simp [Ls, hsz.1, hsz.2]
          refine go_loop (fun k s m' => ∃ (i : Nat) (p' q' : Int), k = (Ls o).length - i ∧ i ≤ (Ls o).length ∧ slots s ∧ s.at 46 = int o ∧ s.at 50 = .lst (encs (Ls o)) ∧ s.at 51 = int (Ls o).length ∧ s.at 52 = int i ∧ mems m' p' q' ∧ wk (.mk K N Sx M L Tx) deep p q = nxt (wks ((Ls o).drop i) (deep + 1) p' q') fun p q => rem (o + 1) p q) (Ls o).length ⟨0, p2, q2, rfl, by omega, by simp [slots, s1, s2, s3, s4, s5, s6, s44, s45], by simp [h46], by simp, by simp, by simp, ⟨st2, ⟨bl2, bv2, be2⟩, kx2, hp2⟩, by rw [List.drop_zero, hw, hstep]⟩ ?_
          rintro k s m3 ⟨i, p3, q3, rfl, hi, ⟨t1, t2, t3, t4, t5, t6, t44, t45⟩, t46, t50, t51, t52, ⟨st3, hb3, kx3, hp3⟩, hw3⟩ Q2 hn2 he2
          simp [t51, t52]
          refine goB_split (fun h => ?_) fun h => ?_
          · have hlt : i < (Ls o).length := by simpa using h
            obtain ⟨x, hx⟩ : ∃ x, (Ls o)[i]? = some x := ⟨_, List.getElem?_eq_getElem hlt⟩
            have hxe : (encs (Ls o))[i]? = some (enc x) := by rw [encs_get, hx]; rfl
            have hxm : x ∈ Ls o := List.mem_of_getElem? hx
            have n3 : m.next ≤ m3.next := kx3.next
            obtain ⟨tl3, tv3, te3⟩ := st3.t
            obtain ⟨dl3, dv3, de3⟩ := st3.d
            have tne : T ≠ m3.next := by omega
            have dne : D ≠ m3.next := by omega
            simp [t50, t52, aindexAddr_lst Tryz.underlying43 tsize56 hxe (enc_cells_length x)]
            have zl : 6 ≤ zeroCells.length := by decide
            have zd : List.drop 6 zeroCells = [] := rfl
            have wd : IntKind.i64.wrap (deep + 1) = deep + 1 := IntWalk.i64_in _ (by omega)
            simp [zl, zd, t1, t2, t3, t4, t5, t6, tne, dne, te3, de3, wd]
            have st4 : St ((m3.new zeroCells false).set m3.next (enc x).cells) P Qq S T D p3 q3 := st3.kp ((Kp.new _ _ _).set (Nat.le_refl _) _)
            refine goH_of (ih x (by have := size_mem hxm; omega) (fits_mem hfl hxm) (deep + 1) p3 q3 _ (by omega) (by omega) st4) ?_
            rintro v m5 ⟨rfl, st5, hp5, kx5⟩
            have hdrop : (Ls o).drop i = x :: (Ls o).drop (i + 1) := by
              rw [List.drop_eq_getElem_cons hlt]
              obtain ⟨h1, h2⟩ := List.getElem?_eq_some_iff.1 hx
              rw [h2]
            rw [hdrop, wks] at hw3
            rcases hwx : wk x (deep + 1) p3 q3 with ⟨e, p4, q4⟩
            rw [hwx] at hw3 st5 hp5
            dsimp only at hw3 st5 hp5
            have kx5' : KpX (two P Qq) m m5 := (kx3.trans (((KpX.refl _ _).new _ _).setn (Nat.le_refl _) _)).trans kx5
            have hb5 : has m5 m1.next [.lst (encs L), .lst (encs Tx)] := (hb3.kp ((Kp.new _ _ _).set (Nat.le_refl _) _)).kept kx5 (by unfold two; omega)
            by_cases he0 : e = 0
            · subst he0
              simp [t52]
              refine hn2 ((Ls o).length - (i + 1)) _ _ (by omega) ⟨i + 1, p4, q4, rfl, hlt, by simp [slots, t1, t2, t3, t4, t5, t6, t44, t45], by simp [t46], by simp [t50], by simp [t51], ?_, ⟨st5, hb5, kx5', by omega⟩, hw3⟩
              rw [at_set_eq, IntWalk.i64_in _ (by omega)]; rfl
            · simp [he0]
              refine he2 _ _ _ (by simp) ?_
              simp
              refine he _ _ _ (by simp) ?_
              simp
              have hw4 : wk (.mk K N Sx M L Tx) deep p q = (e, p4, q4) := by rw [hw3]; simp [nxt, he0]
              refine hQ _ _ _ (leave_sc (.inr rfl) at_set_eq ?_)
              rw [hw4]
              exact ⟨rfl, st5, by dsimp only; omega, kx5'⟩
          · simp
            refine he2 _ _ _ (by simp) ?_
            have hle : i = (Ls o).length := by simp at h hi ⊢; omega
            rw [List.drop_eq_nil_of_le (by omega)] at hw3
            simp [t46]
            refine hn (2 - (o + 1)) _ _ (by omega) ⟨o + 1, p3, q3, rfl, by omega, by simp [slots, t1, t2, t3, t4, t5, t6, t44, t45], ?_, ⟨st3, hb3, kx3, hp3⟩, by rw [hw3]; simp [nxt, wks]⟩
            rw [at_set_eq, IntWalk.i64_in _ (by omega)]; rfl
        · simp
          refine he _ _ _ (by simp) ?_
          simp
          have ho2 : o = 2 := by simp at h; omega
          subst ho2
          refine hQ _ _ _ (leave_sc (.inr rfl) at_set_eq ?_)
          rw [hw]
          exact ⟨rfl, st2, hp2, kx2⟩
end Go.Proofs.YtnhcmcfgemoehaaGreat
