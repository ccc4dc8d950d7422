import Derived.Test.YtnhcmcfgemoehaaPMk
/- PrimNumbers: the walk. -/
set_option linter.unusedSimpArgs false
set_option linter.unusedVariables false
set_option linter.unusedSectionVars false
namespace Go.Proofs.Ytnhcmcfgemoehaa
open Go.V
attribute [local simp] Nat.add_assoc
theorem quo_law {x y : Int} (h : (quoR x y).2 = 0) : isIn x = true ∧ isIn y = true ∧ y ≠ 0 ∧ (quoR x y).1 = x.tdiv y ∧ isIn (x.tdiv y) = true ∧ (remR x y) = (x.tmod y, 0) ∧ isIn (x.tdiv y * y) = true ∧ isIn (x.tmod y) = true ∧ x.tdiv y * y + x.tmod y = x := by
  have hp : prtR x y = 0 := by
    unfold quoR at h
    split at h
    · assumption
    · simp only at h; rename_i h0; exact absurd h h0
  obtain ⟨h1, h2, h3⟩ := prt_zero hp
  have hq : isIn (x.tdiv y) = true := by
    unfold quoR at h
    rw [if_pos hp] at h
    split at h
    · assumption
    · cases h
  have e1 : quoR x y = (x.tdiv y, 0) := by unfold quoR; rw [if_pos hp, if_pos hq]
  have e2 : remR x y = (x.tmod y, 0) := by unfold remR; rw [if_pos hp]
  have e3 : x.tdiv y * y + x.tmod y = x := by rw [Int.mul_comm]; exact Int.mul_tdiv_add_tmod x y
  have i1 := isIn_iff.1 h1
  have ab : (x.tmod y).natAbs ≤ x.natAbs := by rw [Int.natAbs_tmod]; exact Nat.mod_le _ _
  have sg : (0 ≤ x → 0 ≤ x.tmod y) ∧ (x ≤ 0 → x.tmod y ≤ 0) := by
    refine ⟨fun hx => Int.tmod_nonneg y hx, fun hx => ?_⟩
    have := Int.tmod_nonneg y (show 0 ≤ -x by omega)
    rw [Int.neg_tmod] at this
    omega
  have bd : (0 ≤ x ∧ 0 ≤ x.tmod y ∧ x.tmod y ≤ x) ∨ (x ≤ 0 ∧ x.tmod y ≤ 0 ∧ x ≤ x.tmod y) := by
    rcases Int.le_total 0 x with hx | hx
    · have := sg.1 hx; exact .inl ⟨hx, this, by omega⟩
    · have := sg.2 hx; exact .inr ⟨hx, this, by omega⟩
  refine ⟨h1, h2, h3, by rw [e1], hq, e2, isIn_iff.2 (by omega), isIn_iff.2 (by omega), e3⟩
theorem kd_zero {e : Int} (h : kdOf e = 0) : e = 0 := by
  unfold kdOf at h
  split at h
  · assumption
  · split at h
    · cases h
    · split at h <;> cases h
/-- A slice of two numbers, as a list that never changes. -/
theorem fz_pair {A : Nat} {p : Int} {M : Mem} {i v : Nat} {t1 n1 t2 n2 : Int} {f : Bool} {c : Option Nat} (h : M.get i = some (.cells [int t1, int n1, int t2, int n2] f v)) : fzvs M [.ptr A 0, int p, .sl i 0 2 2 true c] = ([.ptr A 0, int p, .lst [.agg [int t1, int n1], .agg [int t2, int n2]]], M.mark i [int t1, int n1, int t2, int n2] v) := by
  simp [fzvs, fz1, h, chunk]
theorem nums_row (l : List Int) : ∀ y ∈ l.map numA, y.cells.length = 2 ∧ (if true then AV.agg y.cells = y else y.cells = [y]) := by
  intro y hy
  obtain ⟨p, _, rfl⟩ := List.mem_map.1 hy
  simp [numA]
theorem fz_nums {A : Nat} {p : Int} {M : Mem} {i v : Nat} {l : List Int} {f : Bool} {c : Option Nat} (h : M.get i = some (.cells (flat (l.map numA)) f v)) : fzvs M [.ptr A 0, int p, .sl i 0 l.length 2 true c] = ([.ptr A 0, int p, .lst (l.map numA)], M.mark i (flat (l.map numA)) v) := by
  have := fz1_row (k := 2) (ag := true) (cap := c) (id := i) (ys := l.map numA) rfl h (nums_row l) (nums_ok l)
  rw [List.length_map] at this
  simp [fzvs, fzv, this]
/-- Two numbers. -/
theorem do2 {A M : Nat} {p x y t n k le mo : Int} {nm : List UInt8} {m : Mem} {i v : Nat} {c : Option Nat} {b : Bool} (hb : (isIn x && isIn y) = b) (hg : m.get i = some (.cells [int 1, int x, int 1, int y] false v)) (hi : i ≠ A) (hi2 : i < m.next) (hp : numP p) (hr : rowOf p = (nm, le, mo)) (hnm : nm ≠ []) (h1 : le ≤ 2) (h2 : mo < 0 ∨ 2 ≤ mo) (hA : Ar A M m) (hd : b = true → Mk 30 p [x, y] t n k) :
    EH Try.prog cp (.func 7) [.ptr A 0, int p, .sl i 0 2 2 true c] m (.tup [.agg [int (if b && decide (k = 0) then t else 0), int (if b && decide (k = 0) then n else 0)], int (if b then k else 1)]) (m.mark i [int 1, int x, int 1, int y] v) := by
  refine e7 (l := [x, y]) (M := M) (fz_pair hg) hp (by simp) hr hnm (by simpa using h1) (by simpa using h2) ?_ (by simpa using hb) hd
  exact ⟨hA.a, hA.b, by obtain ⟨w, hw⟩ := hA.get; exact ⟨w, by rw [Mem.get_mark, if_neg (fun e => hi e.symm)]; exact hw⟩, by simpa using hA.map⟩
theorem app1 {mm : Mem} {id i v : Nat} {n : Int} {c : Option Nat} {ys : List AV} (hg : mm.get id = some (.cells (flat ys) false v)) (hlen : (flat ys).length = i * 2) (hc0 : i = 0 → c = some 0 ∧ ys = []) (hc1 : i ≠ 0 → c = none) (hi : i ≤ 1000) :
    ∃ m3, aappend Try.prog 33 (.sl id 0 i 2 true c) none (some [numA n]) mm = some (.sl mm.next 0 (i + 1) 2 true none, m3) ∧ m3.next = mm.next + 1 ∧ (∃ w, m3.get mm.next = some (.cells (flat (ys ++ [numA n])) false w)) ∧ (∀ j, j < mm.next → j ≠ id → m3.get j = mm.get j) ∧ XK mm m3 := by
  have hz : fzvs mm [numA n] = ([numA n], mm) := by simp [fzvs, numA]
  have ho : okAll 2 [numA n] = true := by simp [okAll_cons, okAll_nil, numA]
  rcases Nat.eq_zero_or_pos i with h0 | h0
  · obtain ⟨rfl, rfl⟩ := hc0 h0
    subst h0
    refine ⟨_, aapp_full el33 (List.cons_ne_nil _ _) ho hz hg (Nat.le_of_ble_eq_true rfl), by simp, ⟨mm.clock + 1, by simp⟩, fun j hj _ => ?_, (XK.refl _).same rfl rfl⟩
    rw [Mem.get_new, if_neg (by omega)]
  · obtain rfl := hc1 (by omega)
    refine ⟨_, aapp_row el33 (List.cons_ne_nil _ _) ho hz hg hlen (Nat.le_trans (show i + 1 ≤ 1001 by omega) (Nat.le_of_ble_eq_true rfl)), by simp, ⟨mm.clock + 1, by simp [flat_append]⟩, fun j hj hn => ?_, (XK.refl _).same rfl rfl⟩
    rw [Mem.get_new, if_neg (by simp; omega), Mem.get_kill, if_neg hn]
theorem fz_cont {M : Mem} {i v : Nat} {l : List Int} {f : Bool} {c : Option Nat} {u : Int} (h : M.get i = some (.cells (flat (l.map numA)) f v)) : fzvs M [.sl i 0 l.length 2 true c, numA u] = ([.lst (l.map numA), numA u], M.mark i (flat (l.map numA)) v) := by
  have := fz1_row (k := 2) (ag := true) (cap := c) (id := i) (ys := l.map numA) rfl h (nums_row l) (nums_ok l)
  rw [List.length_map] at this
  simp [fzvs, fzv, this, numA, fzs]
theorem least_great {p : Int} (hp : p = 51 ∨ p = 52) (x : Int) (r : List Int) (hr : r.length ≤ 999) : ∃ u, Mk 30 p (x :: r) 1 u 0 ∧ u ∈ x :: r := by
  rcases hp with rfl | rfl
  · exact ⟨_, mk51 hr, min_mem r x⟩
  · exact ⟨_, mk52 hr, max_mem r x⟩
theorem row_lg {p : Int} (hp : p = 51 ∨ p = 52) : ∃ nm, rowOf p = (nm, 1, -1) ∧ nm ≠ [] := by
  rcases hp with rfl | rfl
  · exact ⟨_, row51, by simp⟩
  · exact ⟨_, row52, by simp⟩
theorem goH_gv {N : Nat} {Q : Ex → Sl → Mem → Prop} {f : FuncId} {args a0 : List AV} {d : Option Tmp} {k : List It} {s : Sl} {m m1 : Mem} {r : AV} (h : Gives Try.prog cp f args r) (hz : fzvs m a0 = (args, m1)) (hk : goP Try.prog cp N Q (aput N s d r) k m1) : goH Try.prog cp N Q (.func f) a0 d k s m := by
  rw [h.goF hz]; exact hk
theorem goH_eh {N : Nat} {Q : Ex → Sl → Mem → Prop} {fn : Fn} {args : List AV} {d : Option Tmp} {k : List It} {s : Sl} {m m' : Mem} {r : AV} (h : EH Try.prog cp fn args m r m') (hk : goP Try.prog cp N Q (aput N s d r) k m') : goH Try.prog cp N Q fn args d k s m := by
  rw [h.go]; exact hk
set_option maxRecDepth 20000 in
set_option maxHeartbeats 8000000 in
theorem g3 (x y : Int) (l : List Int) : Gives Try.prog cp 3 [int x, int y, .lst (l.map int)] (.sc (.bool true)) := by
  refine gives_run Try.func3 rfl rfl rfl rfl (by simp) (by simp [Try.f3]) (by simp [Try.f3]) fun m => ?_
  simp only [Try.f3, show cp.keepRes 3 = false from rfl]
  simp [(e5 m).go, (g6 _).go]
  rcases Classical.em (100 < l.length) with hl | hl
  · have hl' : (100 : Int) < l.length := by omega
    simp [hl, hl', (g6 _).go]
  · have hl' : ¬ (100 : Int) < l.length := by omega
    simp [hl, hl', (a8 _).go, abuildSlice, placesOf, fillAt, zeros]
    have hA := ar_new m
    have kp1 : Kp m (m.newMap.new [int 9, .emp 0, .emp 0, .mp m.next] false) := by simp
    have n1 : (m.newMap.new [int 9, .emp 0, .emp 0, .mp m.next] false).next = m.next + 2 := by simp
    generalize m.newMap.new [int 9, .emp 0, .emp 0, .mp m.next] false = m1 at *
    obtain ⟨b, hb⟩ : ∃ b, (isIn x && isIn y) = b := ⟨_, rfl⟩
    refine goH_eh (do2 (M := m.next) (v := m1.clock + 1) hb (by simp [n1]) (by omega) (by simp [n1]) (by simp [numP]) row3 (by simp) (by omega) (by omega) (hA.kp (by simp)) fun _ => mk3 x y) ?_
    simp [n1, (a8 _).go, abuildSlice, placesOf, fillAt, zeros]
    refine goH_eh (do2 (M := m.next) (v := m1.clock + 4) hb (by simp [n1]) (by omega) (by simp [n1]) (by simp [numP]) row4 (by simp) (by omega) (by omega) (hA.kp (by simp [n1])) fun _ => mk4 x y) ?_
    simp [n1]
    rcases Classical.em ((quoR x y).2 = 0) with hq | hq
    focus
      obtain ⟨c1, c2, c3, c4, c5, c6, c7, c8, c9⟩ := quo_law hq
      have hbt : b = true := by rw [← hb, c1, c2]; rfl
      subst hbt
      simp [hq, c4, c6, show kdOf 0 = 0 from rfl]
      refine go_drawD (by kernel_rfl) ?_
      simp [n1, (a8 _).go, abuildSlice, placesOf, fillAt, zeros]
      refine goH_eh (do2 (M := m.next) (b := true) (x := x.tdiv y) (y := y) (by rw [c5, c2]; rfl) (by simp [n1]; rfl) (by omega) (by simp [n1]) (by simp [numP]) row2 (by simp) (by omega) (by omega) (hA.kp (by simp [n1])) fun _ => mk2 c5 c2 c7) ?_
      simp [n1]
      refine goM_of (l := [(1, 3), (1, 9)]) (by kernel_rfl) (?_ : List.all _ _ = true) ?_
      · simp [metAtD, metOkD, rank, verKeptD, Region.wanted, Mem.ver, n1]
      simp [n1, abuildSlice, placesOf, fillAt, zeros]
      refine goH_eh (do2 (M := m.next) (b := true) (x := x.tdiv y * y) (y := x.tmod y) (by rw [c7, c8]; rfl) (by simp [n1]; rfl) (by omega) (by simp [n1]) (by simp [numP]) row0 (by simp) (by omega) (by omega) (hA.kp (by simp [n1])) fun _ => mk0 c7 c8 (by rw [c9]; exact c1)) ?_
      simp [n1]
      refine go_drawD (by kernel_rfl) ?_
      simp [n1, (a8 _).go, num_neq, c9]
      refine goM_of (l := [(11, 13)]) (by kernel_rfl) (?_ : List.all _ _ = true) ?_
      · simp [metAtD, metOkD, rank, verKeptD, Region.wanted, Mem.ver, n1]
      simp [n1, abuildSlice, placesOf, fillAt, zeros]
      obtain ⟨Z, hZ⟩ : ∃ Z, Z = m.next + 10 := ⟨_, rfl⟩
    rotate_left
    focus
      have hk : (if b = true then kdOf (quoR x y).2 else 1) ≠ 0 := by
        intro h
        cases b
        · simp at h
        · simp at h; exact hq (kd_zero h)
      simp [n1, hk, abuildSlice, placesOf, fillAt, zeros]
      obtain ⟨Z, hZ⟩ : ∃ Z, Z = m.next + 6 := ⟨_, rfl⟩
    all_goals
      refine go_count 98 l.length (fun i s' m' => Kp m1 m' ∧ ∃ id c v, s'.at 17 = .sl id 0 i 2 true c ∧ m1.next ≤ id ∧ id < m'.next ∧ m'.get id = some (.cells (flat ((l.take i).map numA)) false v) ∧ (i = 0 → c = some 0) ∧ (i ≠ 0 → c = none)) (by simp) (by omega) ⟨by simp [n1], Z, some 0, _, by simp [hZ], by omega, by simp [n1, hZ], by simp [n1, hZ, flat_nil]; rfl, fun _ => rfl, fun h => absurd rfl h⟩ ?_
      rintro i s' m' hi e98 ⟨hkp, id, c, v, e17, g1, g2, g3, g4, g5⟩ hsame hw Q' hn he
      have e7' : s'.at 7 = .ptr (m.next + 1) 0 := (hsame 7 (by kernel_rfl)).trans (by simp)
      have e96 : s'.at 96 = .lst (l.map int) := (hsame 96 (by kernel_rfl)).trans (by simp)
      have e97 : s'.at 97 = int l.length := (hsame 97 (by kernel_rfl)).trans (by simp)
      clear hsame
      simp [e98, e97]
      refine goB_split (fun h => ?_) fun h => ?_
      · have hlt2 : i < l.length := by have := of_decide_eq_true h; omega
        obtain ⟨n, hp⟩ : ∃ n, l[i]? = some n := ⟨_, List.getElem?_eq_getElem hlt2⟩
        have hx := aindexAddr_lst (q := .i64) (x := int n) (l := l.map int) (i := i) Try.underlying22 tsize2 (by rw [List.getElem?_map, hp]; rfl) (by simp)
        have hsrc := src_one (m := m'.new (numA n).cells false) (id := m'.next) (c := some 1) (k := 2) (ag := true) (x := numA n) (w := m'.clock + 1) (f := false) rfl (by simp [numA]) (by simp [numA]) (by simp [numA])
        have hlen : (flat ((l.take i).map numA)).length = i * 2 := by rw [flat_length (nums_ok _), List.length_map, List.length_take]; rw [Nat.min_eq_left (by omega)]
        obtain ⟨m3, q1, q2, ⟨w3, q3⟩, q4, q5⟩ := app1 (mm := m'.new (numA n).cells false) (id := id) (i := i) (v := v) (n := n) (c := c) (ys := (l.take i).map numA) (by rw [Mem.get_new, if_neg (by omega)]; exact g3) hlen (fun h => ⟨g4 h, by subst h; rfl⟩) g5 (by omega)
        have k3 : Kp m1 m3 := by
          have := hkp.next
          refine ⟨by simp at q2; omega, fun j hj => ?_, fun j hj => ?_⟩
          · rw [q4 j (by simp; omega) (by omega), Mem.get_new, if_neg (by omega)]
            exact hkp.get j hj
          · have a2 := q5 j (by simp; omega)
            have a3 := hkp.x j hj
            simp at a2
            exact ⟨a2.1.trans a3.1, a2.2.trans a3.2⟩
        have etk : (l.take (i + 1)).map numA = (l.take i).map numA ++ [numA n] := by
          obtain ⟨h1, h2⟩ := List.getElem?_eq_some_iff.1 hp
          rw [List.take_succ_eq_append_getElem h1, h2, List.map_append]
          rfl
        rw [← etk] at q3
        simp [numA] at q1 q2 hsrc
        simp at q3
        simp [e98, e96, e17, hx, (a8 _).go, abuildSlice, placesOf, fillAt, zeros, hsrc, q1, hw]
        refine hn _ _ hlt2 (by simp) ⟨k3, m'.next + 1, none, w3, by simp, by have := hkp.next; omega, by omega, by simpa using q3, fun h => absurd h (by omega), fun _ => rfl⟩
      · have hge : i = l.length := by have := of_decide_eq_false h; omega
        subst hge
        rw [List.take_length] at g3
        simp
        refine he _ _ _ (by simp) ?_
        simp [abuildSlice, placesOf, fillAt, zeros]
        have hidn : id ≠ m'.next := by omega
        refine go_count 110 2 (fun j s2 m2 => Kp m1 m2 ∧ m'.next < m2.next ∧ (∃ v f, m2.get id = some (.cells (flat (l.map numA)) f v)) ∧ ∃ v, m2.get m'.next = some (.cells [int 51, int 52] false v)) (by simp) (by omega) ⟨hkp.newr _ _, by simp, ⟨v, false, by simp [hidn]; exact g3⟩, ⟨_, by simp; rfl⟩⟩ ?_
        rintro j s2 m2 hj d110 ⟨kp2, hlt, ⟨v2, f2, hg2⟩, ⟨v4, hg4⟩⟩ hsame hw Q'' hn he
        have d7 : s2.at 7 = .ptr (m.next + 1) 0 := (hsame 7 (by kernel_rfl)).trans (by simp [e7'])
        have d17 : s2.at 17 = .sl id 0 l.length 2 true c := (hsame 17 (by kernel_rfl)).trans (by simp [e17])
        have d108 : s2.at 108 = .sl m'.next 0 2 1 false (some 2) := (hsame 108 (by kernel_rfl)).trans (by simp)
        have d109 : s2.at 109 = int 2 := (hsame 109 (by kernel_rfl)).trans (by simp)
        clear hsame
        simp [d110, d109]
        refine goB_split (fun h => ?_) fun h => ?_
        · have hlt2 : j < 2 := by have := of_decide_eq_true h; omega
          obtain ⟨p, hp, hpl⟩ : ∃ p : Int, (p = 51 ∨ p = 52) ∧ [int 51, int 52][j]? = some (int p) := by
            rcases j with _ | _ | j
            · exact ⟨51, .inl rfl, rfl⟩
            · exact ⟨52, .inr rfl, rfl⟩
            · omega
          obtain ⟨nm, hrow, hnm⟩ := row_lg hp
          have hpn : numP p := by rcases hp with rfl | rfl <;> simp [numP]
          have hx := aindexAddr_sl (q := .i64) (ag := false) (c := some 2) (id := m'.next) (off := 0) (len := 2) (i := j) Try.underlying34 tsize3 hlt2
          have hk2 := kp2.next
          have hA2 := hA.kp kp2
          have hidA : id ≠ m.next + 1 := by omega
          have hidL : m'.next ≠ id := hidn.symm
          have hA3 : ∀ cs w, Ar (m.next + 1) m.next (m2.mark id cs w) := fun cs w => ⟨by simpa using hA2.a, by simpa using hA2.b, by obtain ⟨u, hu⟩ := hA2.get; exact ⟨u, by rw [Mem.get_mark, if_neg (fun e => hidA e.symm)]; exact hu⟩, by simpa using hA2.map⟩
          have k3 : ∀ cs w, Kp m1 (m2.mark id cs w) := fun cs w => kp2.mark g1 _ _
          simp at hx
          simp [d110, d108, hx, hg4, hpl, d7, d17]
          cases l with
          | nil =>
            refine goH_eh (e7z (M := m.next) (fz_nums (l := []) hg2) hpn hrow hnm (hA3 _ _)) ?_
            have hLn : m'.next ≠ m2.next := by omega
            have hin : id ≠ m2.next := by omega
            simp [d110, d17, hw]
            refine hn _ _ hlt2 (by simp; exact IntWalk.i64_in _ (by omega)) ⟨((k3 _ _).newr _ _).set (by first | omega | (simp; omega)) _, by simp; omega, ⟨v2, true, by simp [hin]⟩, ⟨v4, by simp [hLn, hidL]; exact hg4⟩⟩
          | cons x r =>
            obtain ⟨u, hmk, hmem⟩ := least_great hp x r (by simp at hl; omega)
            obtain ⟨b, hb⟩ : ∃ b, (x :: r).all isIn = b := ⟨_, rfl⟩
            refine goH_eh (e7 (M := m.next) (b := b) (l := x :: r) (fz_nums hg2) hpn (by simp at hl ⊢; omega) hrow hnm (by simp; omega) (.inl (by omega)) (hA3 _ _) hb fun _ => hmk) ?_
            have hLn : m'.next ≠ m2.next := by omega
            have hin : id ≠ m2.next := by omega
            have hr0 : ¬ ((r.length : Int) + 1 = 0) := by omega
            cases b with
            | false =>
              simp [d110, d17, hw, hr0, undefV, undef]
              refine hn _ _ hlt2 (by simp; exact IntWalk.i64_in _ (by omega)) ⟨((k3 _ _).newr _ _).set (by first | omega | (simp; omega)) _, by simp; omega, ⟨v2, true, by simp [hin]⟩, ⟨v4, by simp [hLn, hidL]; exact hg4⟩⟩
            | true =>
              simp [d110, d17, hw]
              refine goH_gv (e9 (l := x :: r) (by simp at hl ⊢; omega) hmem) (fz_cont (l := x :: r) (v := v2) (f := true) (by simp [hin])) ?_
              simp [d110, d17, hw, hr0, undefV, undef]
              refine hn _ _ hlt2 (by simp; exact IntWalk.i64_in _ (by omega)) ⟨(((k3 _ _).newr _ _).set (by first | omega | (simp; omega)) _).mark g1 _ _, by simp; omega, ⟨v2, true, by simp [hin]⟩, ⟨v4, by simp [hLn, hidL]; exact hg4⟩⟩
        · have hge : j = 2 := by have := of_decide_eq_false h; omega
          subst hge
          simp
          refine he _ _ _ (by simp) ?_
          simp
          exact kp1.trans kp2
end Go.Proofs.Ytnhcmcfgemoehaa
