import Derived.Test.YtnhcmcfgemoehaaGreatPNkind
/- PrimNames: the walk. -/
set_option linter.unusedSimpArgs false
set_option linter.unusedVariables false
set_option linter.unusedSectionVars false
namespace Go.Proofs.YtnhcmcfgemoehaaGreat
open Go.V
attribute [local simp] Nat.add_assoc
theorem amin2 {t u T : TypeId} {a b : Int} {m : Mem} : abuiltin Tryz.prog .min #[t, u] T [int a, int b] m = some (int (min a b), m) := by
  show Option.map (·, m) (Option.map AV.sc (pureRun Tryz.prog (Builtin.min_ #[t, u] T [Value.int .i64 a, Value.int .i64 b].toArray))) = _
  have : pureRun Tryz.prog (Builtin.min_ #[t, u] T [Value.int .i64 a, Value.int .i64 b].toArray) = some (.int .i64 (if b < a then b else a)) := rfl
  rw [this]
  have : (if b < a then b else a) = min a b := by simp only [Int.min_def]; split <;> split <;> omega
  rw [this]
  rfl
theorem nms_ok : ∀ (l : List (Nat × List UInt8)), okAll 2 (nms l) = true
  | [] => rfl
  | p :: l => by
    have := nms_ok l
    unfold nms at *
    rw [List.map_cons, okAll_cons, this]; simp [nmA]
theorem nms_row (l : List (Nat × List UInt8)) : ∀ y ∈ nms l, y.cells.length = 2 ∧ AV.agg y.cells = y := by
  intro y hy
  obtain ⟨p, _, rfl⟩ := List.mem_map.1 hy
  simp [nmA]
theorem nms_prs : ents 85 = nms prs := ents_prs
theorem nms_take (l : List (Nat × List UInt8)) (k : Nat) : (nms l).take k = nms (l.take k) := by unfold nms; rw [List.map_take]
theorem nms_app {i : Nat} {p : Nat × List UInt8} (h : prs[i]? = some p) : nms (prs.take (i + 1)) = nms (prs.take i) ++ [nmA p.1 p.2] := by
  obtain ⟨h1, h2⟩ := List.getElem?_eq_some_iff.1 h
  rw [List.take_succ_eq_append_getElem h1, h2]
  unfold nms
  rw [List.map_append]
  rfl
theorem take_len {k : Nat} : (prs.take k).length = min k 76 := by rw [List.length_take, prs_length]
/-- Part of a slice, as a list that never changes. -/
theorem fz1_part {m : Mem} {id k n v : Nat} {ag f : Bool} {cap : Option Nat} {ys : List AV} (hk : (ag || k == 1) = true) (hg : m.get id = some (.cells (flat ys) f v)) (hn : n ≤ ys.length) (hy : ∀ y ∈ ys, y.cells.length = k ∧ (if ag then AV.agg y.cells = y else y.cells = [y])) (ho : okAll k ys = true) :
    fz1 m (.sl id 0 n k ag cap) = (.lst (ys.take n), m.mark id (flat ys) v) := by
  have h1 : okAll k (ys.take n) = true := by
    unfold okAll at *
    rw [List.all_eq_true] at *
    exact fun x hx => ho x (List.mem_of_mem_take hx)
  have h2 : flat ys = flat (ys.take n) ++ flat (ys.drop n) := by rw [← flat_append, List.take_append_drop]
  have h3 := flat_length h1
  have h4 : (ys.take n).length = n := by rw [List.length_take]; omega
  rw [h4] at h3
  simp only [fz1, hg]
  rw [if_pos ⟨by rw [h2, List.length_append, h3]; omega, hk⟩, List.drop_zero, h2]
  have h5 := chunk_flat hk (ys.take n) (fun y hy' => hy y (List.mem_of_mem_take hy'))
  rw [h4] at h5
  have key : ∀ (n : Nat) (a b : List AV), a.length = n * k → chunk k ag n (a ++ b) = chunk k ag n a := by
    intro n
    induction n with
    | zero => intro a b _; rfl
    | succ n ih =>
      intro a b h
      have e1 : k ≤ a.length := by rw [h, Nat.succ_mul]; omega
      simp only [chunk]
      rw [List.take_append_of_le_length e1, List.drop_append_of_le_length e1, ih (a.drop k) b (by rw [List.length_drop, h, Nat.succ_mul]; omega)]
      cases ag with
      | true => rfl
      | false =>
        have : k = 1 := by simpa using hk
        cases a with
        | nil => simp at e1; omega
        | cons x a => rfl
  rw [key n _ _ h3, h5]

theorem fz_two {M : Mem} {id v q : Nat} {f : Bool} {c : Option Nat} {xs : List AV} {ys : List (Nat × List UInt8)} (hg : M.get id = some (.cells (flat (nms ys)) f v)) (hq : q ≤ ys.length) : fzvs M [.lst xs, .sl id 0 q 2 true c] = ([.lst xs, .lst (nms (ys.take q))], M.mark id (flat (nms ys)) v) := by
  have := fz1_part (k := 2) (n := q) (ag := true) (cap := c) rfl hg (by rw [nms_length]; exact hq) (fun y hy => by have := nms_row ys y hy; simpa using this) (nms_ok ys)
  rw [nms_take] at this
  simp [fzvs, fzv, fz1e_lst, this]
set_option maxRecDepth 100000 in
set_option maxHeartbeats 8000000 in
theorem g3 (n : Int) (s : List UInt8) (k most : Int) (h0 : 0 ≤ most) (h1 : most < 256) : Gives Tryz.prog cz 3 [int n, .sc (.string ⟨⟨s⟩⟩), int k, .sc (.int .u8 most)] (.sc (.bool true)) := by
  refine gives_run Tryz.func3 rfl rfl rfl rfl (by simp) (by simp [Tryz.f3]) (by simp [Tryz.f3]) fun m => ?_
  obtain ⟨q, rfl⟩ : ∃ q : Nat, most = q := ⟨most.toNat, by omega⟩
  have aw : ∀ m, EH Tryz.prog cz (.func 7) [] m (.sc (.bool true)) m := fun m => ez rfl (g6 m)
  have z13 := gz rfl (g13 n)
  have z12 := gz rfl (g12 s)
  have z14 := gz rfl (g14 n)
  simp [Tryz.f3, show cz.keepRes 3 = false from rfl, (aw _).go]
  by_cases hs : 1000 < s.length
  · have : (1000 : Int) < s.length := by omega
    simp [hs, this, (aw _).go]
  · have : ¬ (1000 : Int) < s.length := by omega
    simp [hs, this, (g8 n).go, z13.go, z12.go, (g11r s).go, gz12.go, rrs_length]
    refine go_count 50 76 (fun i s' m' => Kp m m' ∧ m.next < m'.next ∧ (∃ v, m'.get m.next = some (.cells [int (hitN n).1, .sc (.string ⟨⟨(rowOf n).1⟩⟩), int (rowOf n).2.1, int (rowOf n).2.2] false v)) ∧ ∃ w, s'.at 17 = w ∧ Acc m m' 2 true (nms (prs.take i)) w ∧ ¬ owns w m.next) (by simp) (by omega) ⟨by simp, by simp, ⟨_, by simp; rfl⟩, .emp 0, by simp, .inl ⟨by simp [nms], rfl⟩, fun h => h⟩ ?_
    rintro i s' m' hi e50 ⟨hkp, hlt, ⟨ver, hget⟩, w, e17, hacc, how⟩ hsame hw Q' hn he
    have e48 : s'.at 48 = .lst rrs := (hsame 48 (by kernel_rfl)).trans (by simp)
    have e49 : s'.at 49 = int 76 := (hsame 49 (by kernel_rfl)).trans (by simp)
    simp [e50, e49]
    refine goB_split (fun h => ?_) fun h => ?_
    · have hlt76 : i < 76 := by have := of_decide_eq_true h; omega
      obtain ⟨p, hp⟩ : ∃ p, prs[i]? = some p := ⟨_, List.getElem?_eq_getElem (by rw [prs_length]; exact hlt76)⟩
      have hx := aindexAddr_lst (q := .i64) Tryz.underlying32 tsize24 (rrs_at hp) (by simp [rrA])
      simp [e50, e48, e17, hx, rrA, hw, abuild, abuildSlice, placesOf, fillAt, zeros]
      generalize hm1 : Mem.set (Mem.new m' _ false) m'.next _ = m1
      have kp1 : Kp m' m1 := by rw [← hm1]; exact (Kp.new _ _ _).set (Nat.le_refl _) _
      have n1 : m1.next = m'.next + 1 := by rw [← hm1]; simp
      have hl76 : (prs.take i).length ≤ 76 := by rw [take_len]; omega
      have hsrc := src_one (m := m1.new (nmA p.1 p.2).cells false) (id := m1.next) (c := some 1) (k := 2) (ag := true) (x := nmA p.1 p.2) (w := m1.clock + 1) (f := false) rfl (by simp [nmA]) (by simp [nmA]) (by simp [nmA])
      have ovl := acc_lt hacc
      have key := acc_app2 (hacc.kp (kp1.trans (.new _ (nmA p.1 p.2).cells false))) (nms_ok _) el31 (zs := [nmA p.1 p.2]) (zs' := [nmA p.1 p.2]) (List.cons_ne_nil _ _) (by simp [okAll_cons, okAll_nil, nmA]) (by simp [fzvs, nmA]) (.refl _) (Nat.le_trans (show (nms (prs.take i)).length + 1 ≤ 77 by rw [nms_length]; omega) (Nat.le_of_ble_eq_true rfl))
      obtain ⟨m3, q1, q2, ⟨w3, q3⟩, q4, q4x⟩ := key
      have k3 : Kp m m3 := by
        refine ⟨by simp at q2; have := hkp.next; omega, fun id hi => ?_, fun id hi => ?_⟩
        · have a1 : ¬ owns w id := fun e => by have := (ovl id e).1; omega
          have := hkp.next
          rw [q4 id (by simp; omega) a1, Mem.get_new, if_neg (by omega), kp1.get _ (by omega)]
          exact hkp.get id hi
        · have := hkp.next
          have a2 := q4x id (by simp; omega)
          have a3 := hkp.x id hi
          have a4 := kp1.x id (by omega)
          simp at a2
          exact ⟨a2.1.trans (a4.1.trans a3.1), a2.2.trans (a4.2.trans a3.2)⟩
      have g3' : m3.get m.next = some (.cells [int (hitN n).1, .sc (.string ⟨⟨(rowOf n).1⟩⟩), int (rowOf n).2.1, int (rowOf n).2.2] false ver) := by
        rw [q4 _ (by simp; omega) how, Mem.get_new, if_neg (by omega), kp1.get _ hlt]
        exact hget
      simp [nmA, n1] at q1 q2 q3 q4 hsrc
      simp only [nmA] at *
      rw [hsrc, q1]
      simp [e50, hw]
      refine hn _ _ hlt76 (by simp) ⟨k3, by omega, ⟨ver, g3'⟩, _, by simp; rfl, .inr ⟨?_, m'.next + 2, w3, ?_, ?_, ?_, ?_⟩, ?_⟩
      · rw [nms_app hp]; simp
      · rw [nms_app hp]; simp [nmA]
      · have := hkp.next; omega
      · omega
      · rw [nms_app hp, q3]; simp [nmA]
      · simp [owns]; omega
    · have hge : i = 76 := by have := of_decide_eq_false h; omega
      subst hge
      simp
      refine he _ _ _ (by simp) ?_
      rw [show prs.take 76 = prs from List.take_of_length_le (Nat.le_of_eq prs_length)] at hacc
      rcases hacc with ⟨hn0, _⟩ | ⟨_, id, u, rfl, hid, hidlt, hgid⟩
      · have := congrArg List.length hn0
        rw [nms_length, prs_length] at this
        cases this
      rw [nms_length, prs_length] at *
      simp
      have told1 : ∀ m, EH Tryz.prog cz (.func 17) [.fn (.func 32) [] [], int 1048576] m (.lst (nms prs)) m := fun m => by
        have := ez rfl (e10 1048576 (by decide) m)
        rwa [nms_prs, List.take_of_length_le (by rw [nms_length, prs_length]; decide)] at this
      have told2 : ∀ m, EH Tryz.prog cz (.func 17) [.fn (.func 32) [] [], int q] m (.lst (nms (prs.take q))) m := fun m => by
        have := ez rfl (e10 q (Nat.le_trans (show q ≤ 256 by omega) (by decide)) m)
        rwa [nms_prs, nms_take] at this
      have wq : IntKind.i64.wrap (q : Int) = q := IntWalk.i64_in _ (by omega)
      obtain ⟨r, hr⟩ : ∃ r : Nat, r = min 76 q := ⟨_, rfl⟩
      have hmin : min (76 : Int) q = (r : Int) := by omega
      have hsl := aslice_sl (T := 31) (id := id) (off := 0) (len := 76) (k := 2) (ag := true) (cap := none) (c := 0) (l := none) (h := some r) Tryz.underlying31 tsize35 obnd_none (obnd_nat (q := .i64)) (by simp) (by simp; omega)
      simp at hsl
      have tk : prs.take r = prs.take q := by
        rw [hr]
        by_cases h : q ≤ 76
        · rw [Nat.min_eq_right h]
        · rw [Nat.min_eq_left (by omega), List.take_of_length_le (Nat.le_of_eq prs_length), List.take_of_length_le (by rw [prs_length]; omega)]
      have eq1 : ∀ {N : Nat} {Q : Ex → Sl → Mem → Prop} {t : Option Tmp} {c : List It} {s : Sl} {M : Mem} {v : Nat} {f : Bool} {cc : Option Nat}, M.get id = some (.cells (flat (nms prs)) f v) → goH Tryz.prog cz N Q (.func 16) [.lst (nms prs), .sl id 0 76 2 true cc] t c s M = goP Tryz.prog cz N Q (aput N s t (.sc (.bool true))) c (M.mark id (flat (nms prs)) v) := by
        intro N Q t c s M v f cc hg
        have := fz_two (c := cc) (xs := nms prs) hg (Nat.le_of_eq prs_length.symm)
        rw [List.take_of_length_le (Nat.le_of_eq prs_length)] at this
        exact (gk16 prs (by rw [prs_length]; decide)).goF this
      have eq2 : ∀ {N : Nat} {Q : Ex → Sl → Mem → Prop} {t : Option Tmp} {c : List It} {s : Sl} {M : Mem} {v : Nat} {f : Bool} {cc : Option Nat}, M.get id = some (.cells (flat (nms prs)) f v) → goH Tryz.prog cz N Q (.func 16) [.lst (nms (prs.take q)), .sl id 0 r 2 true cc] t c s M = goP Tryz.prog cz N Q (aput N s t (.sc (.bool true))) c (M.mark id (flat (nms prs)) v) := by
        intro N Q t c s M v f cc hg
        have := fz_two (c := cc) (xs := nms (prs.take q)) hg (q := r) (by rw [prs_length]; omega)
        rw [tk] at this
        exact (gk16 (prs.take q) (by rw [take_len]; omega)).goF this
      have e0 : s'.at 0 = int n := (hsame 0 (by kernel_rfl)).trans (by simp)
      have e2 : s'.at 2 = int k := (hsame 2 (by kernel_rfl)).trans (by simp)
      have e3 : s'.at 3 = .sc (.int .u8 q) := (hsame 3 (by kernel_rfl)).trans (by simp)
      have e9 : s'.at 9 = .ptr m.next 0 := (hsame 9 (by kernel_rfl)).trans (by simp)
      have e11 : s'.at 11 = int (rowOf n).2.1 := (hsame 11 (by kernel_rfl)).trans (by simp)
      have e12 : s'.at 12 = int (rowOf n).2.2 := (hsame 12 (by kernel_rfl)).trans (by simp)
      have e13 : s'.at 13 = int (fnd s).1 := (hsame 13 (by kernel_rfl)).trans (by simp)
      have e14 : s'.at 14 = .sc (.bool (fnd s).2) := (hsame 14 (by kernel_rfl)).trans (by simp)
      have e15 : s'.at 15 = int (fnd s).1 := (hsame 15 (by kernel_rfl)).trans (by simp)
      have e16 : s'.at 16 = .sc (.bool (fnd s).2) := (hsame 16 (by kernel_rfl)).trans (by simp)
      clear hsame
      have z11 := gz rfl g11
      refine go_drawD (by kernel_rfl) ?_
      simp [e0, e2, e3, e9, e11, e12, e13, e14, e15, e16, e17, hget, z14.go, (gk14 k).go, (gk15 k).go, z11.go, (told1 _).go, (told2 _).go, wq]
      rw [eq1 hgid]
      simp [e0, e3, e17, z11.go, (told2 _).go, wq, amin2, hmin, hsl]
      rw [eq2 (by simp; exact ⟨rfl, rfl⟩)]
      simp [e0, e3, e17]
      refine goM_of (l := [(1, 3)]) (by kernel_rfl) (?_ : List.all _ _ = true) ?_
      · simp [metAtD, metOkD, rank, verKeptD, Region.wanted, Mem.ver, e9, hget]
      simp
      exact (hkp.mark hid _ _).mark hid _ _
end Go.Proofs.YtnhcmcfgemoehaaGreat
