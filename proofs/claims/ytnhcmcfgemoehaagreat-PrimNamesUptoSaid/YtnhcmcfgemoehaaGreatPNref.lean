import Derived.Test.YtnhcmcfgemoehaaGreatPRows
/- The document's procedures; the setting of PrimNames. -/
set_option linter.unusedSimpArgs false
set_option linter.unusedVariables false
set_option linter.unusedSectionVars false
namespace Go.Proofs.YtnhcmcfgemoehaaGreat
open Go.V
attribute [local simp] Nat.add_assoc

/-- The document's row of a procedure. -/
def rrA (p : Nat × List UInt8) : AV := .agg [int p.1, .sc (.string ⟨⟨p.2⟩⟩), int (rowOf p.1).2.1, int (rowOf p.1).2.2]
def rrs : List AV := prs.map rrA
theorem run12r (m : Mem) : afn Tryz.prog ck 3 (.func 12) [] m = some (.sl m.next 0 76 4 true (some 76), m.new (flat rrs) false) := by kernel_rfl
theorem rr_ok : ∀ (l : List (Nat × List UInt8)), okAll 4 (l.map rrA) = true
  | [] => rfl
  | p :: l => by rw [List.map_cons, okAll_cons, rr_ok l]; simp [rrA]
theorem rr_row : ∀ (l : List (Nat × List UInt8)), ∀ y ∈ l.map rrA, y.cells.length = 4 ∧ AV.agg y.cells = y := by
  intro l y hy
  obtain ⟨p, _, rfl⟩ := List.mem_map.1 hy
  simp [rrA]
theorem rr_bel : ∀ (l : List (Nat × List UInt8)) (n : Nat), AV.bels n (l.map rrA) = true
  | [], n => rfl
  | p :: l, n => by rw [List.map_cons]; simp [AV.bels, rrA, AV.bel, rr_bel l n]

noncomputable def cz : Cfg := ⟨fun _ => false, fun _ => false, fun f => if f == 12 then some (fzH (limH Tryz.prog ck 12)) else if f == 7 || f == 9 || f == 10 || f == 13 || f == 17 || f == 18 then some (limH Tryz.prog cp f) else none, fun _ => 1⟩
theorem told_cz (f : FuncId) (h : List AV → Mem → Option (AV × Mem)) (e : cz.hook f = some h) : ByHand Tryz.prog f h := by
  unfold cz at e
  dsimp only at e
  split at e
  · rename_i hc
    have : f = 12 := by simpa using hc
    subst this
    cases e
    exact told_fz (told_lim follows_mixed told_ck 12)
  · split at e
    · cases e; exact told_lim follows_mixed told_cp f
    · cases e
theorem hooksz (B : Nat) (W : World) : Hooks Tryz.prog B W cz := hooks_of told_cz
theorem gz {f : FuncId} {args : List AV} {r : AV} (hk : cz.hook f = some (limH Tryz.prog cp f)) (h : Gives Tryz.prog cp f args r) : Gives Tryz.prog cz f args r := fun m0 a0 m hz => eh_hook hk (lim_eq (h m0 a0 m hz))
theorem ez {f : FuncId} {args : List AV} {r : AV} {m m' : Mem} (hk : cz.hook f = some (limH Tryz.prog cp f)) (h : EH Tryz.prog cp (.func f) args m r m') : EH Tryz.prog cz (.func f) args m r m' := eh_hook hk (lim_eq h)
theorem gcw_one {m m' : Mem} {v : AV} (hb : v.bel m.next = true) (hk : Kp m m') : gcw 1 m (v, m') = some (v, m) := by
  simp only [gcw]
  rw [if_pos]
  simp only [sameX, Bool.and_eq_true, List.all_eq_true, List.mem_range]
  exact ⟨⟨hb, fun id hi => by rw [hk.get id hi]; exact sameO_refl _⟩, fun id hi => by rw [(hk.x id hi).1, (hk.x id hi).2]; exact ⟨sameL_refl _, sameM_refl _⟩⟩
theorem rrs_length : rrs.length = 76 := by unfold rrs; rw [List.length_map, prs_length]
theorem gz12 : Gives Tryz.prog cz 12 [] (.lst rrs) := by
  intro m0 args0 m hz
  obtain rfl : args0 = [] := by
    have := fzvs_length args0 m0
    rw [hz] at this
    exact List.length_eq_zero_iff.1 this.symm
  obtain rfl : m0 = m := congrArg Prod.snd hz
  refine eh_hook (h := fzH (limH Tryz.prog ck 12)) rfl ?_
  have e : limH Tryz.prog ck 12 [] m0 = some (.sl m0.next 0 76 4 true (some 76), m0.new (flat rrs) false) := lim_eq (.of (run12r m0))
  have e2 := fz1_row (m := m0.new (flat rrs) false) (id := m0.next) (k := 4) (ag := true) (cap := some 76) (ys := rrs) (v := m0.clock + 1) (f := false) rfl (by simp) (fun y hy => by have := rr_row prs y hy; simpa using this) (rr_ok prs)
  rw [rrs_length] at e2
  unfold fzH
  simp only [fzvs, e, fzr_sl, e2]
  exact gcw_one (by simp only [AV.bel]; exact rr_bel prs _) ((Kp.new _ _ _).mark (Nat.le_refl _) _ _)
theorem rrs_at {i : Nat} {p : Nat × List UInt8} (h : prs[i]? = some p) : rrs[i]? = some (rrA p) := by unfold rrs; rw [List.getElem?_map, h]; rfl
attribute [irreducible] rrs

/-- The procedure of a number, by the document. -/
def hitN (n : Int) : Int × Bool := if (prs.any fun p => decide ((p.1 : Int) = n)) then (n, true) else (0, false)
theorem row_name {i : Nat} {p : Nat × List UInt8} (h : prs[i]? = some p) : (rowOf p.1).1 = p.2 := by
  have := List.all_eq_true.1 chk4_true p (List.mem_of_getElem? h)
  simp only [Bool.and_eq_true, decide_eq_true_eq] at this
  exact this.2
def chkN : Bool := (List.range 85).all fun i => (prs.any fun p => decide (p.1 = i)) || (decide ((rowOf i).1 = []) && decide ((rowOf i).2.1 = 0) && decide ((rowOf i).2.2 = 0))
theorem chkN_true : chkN = true := by kernel_rfl
theorem miss {n : Int} (h : ∀ p ∈ prs, (p.1 : Int) ≠ n) : rowOf n = ([], 0, 0) := by
  by_cases h0 : n < 0 ∨ 85 ≤ n
  · exact rowOf_out h0
  · have h1 : n.toNat ∈ List.range 85 := by rw [List.mem_range]; omega
    have h2 := List.all_eq_true.1 chkN_true _ h1
    have h3 : ((n.toNat : Nat) : Int) = n := Int.toNat_of_nonneg (by omega)
    rw [Bool.or_eq_true] at h2
    rcases h2 with h2 | h2
    · obtain ⟨p, hp, hp2⟩ := List.any_eq_true.1 h2
      refine absurd ?_ (h p hp)
      have := of_decide_eq_true hp2
      omega
    · rw [h3] at h2
      simp only [Bool.and_eq_true, decide_eq_true_eq] at h2
      obtain ⟨⟨a, b⟩, c⟩ := h2
      generalize rowOf n = r at *
      obtain ⟨x, y, z⟩ := r
      simp_all
set_option maxRecDepth 100000 in
set_option maxHeartbeats 4000000 in
theorem g8 (n : Int) : Gives Tryz.prog cz 8 [int n] (.tup [.agg [int (hitN n).1, .sc (.string ⟨⟨(rowOf n).1⟩⟩), int (rowOf n).2.1, int (rowOf n).2.2], .sc (.bool (hitN n).2)]) := by
  refine gives_run Tryz.func8 rfl rfl rfl rfl (by simp) (by simp [Tryz.f8]) (by simp [Tryz.f8]) fun m => ?_
  simp [Tryz.f8, show cz.keepRes 8 = false from rfl, gz12.go]
  refine go_count 5 76 (fun i s' m' => Kp m m' ∧ m.next < m'.next ∧ (∃ cs v, m'.get m.next = some (.cells cs false v) ∧ cs.length = 4) ∧ s'.at 0 = int n ∧ s'.at 4 = .lst rrs ∧ s'.at 2 = .ptr m.next 0 ∧ ∀ j p, j < i → prs[j]? = some p → (p.1 : Int) ≠ n) (by simp) (by omega) ⟨by simp, by simp, ⟨_, _, by simp; exact ⟨rfl, rfl⟩, by simp⟩, by simp, by simp, by simp, fun j p hj => absurd hj (Nat.not_lt_zero j)⟩ ?_
  rintro i s' m' hi e5 ⟨hkp, hlt, ⟨cs, ver, hget, hcs⟩, e0, e4, e2, hno⟩ hsame hw Q' hn he
  simp [e5, e4, rrs_length]
  refine goB_split (fun h => ?_) fun h => ?_
  · have hlt76 : i < 76 := by have := of_decide_eq_true h; omega
    obtain ⟨p, hp⟩ : ∃ p, prs[i]? = some p := ⟨_, List.getElem?_eq_getElem (by rw [prs_length]; exact hlt76)⟩
    have hx := aindexAddr_lst (q := .i64) Tryz.underlying32 tsize24 (rrs_at hp) (by simp [rrA])
    by_cases e : (p.1 : Int) = n
    · have hh : hitN n = (n, true) := by
        unfold hitN
        rw [if_pos]
        exact List.any_eq_true.2 ⟨p, List.mem_of_getElem? hp, by simpa using e⟩
      have hr := row_name hp
      rw [e] at hr
      simp [e5, e4, e2, e0, hx, rrA, e, hget, hcs]
      refine he _ _ _ (by simp) ?_
      simp [e2, hh, hr]
      exact hkp
    · simp [e5, e4, e2, e0, hx, rrA, e, hw]
      refine hn _ _ hlt76 (by simp) ⟨hkp, hlt, ⟨cs, ver, hget, hcs⟩, by simp [e0], by simp [e4], by simp [e2], fun j p' hj hp' => ?_⟩
      by_cases ej : j = i
      · subst ej; rw [hp] at hp'; cases hp'; exact e
      · exact hno j p' (by omega) hp'
  · have hge : i = 76 := by have := of_decide_eq_false h; omega
    subst hge
    simp
    refine he _ _ _ (by simp) ?_
    have hall : ∀ p ∈ prs, (p.1 : Int) ≠ n := by
      intro p hp
      obtain ⟨j, hj, rfl⟩ := List.mem_iff_getElem.1 hp
      exact hno j _ (by rw [← prs_length]; exact hj) (List.getElem?_eq_getElem hj)
    have hh : hitN n = (0, false) := by
      unfold hitN
      rw [if_neg]
      intro h
      obtain ⟨p, hp, hp2⟩ := List.any_eq_true.1 h
      exact hall p hp (of_decide_eq_true hp2)
    simp [e2, hh, miss hall, hget, hcs, abuild, placesOf, fillAt]
    exact hkp
theorem fnd_false {s : List UInt8} (h : (fnd s).2 = false) : fnd s = (0, false) := by
  unfold fnd at *
  split <;> simp_all
set_option maxRecDepth 100000 in
set_option maxHeartbeats 4000000 in
theorem g11r (s : List UInt8) : Gives Tryz.prog cz 11 [.sc (.string ⟨⟨s⟩⟩)] (.tup [int (fnd s).1, .sc (.bool (fnd s).2)]) := by
  refine gives_run Tryz.func11 rfl rfl rfl rfl (by simp) (by simp [Tryz.f11]) (by simp [Tryz.f11]) fun m => ?_
  simp [Tryz.f11, show cz.keepRes 11 = false from rfl, gz12.go]
  refine go_count 5 76 (fun i s' m' => Kp m m' ∧ s'.at 0 = .sc (.string ⟨⟨s⟩⟩) ∧ s'.at 4 = .lst rrs ∧ ∀ j p, j < i → prs[j]? = some p → p.2 ≠ s) (by simp) (by omega) ⟨by simp, by simp, by simp, fun j p hj => absurd hj (Nat.not_lt_zero j)⟩ ?_
  rintro i s' m' hi e5 ⟨hkp, e0, e4, hno⟩ hsame hw Q' hn he
  simp [e5, e4, rrs_length]
  refine goB_split (fun h => ?_) fun h => ?_
  · have hlt76 : i < 76 := by have := of_decide_eq_true h; omega
    obtain ⟨p, hp⟩ : ∃ p, prs[i]? = some p := ⟨_, List.getElem?_eq_getElem (by rw [prs_length]; exact hlt76)⟩
    have hx := aindexAddr_lst (q := .i64) Tryz.underlying32 tsize24 (rrs_at hp) (by simp [rrA])
    by_cases e : p.2 = s
    · have hh := (prs_chk hp).1
      rw [e] at hh
      simp [e5, e4, e0, hx, rrA, e]
      refine he _ _ _ (by simp) ?_
      simp [hh]
      exact hkp
    · simp [e5, e4, e0, hx, rrA, e, hw]
      refine hn _ _ hlt76 (by simp) ⟨hkp, by simp [e0], by simp [e4], fun j p' hj hp' => ?_⟩
      by_cases ej : j = i
      · subst ej; rw [hp] at hp'; cases hp'; exact e
      · exact hno j p' (by omega) hp'
  · have hge : i = 76 := by have := of_decide_eq_false h; omega
    subst hge
    simp
    refine he _ _ _ (by simp) ?_
    have hall : (fnd s).2 = false := by
      rw [fnd_iff]
      cases ha : (prs.map (·.2)).any fun x => decide (x = s) with
      | false => rfl
      | true =>
        obtain ⟨x, hx, hx2⟩ := List.any_eq_true.1 ha
        obtain ⟨p, hp, rfl⟩ := List.mem_map.1 hx
        obtain ⟨j, hj, rfl⟩ := List.mem_iff_getElem.1 hp
        exact absurd (of_decide_eq_true hx2) (hno j _ (by rw [← prs_length]; exact hj) (List.getElem?_eq_getElem hj))
    simp [fnd_false hall]
    exact hkp
end Go.Proofs.YtnhcmcfgemoehaaGreat
