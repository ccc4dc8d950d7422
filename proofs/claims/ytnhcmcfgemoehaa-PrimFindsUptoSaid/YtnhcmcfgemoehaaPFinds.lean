import Derived.Test.YtnhcmcfgemoehaaPTold
/- Any procedure's name, and how many values it takes; PrimFinds: the walk. -/
set_option linter.unusedSimpArgs false
set_option linter.unusedVariables false
set_option linter.unusedSectionVars false
namespace Go.Proofs.Ytnhcmcfgemoehaa
open Go.V
attribute [local simp] Nat.add_assoc

/-- The procedure of a number. -/
def rowOf (n : Int) : List UInt8 × Int × Int := if n < 0 ∨ 85 ≤ n then ([], 0, 0) else (rws[n.toNat]?).getD ([], 0, 0)
theorem rowOf_at {n : Int} (h : ¬ n < 0) (h2 : ¬ 85 ≤ n) : rws[n.toNat]? = some (rowOf n) := by
  have hl : n.toNat < rws.length := by rw [rws_length]; omega
  unfold rowOf
  rw [if_neg (by omega), List.getElem?_eq_getElem hl]
  rfl
theorem table_i {n : Int} (h : ¬ n < 0) (h2 : ¬ 85 ≤ n) : aindex Try.prog 69 tableA (int n) = some (.agg (rowC (rowOf n))) := by
  have := table_at (rowOf_at h h2)
  rwa [Int.toNat_of_nonneg (by omega)] at this
theorem rowOf_out {n : Int} (h : n < 0 ∨ 85 ≤ n) : rowOf n = ([], 0, 0) := by unfold rowOf; rw [if_pos h]
@[simp] theorem rowC_bel (r : List UInt8 × Int × Int) (n : Nat) : AV.bels n (rowC r) = true := rfl
@[simp] theorem rowC_fzs (r : List UInt8 × Int × Int) (m : Mem) : fzv m (.agg (rowC r)) = (.agg (rowC r), m) := rfl
set_option maxHeartbeats 4000000 in
theorem g15 (n : Int) : Gives Try.prog cp 15 [int n] (.tup [.agg (rowC (rowOf n)), .sc (.bool (!decide ((rowOf n).1 = [])))]) := by
  refine gives_run Try.func15 rfl rfl rfl rfl (by simp) (by simp [Try.f15]) (by simp [Try.f15]) fun m => ?_
  simp [Try.f15, show cp.keepRes 15 = false from rfl]
  by_cases h : n < 0
  · simp [h, abuild, placesOf, fillAt, rowOf_out (.inl h), rowC, oneOf]
  · by_cases h2 : 85 ≤ n
    · simp [h, h2, abuild, placesOf, fillAt, rowOf_out (.inr h2), rowC, oneOf]
    · simp [h, h2, (g22 _).go, table_i h h2]
      simp only [rowC]
      simp
      refine go_draw_of (by kernel_rfl) ?_
      simp
      refine goM_of (l := [(2, 4)]) (by kernel_rfl) (?_ : List.all _ _ = true) ?_
      · simp [metAt, metOk, rank, objOf, verKept, Region.wanted, Mem.ver]
      simp
set_option maxHeartbeats 4000000 in
theorem g13 (n : Int) : Gives Try.prog cp 13 [int n] (.tup [int (rowOf n).2.1, int (rowOf n).2.2]) := by
  refine gives_run Try.func13 rfl rfl rfl rfl (by simp) (by simp [Try.f13]) (by simp [Try.f13]) fun m => ?_
  simp [Try.f13, show cp.keepRes 13 = false from rfl, (g15 n).go]
  simp only [rowC]
  simp
  refine go_draw_of (by kernel_rfl) ?_
  simp
  refine goM_nil (by kernel_rfl) ?_
  simp
set_option maxHeartbeats 4000000 in
theorem g14 (n : Int) : Gives Try.prog cp 14 [int n] (.sc (.string ⟨⟨(rowOf n).1⟩⟩)) := by
  refine gives_run Try.func14 rfl rfl rfl rfl (by simp) (by simp [Try.f14]) (by simp [Try.f14]) fun m => ?_
  simp [Try.f14, show cp.keepRes 14 = false from rfl, (g15 n).go]
  simp only [rowC]
  simp

/-- The procedures that are told, as pairs. -/
def entP : List (List UInt8 × Int × Int) → Nat → List (Nat × List UInt8)
  | [], _ => []
  | r :: l, i => (if r.1 = [] then [] else [(i, r.1)]) ++ entP l (i + 1)
theorem ent_pairs : ∀ (l : List (List UInt8 × Int × Int)) (i : Nat), ent l i = (entP l i).map fun p => nmA p.1 p.2
  | [], i => rfl
  | r :: l, i => by
    simp only [ent, entP, List.map_append, ent_pairs l (i + 1)]
    split <;> simp
def prs : List (Nat × List UInt8) := entP rws 0
theorem ents_prs : ents 85 = prs.map fun p => nmA p.1 p.2 := by
  unfold ents prs
  rw [List.take_of_length_le (by rw [rws_length]; omega), ent_pairs]
def chk4 : Bool := prs.all fun p => decide (fnd p.2 = ((p.1 : Int), true)) && !decide (p.2 = []) && decide (0 ≤ (rowOf p.1).2.1) && (decide ((rowOf p.1).2.2 < 0) || decide ((rowOf p.1).2.1 ≤ (rowOf p.1).2.2)) && decide ((rowOf p.1).1 = p.2)
theorem chk4_true : chk4 = true := by kernel_rfl
theorem prs_nodup : (prs.map (·.2)).Nodup := of_decide_eq_true (by kernel_rfl)
theorem prs_length : prs.length = 76 := by kernel_rfl
theorem entP_any (s : List UInt8) : ∀ (l : List (List UInt8 × Int × Int)) (i : Nat), ((entP l i).map (·.2)).any (fun x => decide (x = s)) = l.any (isRow s)
  | [], i => rfl
  | r :: l, i => by
    simp only [entP, List.map_append, List.any_append, List.any_cons, entP_any s l (i + 1)]
    congr 1
    by_cases h : r.1 = []
    · simp [h, isRow]
    · simp [h, isRow]
/-- A name is found if and only if it is told. -/
theorem fnd_iff (s : List UInt8) : (fnd s).2 = (prs.map (·.2)).any fun x => decide (x = s) := by
  unfold prs
  rw [entP_any]
  unfold fnd
  cases h : rws.findIdx? (isRow s) with
  | none =>
    have := List.findIdx?_eq_none_iff.1 h
    symm
    simpa using this
  | some k =>
    obtain ⟨h1, h2, _⟩ := List.findIdx?_eq_some_iff_getElem.1 h
    symm
    exact List.any_eq_true.2 ⟨_, List.getElem_mem h1, h2⟩
theorem fnd_name (s : List UInt8) (h : (fnd s).2 = true) : (rowOf (fnd s).1).1 = s := by
  unfold fnd at h ⊢
  cases hk : rws.findIdx? (isRow s) with
  | none => rw [hk] at h; cases h
  | some k =>
    obtain ⟨h1, h2, _⟩ := List.findIdx?_eq_some_iff_getElem.1 hk
    have h3 : k < 85 := by rwa [rws_length] at h1
    have h4 := rowOf_at (n := (k : Int)) (by omega) (by omega)
    simp only [Int.toNat_natCast, List.getElem?_eq_getElem h1, Option.some.injEq] at h4
    dsimp only
    rw [← h4]
    simp only [isRow, Bool.and_eq_true, decide_eq_true_eq] at h2
    exact h2.2
theorem prs_chk {i : Nat} {p : Nat × List UInt8} (h : prs[i]? = some p) : fnd p.2 = ((p.1 : Int), true) ∧ p.2 ≠ [] ∧ 0 ≤ (rowOf p.1).2.1 ∧ ((rowOf p.1).2.2 < 0 ∨ (rowOf p.1).2.1 ≤ (rowOf p.1).2.2) := by
  have := List.all_eq_true.1 chk4_true p (List.mem_of_getElem? h)
  simp only [Bool.and_eq_true, Bool.or_eq_true, decide_eq_true_eq, Bool.not_eq_true', decide_eq_false_iff_not] at this
  obtain ⟨⟨⟨⟨a, b⟩, c⟩, d⟩, e⟩ := this
  exact ⟨a, b, c, d⟩
attribute [irreducible] prs

/-- What was seen. -/
def seen (i : Nat) : List (Value × AV × Nat) := (prs.take i).zipIdx.map fun x => (Value.string ⟨⟨x.1.2⟩⟩, AV.sc (.bool true), x.2)
theorem seen_keys (i : Nat) : (seen i).map (·.1) = ((prs.take i).map (·.2)).map fun x => Value.string ⟨⟨x⟩⟩ := by
  have key : ∀ (l : List (Nat × List UInt8)) (k : Nat), ((l.zipIdx k).map fun x => Value.string ⟨⟨x.1.2⟩⟩) = l.map fun x => Value.string ⟨⟨x.2⟩⟩ := by
    intro l
    induction l with
    | nil => intro k; rfl
    | cons a l ih => intro k; simp [List.zipIdx_cons, ih]
  unfold seen
  rw [List.map_map, List.map_map]
  exact key (prs.take i) 0
theorem seen_length {i : Nat} (h : i ≤ 76) : (seen i).length = i := by
  unfold seen
  rw [List.length_map, List.length_zipIdx, List.length_take, prs_length]
  omega
theorem seen_succ {i : Nat} {p : Nat × List UInt8} (h : prs[i]? = some p) : seen (i + 1) = seen i ++ [(.string ⟨⟨p.2⟩⟩, .sc (.bool true), i)] := by
  obtain ⟨h1, h2⟩ := List.getElem?_eq_some_iff.1 h
  have hl : (prs.take i).length = i := by rw [List.length_take]; omega
  unfold seen
  rw [List.take_succ_eq_append_getElem h1, h2, List.zipIdx_append, hl, List.map_append]
  simp
theorem seen_fresh {i : Nat} {p : Nat × List UInt8} (h : prs[i]? = some p) : (((prs.take i).map (·.2)).findIdx? fun x => decide (x = p.2)) = none := by
  obtain ⟨h1, h2⟩ := List.getElem?_eq_some_iff.1 h
  refine List.findIdx?_eq_none_iff.2 fun x hx => ?_
  have hn := prs_nodup
  have : (prs.map (·.2)) = (prs.take i).map (·.2) ++ p.2 :: (prs.drop (i + 1)).map (·.2) := by
    conv => lhs; rw [← List.take_append_drop i prs, List.drop_eq_getElem_cons h1, h2]
    simp
  rw [this] at hn
  have := (List.nodup_append.1 hn).2.2 x hx p.2 (by simp)
  simpa using this
attribute [irreducible] seen

set_option maxRecDepth 100000 in
set_option maxHeartbeats 8000000 in
theorem g4 (s : List UInt8) : Gives Try.prog cp 4 [.sc (.string ⟨⟨s⟩⟩)] (.sc (.bool true)) := by
  refine gives_run Try.func4 rfl rfl rfl rfl (by simp) (by simp [Try.f4]) (by simp [Try.f4]) fun m => ?_
  have e10' : ∀ m, EH Try.prog cp (.func 10) [.fn (.func 21) [] [], int 1000] m (.lst (ents 85)) m := fun m => by
    have := e10 1000 (by decide) m
    rwa [List.take_of_length_le (Nat.le_trans (ents_len 85 (by omega)) (by decide))] at this
  have hle : (ents 85).length = 76 := by rw [ents_prs, List.length_map, prs_length]
  simp [Try.f4, show cp.keepRes 4 = false from rfl, g11.go, (e10' _).go, hle, amakeMap_none tmap37]
  refine go_count 16 76 (fun i s' m' => Kp m m' ∧ m.next < m'.next ∧ (∃ ver, m'.map m.next = some ⟨seen i, i, ver⟩) ∧ s'.at 3 = .mp m.next ∧ s'.at 14 = .lst (ents 85) ∧ s'.at 15 = int 76 ∧ s'.at 0 = .sc (.string ⟨⟨s⟩⟩)) (by simp) (by omega) ⟨by simp, by simp, ⟨_, by simp [seen]; rfl⟩, by simp, by simp, by simp, by simp⟩ ?_
  rintro i s' m' hi e16 ⟨hkp, hlt, ⟨ver, hmap⟩, e3, e14, e15, e0⟩ hsame hw Q' hn he
  simp [e16, e15]
  refine goB_split (fun h => ?_) fun h => ?_
  · have hlt76 : i < 76 := by have := of_decide_eq_true h; omega
    obtain ⟨p, hp⟩ : ∃ p, prs[i]? = some p := ⟨_, List.getElem?_eq_getElem (by rw [prs_length]; exact hlt76)⟩
    have hpe : (ents 85)[i]? = some (nmA p.1 p.2) := by rw [ents_prs, List.getElem?_map, hp]; rfl
    obtain ⟨q1, q2, q3, q4⟩ := prs_chk hp
    have hl : ∀ mm : Mem, mm.map m.next = some ⟨seen i, i, ver⟩ → alookup Try.prog 37 (.mp m.next) (.sc (.string ⟨⟨p.2⟩⟩)) false mm = some (.sc (.bool false)) := fun mm hmm => by
      rw [alookup_str tmap37 Try.underlying9 hmm (seen_keys i), seen_fresh hp]
      simp
    have hu : ∀ mm : Mem, mm.map m.next = some ⟨seen i, i, ver⟩ → amapUpdate Try.prog 37 (.mp m.next) (.sc (.string ⟨⟨p.2⟩⟩)) (.sc (.bool true)) mm = some (mm.setMap m.next (seen (i + 1)) (i + 1)) := fun mm hmm => by
      rw [amapUpdate_new tmap37 Try.underlying9 hmm (seen_keys i) (seen_fresh hp), seen_succ hp]
    have q5 : ¬ (rowOf p.1).2.1 < 0 := by omega
    simp [e3, e14, e16, aindexAddr_lst Try.underlying38 tsize44 hpe (by simp [nmA]), nmA, (g12 p.2).go, (g13 p.1).go, q1, q2, hl, hmap, q5]
    have fin : ∀ (s2 : Sl) (mm : Mem), Kp m mm → m.next < mm.next → mm.map m.next = some ⟨seen i, i, ver⟩ → s2.at 3 = .mp m.next → s2.at 14 = .lst (ents 85) → s2.at 15 = int 76 → s2.at 0 = .sc (.string ⟨⟨s⟩⟩) → s2.at 16 = int ((i : Int) + 1) → Q' .normal s2 (mm.setMap m.next (seen (i + 1)) (i + 1)) := fun s2 mm k1 k2 k3 k4 k5 k6 k7 k8 =>
      hn s2 _ hlt76 k8 ⟨by simp; exact k1, by simpa using k2, ⟨_, by simp; rfl⟩, k4, k5, k6, k7⟩
    by_cases q6 : 0 ≤ (rowOf p.1).2.2
    · have q7 : ¬ (rowOf p.1).2.2 < (rowOf p.1).2.1 := by omega
      simp [q6, q7, hu, hmap, e3, e16, hw]
      refine fin _ _ ?_ ?_ ?_ ?_ ?_ ?_ ?_ ?_
      · exact (hkp.newr _ _).set (by have := hkp.next; omega) _
      · simp; omega
      · simpa using hmap
      · simp [e3]
      · simp [e14]
      · simp [e15]
      · simp [e0]
      · simp
    · simp [q6, hu, hmap, e3, e16, hw]
      refine fin _ _ ?_ ?_ ?_ ?_ ?_ ?_ ?_ ?_
      · exact (hkp.newr _ _).set (by have := hkp.next; omega) _
      · simp; omega
      · simpa using hmap
      · simp [e3]
      · simp [e14]
      · simp [e15]
      · simp [e0]
      · simp
  · have hge : i = 76 := by have := of_decide_eq_false h; omega
    subst hge
    simp
    refine he _ _ _ (by simp) ?_
    have hall : (prs.take 76).map (·.2) = prs.map (·.2) := by rw [List.take_of_length_le (by rw [prs_length]; omega)]
    have hl : ∀ mm : Mem, mm.map m.next = some ⟨seen 76, 76, ver⟩ → alookup Try.prog 37 (.mp m.next) (.sc (.string ⟨⟨s⟩⟩)) false mm = some (.sc (.bool (fnd s).2)) := fun mm hmm => by
      rw [alookup_str tmap37 Try.underlying9 hmm (seen_keys 76), hall, fnd_iff]
      cases hf : (prs.map (·.2)).findIdx? fun x => decide (x = s) with
      | none =>
        have : ((prs.map (·.2)).any fun x => decide (x = s)) = false := by
          have h0 := List.findIdx?_eq_none_iff.1 hf
          cases ha : (prs.map (·.2)).any fun x => decide (x = s) with
          | false => rfl
          | true =>
            obtain ⟨x, hx, hx2⟩ := List.any_eq_true.1 ha
            rw [h0 x hx] at hx2; cases hx2
        rw [this]
        simp
      | some j =>
        obtain ⟨h1, h2, _⟩ := List.findIdx?_eq_some_iff_getElem.1 hf
        have : ((prs.map (·.2)).any fun x => decide (x = s)) = true := List.any_eq_true.2 ⟨_, List.getElem_mem h1, h2⟩
        rw [this]
        have hj : j < 76 := by rw [List.length_map, prs_length] at h1; exact h1
        have hs : (seen 76)[j]? = some ((seen 76)[j]'(by rw [seen_length (Nat.le_refl _)]; exact hj)) := List.getElem?_eq_getElem _
        have hv : ∀ x ∈ seen 76, x.2.1 = .sc (.bool true) := by
          intro x hx
          unfold seen at hx
          obtain ⟨y, _, rfl⟩ := List.mem_map.1 hx
          rfl
        dsimp only
        rw [hs]
        have := hv _ (List.getElem_mem (by rw [seen_length (Nat.le_refl _)]; exact hj) : (seen 76)[j]'(by rw [seen_length (Nat.le_refl _)]; exact hj) ∈ seen 76)
        generalize (seen 76)[j]'(by rw [seen_length (Nat.le_refl _)]; exact hj) = y at *
        obtain ⟨a, b, c⟩ := y
        simp only at this
        subst this
        simp
    cases hf : (fnd s).2 with
    | true =>
      have hnm := fnd_name s hf
      simp [e0, e3, (g12 s).go, (g6 _).go, hl, hmap, hf, (g14 (fnd s).1).go, hnm]
      exact hkp
    | false =>
      simp [e0, e3, (g12 s).go, (g6 _).go, hl, hmap, hf]
      exact hkp
end Go.Proofs.Ytnhcmcfgemoehaa
