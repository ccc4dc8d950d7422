import Derived.Test.YtipmoeclkamciaaVE
import Derived.Test.YtipmoeclkamciaaYRef6
import Derived.Test.YtipmoeclkamciaaYLaw
/- A region that draws its order, of which only the end is to be looked at. -/
set_option linter.unusedSimpArgs false
set_option linter.unusedVariables false
set_option linter.unusedSectionVars false
namespace Go.V
variable {P : Program} {cfg : Cfg}
theorem wpt_acc {N : Nat} {all : Array Oper} : ∀ (l : List Oper) (s : Sl) (m : Mem) (a b : List (Sl × Mem)) (K : List (Sl × Mem) → Sl → Mem → Prop), (∀ t s m, K (a ++ t) s m → K (b ++ t) s m) → wpt P cfg N all l s m a K → wpt P cfg N all l s m b K
  | [], s, m, a, b, K, hk, h => hk _ _ _ h
  | o :: l, s, m, a, b, K, hk, h => by
    simp only [wpt] at h ⊢
    have hk2 : ∀ (x : Sl × Mem) t s m, K ((a ++ [x]) ++ t) s m → K ((b ++ [x]) ++ t) s m := fun x t s m h => by
      rw [List.append_assoc] at h ⊢
      exact hk _ _ _ h
    exact wpIf_mono h (fun h => wps_mono h fun v m1 h => wpP_mono h fun s1 h => wpt_acc l s1 m1 _ _ K (hk2 _) h) (fun h => wpP_mono h fun s1 h => wpt_acc l s1 m _ _ K (hk2 _) h)
theorem wpt_late {N : Nat} {all : Array Oper} (D : List (Sl × Mem)) (rest : List Oper) (K : List (Sl × Mem) → Sl → Mem → Prop) (hK : ∀ a t s m, a.length = D.length → K (D ++ t) s m → K (a ++ t) s m) : ∀ (l : List Oper) (s : Sl) (m : Mem) (acc : List (Sl × Mem)), acc.length + l.length = D.length → wpo P cfg N all l s m (fun s m => wpt P cfg N all rest s m D K) → wpt P cfg N all (l ++ rest) s m acc K
  | [], s, m, acc, hl, h => wpt_acc rest s m D acc K (fun t s m h => hK acc t s m (by simpa using hl) h) h
  | o :: l, s, m, acc, hl, h => by
    simp only [wpo] at h
    simp only [List.cons_append, wpt]
    have hl2 : ∀ x : Sl × Mem, (acc ++ [x]).length + l.length = D.length := fun x => by simp at hl ⊢; omega
    exact wpIf_mono h (fun h => wps_mono h fun v m1 h => wpP_mono h fun s1 h => wpt_late D rest K hK l s1 m1 _ (hl2 _) h) (fun h => wpP_mono h fun s1 h => wpt_late D rest K hK l s1 m _ (hl2 _) h)
theorem metAt_late {all : Array Oper} {D a t : List (Sl × Mem)} {p : Nat × Nat} (hl : a.length = D.length) (h1 : D.length ≤ p.1) (h2 : D.length ≤ p.2) : metAt all (a ++ t) p = metAt all (D ++ t) p := by
  have e : ∀ i, D.length ≤ i → (a ++ t)[i]? = (D ++ t)[i]? := fun i hi => by
    rw [List.getElem?_append_right (by omega), List.getElem?_append_right hi, hl]
  have e3 : ∀ i id, D.length ≤ i → verKept (a ++ t) i id = verKept (D ++ t) i id := fun i id hi => by
    unfold verKept
    rw [e i hi, e (i + 1) (by omega)]
  unfold metAt metOk
  rw [e _ h1, e _ h2]
  simp only [e3 _ _ h1, e3 _ _ h2]
theorem go_drawL {N : Nat} {Q : Ex → Sl → Mem → Prop} {id : Nat} {ops : List Oper} {k : List It} {s : Sl} {m : Mem} (n : Nat) (h : drawOk ⟨ops⟩ = true) (hn : n ≤ ops.length) (h0 : ((metL ⟨ops⟩).all fun p => decide (n ≤ p.1) && decide (n ≤ p.2)) = true) (h2 : go P cfg N Q (.ops ⟨ops⟩ (ops.take n) :: .opt ⟨ops⟩ (ops.drop n) (List.replicate n (.nil, Mem.empty)) :: k) s m) : go P cfg N Q (.code (.region id ⟨ops⟩ true) :: k) s m := by
  refine go_draw_of h ?_
  show wpt P cfg N ⟨ops⟩ ops s m [] _
  have e : ops.take n ++ ops.drop n = ops := List.take_append_drop n ops
  have key := wpt_late (P := P) (cfg := cfg) (N := N) (all := ⟨ops⟩) (List.replicate n (.nil, Mem.empty)) (ops.drop n) (fun ms s m => (metL ⟨ops⟩).all (metAt ⟨ops⟩ ms) = true ∧ goE P cfg N Q k .normal s m) (fun a t s m hl hk => by
    refine ⟨?_, hk.2⟩
    have h3 := hk.1
    rw [List.all_eq_true] at h0 h3 ⊢
    intro p hp
    have h4 := h0 p hp
    simp only [Bool.and_eq_true, decide_eq_true_eq] at h4
    rw [metAt_late hl (by simpa using h4.1) (by simpa using h4.2)]
    exact h3 p hp) (ops.take n) s m [] (by simp; omega) h2
  rw [e] at key
  exact key
end Go.V

/- The reference: the rest of a pair; a pair. -/
namespace Go.Proofs.Ytipmoeclkamciaa
open Go.V
attribute [local simp] Nat.add_assoc

theorem g24 (d : Dat) (hd : d.fits) : Gives Try.prog cf 24 [enc d] (.tup [enc (hlv d).2.1, int (hlv d).2.2]) := by
  refine gives_run Try.func24 rfl rfl rfl rfl (by simp) (by simp [Try.f24]) (by simp [Try.f24]) fun m => ?_
  have c := g50 d hd
  by_cases h : (hlv d).2.2 = 0
  · have ok := hlv_ok h
    have c32 := g32 _ (hlv_fits hd).2
    have hp : par d = 0 := h
    rw [hp] at c
    have e32 : cln (hlv d).2.1 = (hlv d).2.1 := if_pos ok.2
    rw [e32] at c32
    rw [h]
    clear e32 ok h
    obtain ⟨K, N, S, M, L, T⟩ := d
    have hp' := hp
    rw [par_eq] at hp'
    have h0 : chk (.mk K N S M L T) = 0 := by
      by_cases h0 : chk (.mk K N S M L T) = 0
      · exact h0
      · simp [h0] at hp'
    have hK : (K = 6 ∨ K = 7) ∧ L ≠ [] := by
      by_cases hK : (K = 6 ∨ K = 7) ∧ L ≠ []
      · exact hK
      · rw [if_pos h0, if_neg hK] at hp'; exact absurd hp' (by decide)
    obtain ⟨hK, hL⟩ := hK
    obtain ⟨l, r, rfl⟩ : ∃ l r, L = l :: r := by
      cases L with
      | nil => exact absurd rfl hL
      | cons l r => exact ⟨l, r, rfl⟩
    have ixl := fun (x : Dat) (l : List AV) => aindexAddr_lst0 (P := Try.prog) (T := 23) (q := .i64) Try.underlying23 tsize25 (l := l) (enc_cells_length x)
    by_cases h7 : K = 7 ∧ r = []
    · obtain ⟨rfl, rfl⟩ := h7
      obtain ⟨_, t, rfl⟩ := alone_dot (chk_alone h0)
      have el : (hlv (.mk 7 N S M [l] [t])).2.1 = t := by simp [hlv, h0]
      rw [el] at c32 ⊢
      simp only [enc, encs] at c ⊢
      simp [Try.f24, show cf.keepRes 24 = false from rfl, c.go, ixl, c32.go]
    · have el : (hlv (.mk K N S M (l :: r) T)).2.1 = .mk K 0 [] [] r T := by simp [hlv, h0, hK, h7]
      rw [el] at c32 ⊢
      have sl : aslice Try.prog 23 (.lst (enc l :: encs r)) (some (int 1)) none none = some (.lst (encs r)) := by
        have := aslice_lst (P := Try.prog) (T := 23) (xs := enc l :: encs r) (lo := some (int 1)) (hi := none) (l := some 1) (h := none) Try.underlying23 tsize25 (by simp [obnd]) obnd_none (by simp) (by simp) (by simp [okAll_cons])
        simpa [List.take_of_length_le] using this
      simp only [enc, encs, List.map_nil] at c c32 ⊢
      rcases hK with rfl | rfl
      · simp [Try.f24, show cf.keepRes 24 = false from rfl, c.go]
        refine go_draw0 (by kernel_rfl) (by kernel_rfl) ?_
        simp [sl, abuild, placesOf, fillAt, zeroCells]
        refine goH_fz c32 (?_ : (fzvs _ _).1 = _) ?_
        · simp
        simp
      · have hr : r ≠ [] := fun e => h7 ⟨rfl, e⟩
        have hr1 : ¬ ((r.length : Int) + 1 = 1) := by
          intro e
          exact hr (List.length_eq_zero_iff.1 (by omega))
        simp [Try.f24, show cf.keepRes 24 = false from rfl, c.go, hr1, hr]
        refine go_draw0 (by kernel_rfl) (by kernel_rfl) ?_
        simp [sl, abuild, placesOf, fillAt, zeroCells]
        refine goH_fz c32 (?_ : (fzvs _ _).1 = _) ?_
        · simp
        simp
  · have hp : par d ≠ 0 := h
    rw [(hlv_no h).2]
    have e : (hlv d).2.2 = par d := rfl
    rw [e]
    simp [Try.f24, show cf.keepRes 24 = false from rfl, c.go, hp, abuild, placesOf, fillAt]
end Go.Proofs.Ytipmoeclkamciaa

/- The reference: putting a pair together. -/
namespace Go.Proofs.Ytipmoeclkamciaa
open Go.V
attribute [local simp] Nat.add_assoc

def cellsAt (m : Mem) (id : Nat) : Option (List AV) := match m.get id with
  | some (.cells cs _ _) => some cs
  | _ => none
theorem cellsAt_eq {m : Mem} {id : Nat} {cs : List AV} (h : cellsAt m id = some cs) : ∃ f v, m.get id = some (.cells cs f v) := by
  unfold cellsAt at h
  split at h
  · cases h; exact ⟨_, _, ‹_›⟩
  · cases h
theorem app_pair (a : Dat) (b : Dat) (r : List Dat) (hl : r.length < 2 ^ 21) (m : Mem) (id : Nat) (h : cellsAt m id = some (enc a).cells) : aappend Try.prog 23 (.sl id 0 1 6 true (some 1)) none (some (enc b :: encs r)) m = some (.sl m.next 0 (r.length + 2) 6 true none, m.new ((enc a).cells ++ flat (enc b :: encs r)) false) := by
  obtain ⟨f, v, hg⟩ := cellsAt_eq h
  have := aapp_cap (ag' := true) (len := 1) (c := 1) (m := m) el23 (ys := encs (b :: r)) (ys' := encs (b :: r)) (by simp [encs]) (okAll_encs _) (by simp) hg (by simp) (by simp) (by simp; omega)
  simpa [encs, Nat.add_comm, Nat.add_left_comm] using this
def markAt (m : Mem) (id : Nat) : Mem := match m.get id with
  | some (.cells cs _ v) => m.mark id cs v
  | _ => m
theorem fz_pair (a b : Dat) (r : List Dat) (m : Mem) (id : Nat) (h : cellsAt m id = some ((enc a).cells ++ flat (enc b :: encs r))) : fz1 m (.sl id 0 (r.length + 2) 6 true none) = (.lst (enc a :: enc b :: encs r), markAt m id) := by
  obtain ⟨f, v, hg⟩ := cellsAt_eq h
  have e : (enc a).cells ++ flat (enc b :: encs r) = flat (encs (a :: b :: r)) := by simp [encs, flat_cons]
  rw [e] at hg
  have := fz1_row (k := 6) (ag := true) (cap := none) rfl hg (fun y hy => by rw [encs_map] at hy; obtain ⟨x, _, rfl⟩ := List.mem_map.1 hy; simp) (okAll_encs _)
  have hl : (encs (a :: b :: r)).length = r.length + 2 := by simp
  rw [hl] at this
  rw [this]
  simp [markAt, hg, encs]

theorem g20 (a d : Dat) (ha : a.fits) (hd : d.fits) : Gives Try.prog cf 20 [enc a, enc d] (.tup [enc (cns a d).1, int (cns a d).2]) := by
  refine gives_run Try.func20 rfl rfl rfl rfl (by simp) (by simp [Try.f20]) (by simp [Try.f20]) fun m => ?_
  by_cases h1 : chk a = 0
  · by_cases h2 : chk d = 0
    · have hr := raw_fits ha hd h2
      obtain ⟨K, N, S, M, L, T⟩ := d
      have g15d := g15 _ hd
      have g15r := g15 _ hr
      have g32r := g32 _ hr
      have hl := (alone_fits hd).l
      by_cases hK : K = 6 ∨ K = 7
      · have er : raw a (.mk K N S M L T) = .mk K 0 [] [] (a :: L) T := by simp [raw, hK]
        rw [er] at g15r g32r
        have ec : cns a (.mk K N S M L T) = if chk (.mk K 0 [] [] (a :: L) T) = 0 then (.mk K 0 [] [] (a :: L) T, 0) else (.zero, chk (.mk K 0 [] [] (a :: L) T)) := by simp only [cns, h1, h2, er, if_true]
        rw [ec]
        have eK : decide (K = 6) = true ∨ (decide (K = 6) = false ∧ K = 7) := by rcases hK with rfl | rfl <;> simp
        simp only [enc, encs, List.map_nil] at g15d g15r g32r ⊢
        rcases hK with rfl | rfl
        · simp [Try.f20, show cf.keepRes 20 = false from rfl, (g15 a ha).go, g15d.go, h1, h2, abuildSlice, fillAt, zeros, fz1, chunk, abuild, placesOf, zeroCells]
          refine go_draw_of (by kernel_rfl) ?_
          cases L with
          | nil =>
            have e2 := fun m id => aapp_none (m := m) (s := .sl id 0 1 6 true (some 1)) el23 (.inr ⟨_, _, _, _, _, _, rfl⟩)
            simp [abuildSlice, fillAt, zeros, encs, srcOf, elemsOf, e2, abuild, placesOf, zeroCells]
            refine goM_of (l := [(1, 3), (3, 5), (1, 6), (3, 8), (6, 8)]) (by kernel_rfl) (?_ : List.all _ _ = true) ?_
            · simp [metAt, metOk, rank, objOf, verKept, Region.wanted, Mem.ver]
            simp
            refine goH_fz g15r (?_ : (fzvs _ _).1 = _) ?_
            · simp [fz1, chunk, encs]
            by_cases h3 : chk (.mk 6 0 [] [] [a] T) = 0
            · have e32 : cln (.mk 6 0 [] [] [a] T) = .mk 6 0 [] [] [a] T := if_pos h3
              rw [e32] at g32r
              simp [h3, fz1, chunk]
              refine goH_fz g32r (?_ : (fzvs _ _).1 = _) ?_
              · simp [fz1, chunk, encs, enc]
              simp [fz1, chunk]
              try simp [enc, encs]
            · simp [h3, abuild, placesOf, fillAt, zeroCells, fz1, chunk]
              try simp [enc_zero]
          | cons b r =>
            simp [abuildSlice, fillAt, zeros, encs, srcOf, elemsOf, app_pair a b r (by simp at hl; omega), cellsAt, abuild, placesOf, zeroCells]
            refine goM_of (l := [(1, 3), (3, 5), (1, 6), (3, 8), (6, 8)]) (by kernel_rfl) (?_ : List.all _ _ = true) ?_
            · simp [metAt, metOk, rank, objOf, verKept, Region.wanted, Mem.ver]
            have fp := fz_pair a b r
            simp
            refine goH_fz g15r (?_ : (fzvs _ _).1 = _) ?_
            · simp [fp, cellsAt, encs]
            by_cases h3 : chk (.mk 6 0 [] [] (a :: b :: r) T) = 0
            · have e32 : cln (.mk 6 0 [] [] (a :: b :: r) T) = .mk 6 0 [] [] (a :: b :: r) T := if_pos h3
              rw [e32] at g32r
              simp [h3, fp, cellsAt, markAt]
              refine goH_fz g32r (?_ : (fzvs _ _).1 = _) ?_
              · simp [fp, cellsAt, encs, enc]
              simp [fp, cellsAt, markAt]
              try simp [enc, encs]
            · simp [h3, abuild, placesOf, fillAt, zeroCells, fp, cellsAt, markAt]
              try simp [enc_zero]
        · simp [Try.f20, show cf.keepRes 20 = false from rfl, (g15 a ha).go, g15d.go, h1, h2, abuildSlice, fillAt, zeros, fz1, chunk, abuild, placesOf, zeroCells]
          refine go_draw_of (by kernel_rfl) ?_
          cases L with
          | nil =>
            have e2 := fun m id => aapp_none (m := m) (s := .sl id 0 1 6 true (some 1)) el23 (.inr ⟨_, _, _, _, _, _, rfl⟩)
            simp [abuildSlice, fillAt, zeros, encs, srcOf, elemsOf, e2, abuild, placesOf, zeroCells]
            refine goM_of (l := [(1, 3), (3, 5), (1, 6), (3, 8), (6, 8)]) (by kernel_rfl) (?_ : List.all _ _ = true) ?_
            · simp [metAt, metOk, rank, objOf, verKept, Region.wanted, Mem.ver]
            simp
            refine goH_fz g15r (?_ : (fzvs _ _).1 = _) ?_
            · simp [fz1, chunk, encs]
            by_cases h3 : chk (.mk 7 0 [] [] [a] T) = 0
            · have e32 : cln (.mk 7 0 [] [] [a] T) = .mk 7 0 [] [] [a] T := if_pos h3
              rw [e32] at g32r
              simp [h3, fz1, chunk]
              refine goH_fz g32r (?_ : (fzvs _ _).1 = _) ?_
              · simp [fz1, chunk, encs, enc]
              simp [fz1, chunk]
              try simp [enc, encs]
            · simp [h3, abuild, placesOf, fillAt, zeroCells, fz1, chunk]
              try simp [enc_zero]
          | cons b r =>
            simp [abuildSlice, fillAt, zeros, encs, srcOf, elemsOf, app_pair a b r (by simp at hl; omega), cellsAt, abuild, placesOf, zeroCells]
            refine goM_of (l := [(1, 3), (3, 5), (1, 6), (3, 8), (6, 8)]) (by kernel_rfl) (?_ : List.all _ _ = true) ?_
            · simp [metAt, metOk, rank, objOf, verKept, Region.wanted, Mem.ver]
            have fp := fz_pair a b r
            simp
            refine goH_fz g15r (?_ : (fzvs _ _).1 = _) ?_
            · simp [fp, cellsAt, encs]
            by_cases h3 : chk (.mk 7 0 [] [] (a :: b :: r) T) = 0
            · have e32 : cln (.mk 7 0 [] [] (a :: b :: r) T) = .mk 7 0 [] [] (a :: b :: r) T := if_pos h3
              rw [e32] at g32r
              simp [h3, fp, cellsAt, markAt]
              refine goH_fz g32r (?_ : (fzvs _ _).1 = _) ?_
              · simp [fp, cellsAt, encs, enc]
              simp [fp, cellsAt, markAt]
              try simp [enc, encs]
            · simp [h3, abuild, placesOf, fillAt, zeroCells, fp, cellsAt, markAt]
              try simp [enc_zero]
      · have er : raw a (.mk K N S M L T) = .mk 7 0 [] [] [a] [.mk K N S M L T] := by simp [raw, hK]
        rw [er] at g15r g32r
        have ec : cns a (.mk K N S M L T) = if chk (.mk 7 0 [] [] [a] [.mk K N S M L T]) = 0 then (.mk 7 0 [] [] [a] [.mk K N S M L T], 0) else (.zero, chk (.mk 7 0 [] [] [a] [.mk K N S M L T])) := by simp only [cns, h1, h2, er, if_true]
        rw [ec]
        simp only [enc, encs, List.map_nil] at g15d g15r g32r ⊢
        have h6 : ¬ K = 6 := fun e => hK (.inl e)
        have h7 : ¬ K = 7 := fun e => hK (.inr e)
        simp [Try.f20, show cf.keepRes 20 = false from rfl, (g15 a ha).go, g15d.go, h1, h2, h6, h7, abuildSlice, fillAt, zeros, fz1, chunk, abuild, placesOf, zeroCells]
        refine goH_fz g15r (?_ : (fzvs _ _).1 = _) ?_
        · simp [fz1, chunk]
        by_cases h3 : chk (.mk 7 0 [] [] [a] [.mk K N S M L T]) = 0
        · have e32 : cln (.mk 7 0 [] [] [a] [.mk K N S M L T]) = .mk 7 0 [] [] [a] [.mk K N S M L T] := if_pos h3
          rw [e32] at g32r
          simp [h3, fz1, chunk]
          refine goH_fz g32r (?_ : (fzvs _ _).1 = _) ?_
          · simp [fz1, chunk, encs, enc]
          simp [fz1, chunk]
          try simp [enc, encs]
        · simp [h3, abuild, placesOf, fillAt, zeroCells, fz1, chunk]
          try simp [enc_zero]
    · have ec : cns a d = (.zero, chk d) := by simp [cns, h1, h2]
      rw [ec]
      simp [Try.f20, show cf.keepRes 20 = false from rfl, (g15 a ha).go, (g15 d hd).go, h1, h2, abuild, placesOf, fillAt]
      try simp [enc_zero]
  · have ec : cns a d = (.zero, chk a) := by simp [cns, h1]
    rw [ec]
    simp [Try.f20, show cf.keepRes 20 = false from rfl, (g15 a ha).go, h1, abuild, placesOf, fillAt]
    try simp [enc_zero]
end Go.Proofs.Ytipmoeclkamciaa

/- DatumPairs: the walk. -/
namespace Go.Proofs.Ytipmoeclkamciaa
open Go.V
attribute [local simp] Nat.add_assoc

def ali (a b : Dat) : Bool := sam a b || (zro a && zro b)
theorem g25 (a b : Dat) (ha : a.fits) (hb : b.fits) : Gives Try.prog cf 25 [enc a, enc b] (.sc (.bool (ali a b))) := by
  refine gives_run Try.func25 rfl rfl rfl rfl (by simp) (by simp [Try.f25]) (by simp [Try.f25]) fun m => ?_
  cases h1 : sam a b with
  | true => simp [Try.f25, show cf.keepRes 25 = false from rfl, (g26 a b ha hb).go, h1, ali, undefV, undef]
  | false => cases h2 : zro a <;> simp [Try.f25, show cf.keepRes 25 = false from rfl, (g26 a b ha hb).go, (g38 a ha).go, (g38 b hb).go, h1, h2, ali]
theorem ali_zero : ali .zero .zero = true := by simp [ali, zro, Dat.zero]
theorem ali_ok {d : Dat} (h : chk d = 0 ∨ d = .zero) : ali d d = true := by
  rcases h with h | rfl
  · simp [ali, sam_refl h]
  · exact ali_zero
theorem cns_or (a d : Dat) : chk (cns a d).1 = 0 ∨ (cns a d).1 = .zero := by
  unfold cns
  split
  · split
    · split
      · exact .inl ‹_›
      · exact .inr rfl
    · exact .inr rfl
  · exact .inr rfl
theorem hlv1_or (d : Dat) : chk (hlv d).1 = 0 ∨ (hlv d).1 = .zero := by
  by_cases h : (hlv d).2.2 = 0
  · exact .inl (hlv_ok h).1
  · exact .inr (hlv_no h).1
theorem hlv2_or (d : Dat) : chk (hlv d).2.1 = 0 ∨ (hlv d).2.1 = .zero := by
  by_cases h : (hlv d).2.2 = 0
  · exact .inl (hlv_ok h).2
  · exact .inr (hlv_no h).2

set_option maxRecDepth 100000 in
set_option maxHeartbeats 8000000 in
theorem g5 (a d : Dat) (l : List Dat) (ha : a.fits) (hd : d.fits) (hl : fitss l) (hn : l.length < 2 ^ 21) : Gives Try.prog cf 5 [enc a, enc d, .lst (encs l)] (.sc (.bool true)) := by
  refine gives_run Try.func5 rfl rfl rfl rfl (by simp) (by simp [Try.f5]) (by simp [Try.f5]) fun m => ?_
  simp only [Try.f5, show cf.keepRes 5 = false from rfl]
  simp only [toArray_mk, append_app, List.cons_append, List.nil_append]
  simp [g10.go, (g11 a).go, (g11 d).go]
  cases h1 : sml a with
  | false => simp [g10.go]
  | true =>
    simp [(g11 d).go]
    cases h2 : sml d with
    | false => simp [g10.go]
    | true =>
      simp
      by_cases h100 : (100 : Int) < l.length
      · simp [h100, g10.go]
      · have c18 := g18 l hn
        have c27 := g27 l hn
        have fl : (lis l).fits := fits_mk hl trivial hn (by simp)
        have c15 := g15 _ fl
        have c26 := g26 _ _ fl fl
        rw [enc_lis] at c18 c27 c15 c26
        have a1 := ali_ok (cns_or a d)
        have a2 := ali_ok (hlv1_or d)
        have a3 := ali_ok (hlv2_or d)
        have c25a := g25 _ _ (cns_fits ha hd) (cns_fits ha hd)
        have c25b := g25 _ _ (hlv_fits hd).1 (hlv_fits hd).1
        have c25c := g25 _ _ (hlv_fits hd).2 (hlv_fits hd).2
        rw [a1] at c25a
        rw [a2] at c25b
        rw [a3] at c25c
        simp [h100, (g19 a d ha hd).go, (g20 a d ha hd).go, (g21 d hd).go, (g22 d hd).go, (g23 d hd).go, (g24 d hd).go, c18.go]
        refine go_drawL 46 (by kernel_rfl) (of_decide_eq_true (by kernel_rfl)) (by kernel_rfl) ?_
        obtain ⟨D, hD⟩ : ∃ D, D = List.replicate 46 ((Tr.nil, Mem.empty) : Sl × Mem) := ⟨_, rfl⟩
        have hDl : D.length = 46 := by rw [hD]; exact List.length_replicate
        rw [← hD]
        clear hD
        simp only [List.take_succ_cons, List.take_zero, List.drop_succ_cons, List.drop_zero]
        by_cases h3 : chk (lis l) = 0
        · simp [c25a.go, c25b.go, c25c.go, c15.go, h3, c27.go, c26.go, sam_refl h3]
          refine goM_of (l := [(46, 48)]) (by kernel_rfl) (?_ : List.all _ _ = true) ?_
          · simp [metAt, metOk, rank, objOf, verKept, Region.wanted, Mem.ver, hDl, List.getElem?_append]
          simp
        · simp [c25a.go, c25b.go, c25c.go, c15.go, h3]
          refine goM_of (l := [(46, 48)]) (by kernel_rfl) (?_ : List.all _ _ = true) ?_
          · simp [metAt, metOk, rank, objOf, verKept, Region.wanted, Mem.ver, hDl, List.getElem?_append]
          simp
end Go.Proofs.Ytipmoeclkamciaa
