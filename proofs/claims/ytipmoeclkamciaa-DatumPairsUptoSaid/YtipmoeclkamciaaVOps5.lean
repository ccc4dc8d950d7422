/- The abstract operations are sound: append, copy, the builtin functions; every operation that calls nothing. -/
import Derived.Test.YtipmoeclkamciaaVOps4
set_option linter.unusedSimpArgs false
set_option linter.unusedVariables false
set_option linter.unusedSectionVars false
namespace Go.V
open Go.RowKit
variable {P : Program} {B : Nat} {W : World} {g : G} {m : Mem} {w : World}

theorem all_cells {ys : List AV} {us : List Value} {k : Nat} (h : Rels g ys us) (ha : (ys.all fun v => v.okc && v.cells.length == k) = true) : (∀ u ∈ us, u.cells.size = k) ∧ ∀ c ∈ vflat us, c.oneCell' = true := by
  have key : ∀ u ∈ us, u.cells.size = k ∧ ∀ c ∈ u.cells.toList, c.oneCell' = true := by
    intro u hu
    obtain ⟨i, hi⟩ := List.getElem?_of_mem hu
    obtain ⟨y, hy, hr⟩ := h.get' i u hi
    have := List.all_eq_true.1 ha y (List.mem_of_getElem? hy)
    simp only [Bool.and_eq_true, beq_iff_eq] at this
    exact ⟨by rw [← this.2, ← hr.cells.length]; simp, hr.one this.1⟩
  refine ⟨fun u hu => (key u hu).1, fun c hc => ?_⟩
  simp only [vflat, List.mem_flatMap] at hc
  obtain ⟨u, hu, hcu⟩ := hc
  exact (key u hu).2 c hcu

theorem aappend_sound (h : WR B W g m w) {T u : TypeId} {s : AV} {vs x : Value} (ks : Rel g s vs) {zs : Option Nat} {src : Option (List AV)} {r : AV} {m' : Mem} (e : aappend P T s zs src m = some (r, m')) (ty : TypeId)
    (hsrc : ∀ el k by_ z zv ys0, telem P T = some el → tsize P el = some k → tbytes P el = some by_ → tzero P el = some z → z = ofConst zv → z.cells.length = k → 0 < k → P.underlying T = some (.slice el) → (∃ i, P.info? el = some i ∧ i.size = k ∧ i.bytes = by_ ∧ i.zero = some zv) →
      (match zs with | some n => (tzero P el).map (List.replicate n) | Option.none => src) = some ys0 → (ys0.all fun v => v.okc && v.cells.length == k) = true → (ys0 ≠ [] → ys0.length * by_ ≤ 2 ^ 46) →
      ∃ us, Rels g ys0 us ∧ Src P w T u el k by_ zv x ys0.length (vflat us)) :
    ∃ v w' g', (Builtin.append_ #[T, u] ty #[vs, x]).run P w = .ok v w' ∧ g.le g' ∧ Rel g' r v ∧ WR B W g' m' w' := by
  unfold aappend at e
  split at e
  · rename_i el ht
    split at e
    · rename_i k by_ z ag ys0 hs hb hz hag hys
      split at e
      · rename_i hc
        obtain ⟨c1, c2, c3⟩ := hc
        obtain ⟨i, zv, hi, hsz, hby, hzz, hzc⟩ := info_tb hs hb hz
        split at e
        · -- nothing is appended
          obtain ⟨us, r1, S⟩ := hsrc el k by_ z zv [] ht hs hb hz hzc c2 c1 (of_telem ht) ⟨i, hi, hsz, hby, hzz⟩ hys c3 (by simp)
          have hus : us = [] := by simpa [Rels] using r1
          subst hus
          have same : ∀ (ad : Option Addr) (n c : Nat), vs = .slice ad n c → n ≤ c → (Builtin.append_ #[T, u] ty #[vs, x]).run P w = .ok vs w := by
            intro ad n c hv hn
            subst hv
            rw [S.here ad n c ty (by simpa using hn)]
            cases ad <;> simp [vflat, storeCells]
          split at e
          · cases e
            rename_i n
            match n, ks with
            | 0, ks => have := ks; simp only [Rel] at this; exact ⟨vs, w, g, same _ _ _ this (Nat.le_refl _), .refl g, ks, h⟩
            | 1, ks => have := ks; simp only [Rel] at this; obtain ⟨_, this⟩ := this; exact ⟨vs, w, g, same _ _ _ this (Nat.le_refl _), .refl g, ks, h⟩
            | 2, ks => have := ks; simp only [Rel] at this; obtain ⟨_, _, this⟩ := this; exact ⟨vs, w, g, same _ _ _ this (Nat.zero_le _), .refl g, ks, h⟩
            | n + 3, ks => exact ks.elim
          · cases e
            have := ks
            simp only [Rel] at this
            obtain ⟨a, c, _, _, hv, _, hn, _⟩ := this
            exact ⟨vs, w, g, same _ _ _ hv hn.1, .refl g, ks, h⟩
          · cases e
            have := ks
            simp only [Rel] at this
            obtain ⟨_, a, c, hv, hn, _⟩ := this
            exact ⟨vs, w, g, same _ _ _ hv hn, .refl g, ks, h⟩
          · cases e
        · rename_i hne
          have hne' : ys0 ≠ [] := fun e' => hne e'
          dsimp only at e
          generalize hfz : fzvs m ys0 = fz at *
          obtain ⟨ys, m1⟩ := fz
          dsimp only at e
          have hyl : ys.length = ys0.length := by
            have : ∀ (l : List AV) (m : Mem), (fzvs m l).1.length = l.length := by
              intro l
              induction l with
              | nil => intro m; rfl
              | cons a l ih => intro m; simp [fzvs, ih]
            have := this ys0 m
            rw [hfz] at this
            exact this
          have hpos : 0 < ys0.length := List.length_pos_iff.2 hne'
          -- a new block
          have grown : ∀ (ad : Option Addr) (len c : Nat) (olds : List AV) (ovs : List Value) (g1 : G) (m2 : Mem) (f : Bool) (us : List Value), vs = .slice ad len c → WR B W g1 m2 w → g.le g1 → m2.next = g1.n → Rels g1 olds ovs → (∀ u ∈ ovs, u.oneCell' = true) → olds.length = len * k → Rels g ys0 us → Rels g1 ys us →
              Src P w T u el k by_ zv x ys0.length (vflat us) → c < len + ys0.length → len + ys0.length ≤ 2 ^ 46 → (len + ys0.length) * by_ ≤ 2 ^ 46 →
              (Builtin.firstCells k len (.slice ad len c)).run P w.drew = .ok ovs.toArray w.drew →
              ∃ v w' g', (Builtin.append_ #[T, u] ty #[vs, x]).run P w = .ok v w' ∧ g.le g' ∧ Rel g' (.sl m2.next 0 (len + ys.length) k ag Option.none) v ∧ WR B W g' (m2.new (olds ++ flat ys) f) w' := by
            intro ad len c olds ovs g1 m2 f us hv w1 l1 hn1 ro oo lo r0 r1 S hg h63 h46 hf
            obtain ⟨hk1, hk2⟩ := all_cells r0 c3
            subst hv
            have hrun := S.grow ad len c ty ovs hg h63 h46 hf
            have hcap := grownCap_ge w (len + ys0.length) c el
            have hnew := (w1.drew).new (post := (Builtin.zeroCells zv.cells (grownCap w (len + ys0.length) c el - (len + ys0.length))).toList) (ro.append (rels_flat r1)) (fun u hu => by
              rcases List.mem_append.1 hu with hu | hu
              · exact oo u hu
              · exact hk2 u hu) f el
            refine ⟨_, _, _, hrun, l1.trans (G.le_new _ _ _ _ _), ?_, hnew⟩
            · rw [hyl, hn1]
              have hvl := vflat_length k us hk1
              have hul := r0.length
              have hzk : zv.cells.size = k := by
                have : Rel g z zv := by rw [hzc]; exact rel_ofConst zv
                rw [← c2, ← this.cells.length]; simp
              refine rel_new_sl g1 _ _ _ _ _ _ _ _ hcap ?_ (by simp) (fun _ => ?_)
              · simp only [List.length_append, Array.length_toList, size_zeroCells, hzk, hvl, ro.length, lo, hul]
                rw [Nat.sub_mul, Nat.add_mul]
                have : (len + ys0.length) * k ≤ grownCap w (len + ys0.length) c el * k := Nat.mul_le_mul_right _ hcap
                rw [Nat.add_mul] at this
                omega
              · have : (olds ++ flat ys).length = (len + ys0.length) * k := by
                  rw [List.length_append, lo, ← (rels_flat r1).length, hvl, hul, Nat.add_mul]
                rw [this]
                exact Nat.mul_le_mul_right _ hcap
          have srcs : ys0.length * by_ ≤ 2 ^ 46 → ∃ us g1, Rels g ys0 us ∧ Src P w T u el k by_ zv x ys0.length (vflat us) ∧ g.le g1 ∧ WR B W g1 m1 w ∧ Rels g1 ys us := by
            intro hb46
            obtain ⟨us, r0, S⟩ := hsrc el k by_ z zv ys0 ht hs hb hz hzc c2 c1 (of_telem ht) ⟨i, hi, hsz, hby, hzz⟩ hys c3 (fun _ => hb46)
            obtain ⟨g1, l1, w1, r1⟩ := fzvs_sound ys0 h r0
            rw [hfz] at w1 r1
            exact ⟨us, g1, r0, S, l1, w1, r1⟩
          split at e
          · split at e
            · rename_i hc'
              cases e
              rw [hyl] at hc'
              obtain ⟨us, g1, r0, S, l1, w1, r1⟩ := srcs hc'.1
              simp only [Rel] at ks
              have := grown none 0 0 [] [] g1 m1 false us ks w1 l1 w1.n .nil (by simp) (by simp) r0 r1 S (by omega) (by omega) (by simpa using hc'.1) (by simp [Builtin.firstCells])
              simpa using this
            · cases e
          · split at e
            · rename_i hc'
              cases e
              rw [hyl] at hc'
              obtain ⟨us, g1, r0, S, l1, w1, r1⟩ := srcs hc'.1
              simp only [Rel] at ks
              obtain ⟨a, ks⟩ := ks
              have := grown a 0 0 [] [] g1 m1 false us ks w1 l1 w1.n .nil (by simp) (by simp) r0 r1 S (by omega) (by omega) (by simpa using hc'.1) (by cases a <;> simp [Builtin.firstCells, loadCells, loadCellsFrom])
              simpa using this
            · cases e
          · rename_i id off len k' ag' cap
            split at e
            · rename_i cs fz ver hg
              split at e
              · rename_i hc'
                obtain ⟨rfl, d2, d3, d4⟩ := hc'
                rw [hyl] at d2 d3 e
                have hb46 : ys0.length * by_ ≤ 2 ^ 46 := Nat.le_trans (Nat.mul_le_mul_right _ (Nat.le_add_left _ _)) d2
                obtain ⟨us, g1, r0, S, l1, w1, r1⟩ := srcs hb46
                obtain ⟨hk1, hk2⟩ := all_cells r0 c3
                have hvl := vflat_length k' us hk1
                have hul := r0.length
                have ks1 := ks.mono l1
                have ks2 := ks1
                simp only [Rel] at ks1
                obtain ⟨hid, a, c, hv, hlc, ha, hcap, hln⟩ := ks1
                obtain ⟨cvs, q1, q2, q3⟩ := w1.cells hg
                have hcl := q1.length
                obtain ⟨⟨hB, hcsl⟩, ⟨_, _, _, _, _, _, _, _, _⟩, _⟩ := w1.objs id cs fz ver hg
                -- the elder elements, read
                have hold : (Builtin.firstCells k' len (.slice (some a) len c)).run P w.drew = .ok ((cvs.drop off).take (len * k')).toArray w.drew := by
                  simp only [Builtin.firstCells]
                  have hll : ((cvs.drop off).take (len * k')).length = len * k' := by simp; omega
                  have hrd := run_loadCells_list (P := P) w.drew a ((cvs.drop off).take (len * k')) (fun j v hj => ?_)
                  · rw [hll] at hrd; exact hrd
                  have hjl : j < len * k' := by
                    rcases Nat.lt_or_ge j (len * k') with h' | h'
                    · exact h'
                    · rw [List.getElem?_eq_none (by rw [hll]; exact h')] at hj; cases hj
                  have hc0 : c ≠ 0 := by
                    intro e0
                    have : len = 0 := by omega
                    subst this
                    simp at hjl
                  obtain ⟨rfl, _⟩ := ha hc0
                  rw [List.getElem?_take, if_pos hjl, List.getElem?_drop] at hj
                  rw [add_mk, Nat.add_assoc]
                  exact q3 _ _ hj
                have oldrel : Rels g1 ((cs.drop off).take (len * k')) ((cvs.drop off).take (len * k')) := (q1.drop off).take _
                have oldone : ∀ u ∈ (cvs.drop off).take (len * k'), u.oneCell' = true := fun u hu => q2 u (List.mem_of_mem_drop (List.mem_of_mem_take hu))
                have oldlen : ((cs.drop off).take (len * k')).length = len * k' := by simp; omega
                split at e
                · -- no room, surely
                  rename_i hcc
                  cases e
                  have hfull : c < len + ys0.length := by
                    cases cap with
                    | none => simp [full] at hcc
                    | some c' => simp [full] at hcc; rw [hcap c' rfl]; exact hcc
                  have := grown (some a) len c _ _ g1 m1 false us hv w1 l1 w1.n oldrel oldone oldlen r0 r1 S hfull d3 d2 hold
                  rw [hyl] at this
                  exact this
                · rename_i hcc
                  split at e
                  · -- in place
                    rename_i hin
                    split at e
                    · cases e
                    · rename_i hfz'
                      cases e
                      have hfz0 : fz = false := by simpa using hfz'
                      subst hfz0
                      have hmul : (len + ys0.length) * k' = len * k' + ys0.length * k' := Nat.add_mul _ _ _
                      have hroom : len + ys0.length ≤ c := by
                        cases cap with
                        | some c' => simp [full] at hcc; rw [hcap c' rfl]; exact hcc
                        | none =>
                          have h1 := hln rfl
                          rw [← hcsl] at h1
                          have h2 : (len + ys0.length) * k' ≤ c * k' := by omega
                          exact Nat.le_of_mul_le_mul_right h2 c1
                      obtain ⟨rfl, hsz'⟩ := ha (by omega)
                      have hfl : (flat ys).length = ys0.length * k' := by rw [← (rels_flat r1).length, hvl, hul]
                      obtain ⟨w', s1, s2⟩ := w1.set hg (off + len * k') (rels_flat r1) (by rw [hfl]; omega) hk2 P
                      refine ⟨.slice (some ⟨(g1.mu id).1, (g1.mu id).2 + off, none⟩) (len + ys0.length) c, w', g1, ?_, l1, ?_, s2⟩
                      · rw [hv, S.here _ _ _ ty hroom]
                        simp only [add_mk]
                        rw [Nat.add_assoc, s1]
                        rfl
                      · simp only [Rel]
                        exact ⟨hid, _, c, rfl, hroom, fun _ => ⟨rfl, hsz'⟩, hcap, hln⟩
                  · split at e
                    · -- in place, or not
                      rename_i hout hfr
                      cases e
                      by_cases hroom : len + ys0.length ≤ c
                      · obtain ⟨rfl, hsz'⟩ := ha (by omega)
                        have hmul : (len + ys0.length) * k' ≤ c * k' := Nat.mul_le_mul_right _ hroom
                        rw [Nat.add_mul] at hmul
                        have hfl : (flat ys).length = ys0.length * k' := by rw [← (rels_flat r1).length, hvl, hul]
                        obtain ⟨w', s1, s2⟩ := w1.extend hg off (len * k') d4 hfr (rels_flat r1) hk2 (by rw [hvl, hul]; omega) P
                        refine ⟨.slice (some ⟨(g1.mu id).1, (g1.mu id).2 + off, none⟩) (len + ys0.length) c, w', _, ?_, l1.trans (G.le_new _ _ _ _ _), ?_, s2⟩
                        · rw [hv, S.here _ _ _ ty hroom]
                          simp only [add_mk]
                          rw [s1]
                          rfl
                        · rw [w1.n]
                          simp only [Rel]
                          refine ⟨Nat.lt_succ_self _, _, c, rfl, hroom, fun _ => ?_, by simp, fun _ => ?_⟩
                          · simp [G.new]; omega
                          · simp [G.new, hfl]; omega
                      · have := grown (some a) len c _ _ g1 (m1.kill id) fz us hv (w1.kill id) l1 w1.n oldrel oldone oldlen r0 r1 S (by omega) d3 d2 hold
                        rw [hyl] at this
                        exact this
                    · cases e
              · cases e
            · cases e
          · cases e
      · cases e
    · cases e
  · cases e

theorem acopy_sound (h : WR B W g m w) {T u : TypeId} {d x : AV} {vd vx : Value} (kd : Rel g d vd) (kx : Rel g x vx) {r : AV} {m' : Mem} (e : acopy P T d x m = some (r, m')) (ty : TypeId) :
    ∃ v w' g', (Builtin.copy_ #[T, u] ty #[vd, vx]).run P w = .ok v w' ∧ g.le g' ∧ Rel g' r v ∧ WR B W g' m' w' := by
  unfold acopy at e
  split at e
  · rename_i el ht
    split at e
    · rename_i k ys0 id off len k' ag cap hs hys
      dsimp only at e
      obtain ⟨us, r0, hl, hf⟩ := srcOf_sound P h kx hys
      obtain ⟨g1, l1, w1, r1⟩ := fzvs_sound (ys0.take (min ys0.length len)) h (r0.take (min ys0.length len))
      generalize hfz : fzvs m (ys0.take (min ys0.length len)) = fz at *
      obtain ⟨ys, m1⟩ := fz
      dsimp only at e w1 r1
      split at e
      · rename_i cs ver hg
        split at e
        · rename_i hc
          obtain ⟨c1, rfl, c3, c4⟩ := hc
          cases e
          obtain ⟨hk1, hk2⟩ := all_cells r0 c4
          have hul := r0.length
          have kd1 := kd.mono l1
          simp only [Rel] at kd1
          obtain ⟨hid, a, c, rfl, hlc, ha, hcap, hln⟩ := kd1
          have htk : ∀ u ∈ us.take (min ys0.length len), u.cells.size = k' := fun u hu => hk1 u (List.mem_of_mem_take hu)
          have hvl := vflat_length k' _ htk
          have htl : (us.take (min ys0.length len)).length = min ys0.length len := by rw [List.length_take, hul]; omega
          rw [htl] at hvl
          have hone : ∀ c ∈ vflat (us.take (min ys0.length len)), c.oneCell' = true := by
            intro c hc
            simp only [vflat, List.mem_flatMap] at hc
            obtain ⟨u, hu, hcu⟩ := hc
            exact hk2 c (by simp only [vflat, List.mem_flatMap]; exact ⟨u, List.mem_of_mem_take hu, hcu⟩)
          have hfirst := hf (min ys0.length len) k' c1 (Nat.min_le_left _ _) hk1 w fun _ => rfl
          have hmk : min ys0.length len * k' ≤ len * k' := Nat.mul_le_mul_right _ (Nat.min_le_right _ _)
          obtain ⟨w', s1, s2⟩ := w1.set hg off (rels_flat r1) (by rw [← (rels_flat r1).length, hvl]; omega) hone P
          refine ⟨goInt ((min ys0.length len : Nat) : Int), w', g1, ?_, l1, rfl, s2⟩
          have hst : (storeCells a (vflat (us.take (min ys0.length len)))).run P w = .ok () w' := by
            by_cases hc0 : c = 0
            · have : len = 0 := by omega
              subst this
              simp only [Nat.min_zero, List.take_zero] at s1 ⊢
              simp only [vflat, List.flatMap_nil, storeCells, Sem.run_pure] at s1 ⊢
              exact s1
            · obtain ⟨rfl, _⟩ := ha hc0
              exact s1
          have hmin : Nat.min ys0.length len = min ys0.length len := rfl
          simp [Builtin.copy_, run_underlying (of_telem ht), hl, run_tsize hs, hmin, hfirst, hst]
        · cases e
      · cases e
    · rename_i k ys0 b hs hys
      split at e
      · rename_i hc
        obtain ⟨c1, c2, c4⟩ := hc
        cases e
        obtain ⟨us, r0, hl, hf⟩ := srcOf_sound P h kx hys
        obtain ⟨hk1, hk2⟩ := all_cells r0 c4
        have hfirst := hf 0 k c1 (Nat.zero_le _) hk1 w fun _ => rfl
        simp only [List.take_zero, vflat, List.flatMap_nil] at hfirst
        have fin : ∀ (ad : Option Addr) (c : Nat), vd = .slice ad 0 c → (Builtin.copy_ #[T, u] ty #[vd, vx]).run P w = .ok (goInt 0) w := by
          intro ad c hv
          subst hv
          have hmin : Nat.min ys0.length 0 = 0 := by simp
          cases ad <;> simp [Builtin.copy_, run_underlying (of_telem ht), hl, run_tsize hs, hmin, hfirst, storeCells]
        match b, c2, kd with
        | 0, _, kd => simp only [Rel] at kd; exact ⟨_, w, g, fin _ _ kd, .refl g, rfl, h⟩
        | 1, _, kd => simp only [Rel] at kd; obtain ⟨_, kd⟩ := kd; exact ⟨_, w, g, fin _ _ kd, .refl g, rfl, h⟩
        | 2, _, kd => simp only [Rel] at kd; obtain ⟨_, _, kd⟩ := kd; exact ⟨_, w, g, fin _ _ kd, .refl g, rfl, h⟩
        | b + 3, c2, _ => omega
      · cases e
    · cases e
  · cases e

/-- What an operation that calls nothing comes to. -/
def OpOk (P : Program) (B : Nat) (W : World) (g : G) (m' : Mem) (v : AV) (r : Result Next) : Prop :=
  ∃ w' g' v', (r = .ok (.value v') w' ∨ (r = .ok .skip w' ∧ v' = undef)) ∧ g.le g' ∧ Rel g' v v' ∧ WR B W g' m' w'

theorem abuiltin_sound (h : WR B W g m w) {b : Builtin} {ts : Array TypeId} {T : TypeId} {args : List AV} {vs : List Value} (k : Rels g args vs) {r : AV} {m' : Mem} (e : abuiltin P b ts T args m = some (r, m')) (cs : Array Bool) :
    OpOk P B W g m' r ((builtin b ts T cs vs.toArray).run P w) := by
  unfold abuiltin at e
  split at e
  · -- append
    split at e
    · rename_i s x t u ht hu
      simp only [Rels] at k
      obtain ⟨vs', rest, rfl, k1, vx, rest', rfl, k2, rfl⟩ := k
      have happ : Builtin.append_ ts T #[vs', vx] = Builtin.append_ #[t, u] T #[vs', vx] := by simp [Builtin.append_, ht, hu]
      have fin : (∃ v w' g', (Builtin.append_ #[t, u] T #[vs', vx]).run P w = .ok v w' ∧ g.le g' ∧ Rel g' r v ∧ WR B W g' m' w') → OpOk P B W g m' r ((builtin .append ts T cs [vs', vx].toArray).run P w) := by
        rintro ⟨v, w', g', h1, h2, h3, h4⟩
        refine ⟨w', g', v, .inl ?_, h2, h3, h4⟩
        simp [builtin, happ, h1]
      split at e
      · rename_i q n hq
        simp only [Rel] at k2
        subst k2
        split at e
        · rename_i hn
          refine fin (aappend_sound h k1 e T fun el k by_ z zv ys0 e1 e2 e3 e4 e5 e6 e7 e8 ⟨i, hi, hs, hb, hz⟩ e9 _ e10 => ?_)
          simp only [e4, Option.map_some, Option.some.injEq] at e9
          subst e9
          have hr : Rel g z zv := by rw [e5]; exact rel_ofConst zv
          have hzk : zv.cells.size = k := by rw [← e6, ← hr.cells.length]; simp
          refine ⟨List.replicate n.toNat zv, Rels.replicate hr _, ?_⟩
          have hS := src_zeros (w := w) (n := n.toNat) (z := zv) e8 hq hi hs hb hz hzk (by omega) (by
            by_cases h0 : n.toNat = 0
            · rw [h0]; simp
            · have := e10 (by simp; omega); simpa using this)
          rw [Int.toNat_of_nonneg hn.1] at hS
          rw [List.length_replicate]
          have hfl : vflat (List.replicate n.toNat zv) = (List.range (n.toNat * k)).map fun i => zv.cells[i % k]! := by
            have a1 := rels_zeros (g := g) (rel_ofConst zv) (by omega) n.toNat
            rw [← hzk]
            generalize n.toNat = N
            induction N with
            | zero => simp [vflat]
            | succ N ih =>
              rw [List.replicate_succ]
              simp only [vflat, List.flatMap_cons] at ih ⊢
              rw [ih]
              have : (N + 1) * zv.cells.size = zv.cells.size + N * zv.cells.size := by rw [Nat.succ_mul]; omega
              rw [this, List.range_add, List.map_append, List.map_map]
              congr 1
              · apply List.ext_getElem
                · simp
                · intro i h1 h2
                  simp at h1
                  simp [Nat.mod_eq_of_lt h1, h1]
              · apply List.map_congr_left
                intro i _
                simp
          rw [hfl]
          exact hS
        · unfold aappend at e
          split at e
          · split at e
            · rename_i heq
              simp at heq
            · cases e
          · cases e
      · cases e
      · rename_i d hnint hd _
        refine fin (aappend_sound h k1 e T fun el k by_ z zv ys0 e1 e2 e3 e4 e5 e6 e7 e8 ⟨i, hi, hs, hb, hz⟩ e9 e11 e10 => ?_)
        dsimp only at e9
        obtain ⟨us, r0, hl, hf⟩ := srcOf_sound P h k2 e9
        obtain ⟨hk1, hk2⟩ := all_cells r0 e11
        refine ⟨us, r0, ?_⟩
        have hul := r0.length
        have f1 := hf ys0.length k e7 (Nat.le_refl _) hk1 w fun _ => rfl
        have hus : vflat (us.take ys0.length) = vflat us := by rw [← hul, List.take_length]
        rw [hus] at f1
        rw [← hus] at f1 ⊢
        exact src_list e8 hd hnint hi hs hb hz hl f1 (hf ys0.length k e7 (Nat.le_refl _) hk1 w.drew fun _ => rfl)
      · cases e
    · cases e
  · -- copy
    split at e
    · rename_i d x t ht
      simp only [Rels] at k
      obtain ⟨vd, rest, rfl, k1, vx, rest', rfl, k2, rfl⟩ := k
      obtain ⟨v, w', g', h1, h2, h3, h4⟩ := acopy_sound (u := 0) h k1 k2 e T
      refine ⟨w', g', v, .inl ?_, h2, h3, h4⟩
      have : Builtin.copy_ ts T #[vd, vx] = Builtin.copy_ #[t, 0] T #[vd, vx] := by simp [Builtin.copy_, ht]
      simp [builtin, this, h1]
    · cases e
  · simp only [Option.map_eq_some_iff, Prod.mk.injEq] at e
    obtain ⟨r', e, rfl, rfl⟩ := e
    unfold abuiltin0 at e
    split at e
    · split at e
      · rename_i t x ht
        simp only [Rels] at k
        obtain ⟨v, rest, rfl, k1, rfl⟩ := k
        obtain ⟨u, h1, h2⟩ := alen_sound (ty := T) k1 e w
        refine ⟨w, g, u, .inl ?_, .refl g, h2, h⟩
        have : Builtin.len_ ts T #[v] = Builtin.len_ #[t] T #[v] := by simp [Builtin.len_, ht]
        simp [builtin, this, h1]
      · cases e
    · split at e
      · rename_i t x ht
        simp only [Rels] at k
        obtain ⟨v, rest, rfl, k1, rfl⟩ := k
        obtain ⟨u, h1, h2⟩ := acap_sound (ty := T) k1 e w
        refine ⟨w, g, u, .inl ?_, .refl g, h2, h⟩
        have : Builtin.cap_ ts T #[v] = Builtin.cap_ #[t] T #[v] := by simp [Builtin.cap_, ht]
        simp [builtin, this, h1]
      · cases e
    · cases hs : scals args with
      | none => rw [hs] at e; cases e
      | some us =>
        rw [hs] at e
        simp only [Option.bind_some, Option.map_eq_some_iff] at e
        obtain ⟨y, hy, rfl⟩ := e
        rw [scals_rel hs k]
        refine ⟨w, g, y, .inl ?_, .refl g, rfl, h⟩
        have := pureRun_sound _ _ hy w
        simp [builtin, this]
    · cases hs : scals args with
      | none => rw [hs] at e; cases e
      | some us =>
        rw [hs] at e
        simp only [Option.bind_some, Option.map_eq_some_iff] at e
        obtain ⟨y, hy, rfl⟩ := e
        rw [scals_rel hs k]
        refine ⟨w, g, y, .inl ?_, .refl g, rfl, h⟩
        have := pureRun_sound _ _ hy w
        simp [builtin, this]
    · cases e
end Go.V
