/- The abstract operations are sound: those that only reckon, look, make and store. -/
import Derived.Test.YtipmoeclkamciaaVFz
set_option linter.unusedSimpArgs false
set_option linter.unusedVariables false
set_option linter.unusedSectionVars false
namespace Go.V
open Go.RowKit
variable {P : Program} {B : Nat} {W : World} {g : G} {m : Mem} {w : World}

theorem pureRun_sound {α : Type} : ∀ (s : Sem α) (a : α), pureRun P s = some a → ∀ w, s.run P w = .ok a w := by
  intro s
  induction s with
  | pure b => intro a h w; simp only [pureRun, Option.some.injEq] at h; subst h; rfl
  | program k ih => intro a h w; exact ih P a h w
  | mark m k ih => intro a h w; exact ih a h w
  | _ => intro a h; simp [pureRun] at h

theorem run_tagg {T : TypeId} {b : Bool} (h : tagg P T = some b) (w : World) : (isAgg T).run P w = .ok b w := by
  unfold tagg at h
  cases hu : P.underlying T with
  | none => rw [hu] at h; cases h
  | some d =>
    rw [hu] at h
    simp only [Option.map_some, Option.some.injEq] at h
    simp only [isAgg, Sem.run_bind, run_underlying hu, Result.andThen_ok]
    cases d <;> simp_all
theorem run_tsize {T : TypeId} {n : Nat} (h : tsize P T = some n) (w : World) : (sizeOf T).run P w = .ok n w := by
  unfold tsize at h
  cases hi : P.info? T with
  | none => rw [hi] at h; cases h
  | some i => rw [hi] at h; simp at h; simp [sizeOf, typeInfo, hi, h]
theorem info_of_tsize {T : TypeId} {n : Nat} (h : tsize P T = some n) : ∃ i, P.info? T = some i ∧ i.size = n := by
  unfold tsize at h
  cases hi : P.info? T with
  | none => rw [hi] at h; cases h
  | some i => rw [hi] at h; simp at h; exact ⟨i, rfl, h⟩
theorem run_tzero {T : TypeId} {z : AV} (h : tzero P T = some z) : ∃ v, z = ofConst v ∧ (∀ w, (zeroValue T).run P w = .ok v w) ∧ ∃ i, P.info? T = some i ∧ i.zero = some v := by
  unfold tzero at h
  cases hi : P.info? T with
  | none => rw [hi] at h; cases h
  | some i =>
    rw [hi] at h
    simp only [Option.bind_some] at h
    cases hz : i.zero with
    | none => rw [hz] at h; cases h
    | some v => rw [hz] at h; simp at h; exact ⟨v, h.symm, fun w => by simp [zeroValue, typeInfo, hi, hz], i, rfl, hz⟩
theorem of_telem {T e : TypeId} (h : telem P T = some e) : P.underlying T = some (.slice e) := by
  unfold telem at h
  split at h
  · rename_i he; cases h; exact he
  · cases h
theorem of_tarr {T : TypeId} {x : Nat × TypeId} (h : tarr P T = some x) : P.underlying T = some (.array x.1 x.2) := by
  unfold tarr at h
  split at h
  · rename_i he; cases h; exact he
  · cases h
theorem of_tfield {T : TypeId} {f : Nat} {fd : Field} (h : tfield P T f = some fd) : ∃ fs, P.underlying T = some (.struct fs) ∧ fs[f]? = some fd := by
  unfold tfield at h
  split at h
  · rename_i he; exact ⟨_, he, h⟩
  · cases h

/-- A part of a row of cells. -/
theorem part_sound {T : TypeId} {cs : List AV} {vs : List Value} (k : Rels g cs vs) (ho : ∀ u ∈ vs, u.oneCell' = true) {off : Nat} {x : AV} (h : partOf P T cs off = some x) :
    ∃ u, (∀ w, (part T vs.toArray off).run P w = .ok u w) ∧ Rel g x u := by
  unfold partOf at h
  split at h
  · rename_i n ha hs
    split at h
    · rename_i hl
      cases h
      have hlen := k.length
      refine ⟨.agg ((vs.drop off).take n).toArray, fun w => ?_, _, rfl, (k.drop off).take n, fun u hu => ho u (List.mem_of_mem_drop (List.mem_of_mem_take hu))⟩
      simp only [part, Sem.run_bind, run_tagg ha, Result.andThen_ok, if_true, run_tsize hs, Sem.run_pure]
      congr 2
      apply Array.ext'
      simp [Array.toList_extract, List.extract_eq_take_drop]
    · cases h
  · rename_i n ha
    obtain ⟨u, h1, h2⟩ := k.get off x h
    refine ⟨u, fun w => ?_, h2⟩
    simp only [part, Sem.run_bind, run_tagg ha, Result.andThen_ok, Bool.false_eq_true, if_false]
    simp [h1]
  · cases h

/-- A load from a row of cells. -/
theorem loadVar_sound {T : TypeId} {cs : List AV} {vs : List Value} (k : Rels g cs vs) (ho : ∀ u ∈ vs, u.oneCell' = true) {b o : Nat} (hc : ∀ j v, vs[j]? = some v → w.cell? ⟨b, o + j, none⟩ = some v)
    {off : Nat} {x : AV} (h : partOf P T cs off = some x) : ∃ u, (loadVar T ⟨b, o + off, none⟩).run P w = .ok u w ∧ Rel g x u := by
  unfold partOf at h
  split at h
  · rename_i n ha hs
    split at h
    · rename_i hl
      cases h
      have hlen := k.length
      refine ⟨.agg ((vs.drop off).take n).toArray, ?_, _, rfl, (k.drop off).take n, fun u hu => ho u (List.mem_of_mem_drop (List.mem_of_mem_take hu))⟩
      have hl2 : ((vs.drop off).take n).length = n := by simp; omega
      have := run_loadCells_list (P := P) w ⟨b, o + off, none⟩ ((vs.drop off).take n) fun j v hv => by
        rw [List.getElem?_take] at hv
        split at hv
        · rw [List.getElem?_drop] at hv
          have := hc _ _ hv
          simp only [Addr.add]
          split
          · rename_i e; subst e; simpa using this
          · rw [Nat.add_assoc]; exact this
        · cases hv
      rw [hl2] at this
      simp [loadVar, run_tagg ha, run_tsize hs, this]
    · cases h
  · rename_i n ha
    obtain ⟨u, h1, h2⟩ := k.get off x h
    refine ⟨u, ?_, h2⟩
    simp [loadVar, run_tagg ha, hc _ _ h1]
  · cases h

theorem aload_sound (h : WR B W g m w) {T : TypeId} {a : AV} {v : Value} (k : Rel g a v) {x : AV} (e : aload P T a m = some x) :
    ∃ u, (Instr.loadAt T v).run P w = .ok u w ∧ Rel g x u := by
  cases a with
  | ptr id off =>
    simp only [aload] at e
    split at e
    · rename_i cs f ver hg
      obtain ⟨vs, h1, h2, h3⟩ := h.cells hg
      simp only [Rel] at k
      obtain ⟨_, rfl⟩ := k
      obtain ⟨u, h4, h5⟩ := loadVar_sound (P := P) h1 h2 h3 e
      exact ⟨u, by simpa [Instr.loadAt, Instr.sureAddr] using h4, h5⟩
    · cases e
  | cptr y off =>
    simp only [aload] at e
    simp only [Rel] at k
    obtain ⟨b, o, u, h1, h2, rfl⟩ := k
    split at e
    · rename_i hok
      obtain ⟨u', h4, h5⟩ := loadVar_sound (P := P) h1.cells (h1.one hok) (b := b) (o := o) (fun j v hv => h.fz _ _ _ (h2 j v (by simpa using hv))) e
      exact ⟨u', by simpa [Instr.loadAt, Instr.sureAddr] using h4, h5⟩
    · cases e
  | _ => simp [aload] at e

theorem astore_sound (h : WR B W g m w) {T : TypeId} {a : AV} {va : Value} (ka : Rel g a va) {x : AV} {vx : Value} (kx : Rel g x vx) {m' : Mem} (e : astore P T a x m = some m') :
    ∃ w', (Instr.storeAt T va vx).run P w = .ok () w' ∧ WR B W g m' w' := by
  cases a with
  | ptr id off =>
    simp only [astore] at e
    split at e
    · rename_i cs ver hg
      split at e
      · rename_i hc
        obtain ⟨hok, hs, hl⟩ := hc
        cases e
        simp only [Rel] at ka
        obtain ⟨_, rfl⟩ := ka
        obtain ⟨w', h1, h2⟩ := h.set hg off kx.cells hl (kx.one hok) P
        refine ⟨w', ?_, h2⟩
        have hsz : vx.cells.size = x.cells.length := by rw [← kx.cells.length]; simp
        simp [Instr.storeAt, Instr.sureAddr, storeVar, run_tsize hs, hsz, h1]
      · cases e
    · cases e
  | _ => simp [astore] at e

/-- A new variable. -/
theorem newVar_sound (h : WR B W g m w) {x : AV} {v : Value} (k : Rel g x v) (hok : x.okc = true) (T : TypeId) :
    ∃ w' g', (newVar T v).run P w = .ok ⟨w.heap.size, 0, none⟩ w' ∧ g.le g' ∧ Rel g' (.ptr m.next 0) (.pointer (some ⟨w.heap.size, 0, none⟩)) ∧ WR B W g' (m.new x.cells false) w' := by
  have := h.new (post := []) k.cells (k.one hok) false T
  simp only [List.append_nil, Array.toArray_toList] at this
  refine ⟨_, _, ?_, G.le_new _ _ _ _ _, ?_, this⟩
  · simp only [newVar, newRow, Sem.run_bind, run_newObj, Result.andThen_ok, Sem.run_pure]; rfl
  · rw [h.n]; exact rel_new_ptr _ _ _ _ _ _

structure SR (g : G) (N : Nat) (s : Sl) (a : Act) : Prop where
  size : a.tmps.size = N
  rel : ∀ t, Rel g (s.at t) (a.tmps.getD t undef)

theorem SR.mono {g' : G} (h : g.le g') {N : Nat} {s : Sl} {a : Act} (k : SR g N s a) : SR g' N s a := ⟨k.size, fun t => (k.rel t).mono h _ _⟩

theorem SR.ev {N : Nat} {s : Sl} {a : Act} (k : SR g N s a) (x : Operand) : Rel g (ev s x) (a.eval x) := by
  cases x with
  | tmp t => exact k.rel t
  | const v => exact rel_ofConst v
  | global i => rfl
  | func f => exact ⟨[], [], rfl, .nil, .nil⟩

theorem SR.evs {N : Nat} {s : Sl} {a : Act} (k : SR g N s a) : ∀ xs : List Operand, Rels g (xs.map (V.ev s)) (xs.map a.eval)
  | [] => .nil
  | x :: xs => .cons (k.ev x) (SR.evs k xs)

theorem SR.set {N : Nat} {s : Sl} {a : Act} (k : SR g N s a) {x : AV} {v : Value} (h : Rel g x v) {d : Option Tmp} {s' : Sl} (e : aput N s d x = some s') : SR g N s' (a.put d v) := by
  cases d with
  | none => simp only [aput, Option.some.injEq] at e; subst e; exact k
  | some d =>
    simp only [aput] at e
    split at e
    · rename_i hd
      cases e
      refine ⟨by simpa [Act.put] using k.size, fun t => ?_⟩
      rw [Sl.at_set]
      simp only [Act.put]
      split
      · rename_i e
        subst e
        have : t < a.tmps.size := by rw [k.size]; exact hd
        simpa [this] using h
      · rename_i e
        have := k.rel t
        simpa [Array.getElem?_setIfInBounds_ne (show d ≠ t from fun x => e x.symm)] using this
    · cases e

theorem fill_sound (place : Nat → Option (Nat × Nat)) : ∀ (ps : List (Nat × AV)) (cs : List AV) (vs : List Value) (pv : List (Nat × Value)) (cs' : List AV), Rels g cs vs → (∀ u ∈ vs, u.oneCell' = true) →
    ps.map (·.1) = pv.map (·.1) → Rels g (ps.map (·.2)) (pv.map (·.2)) → fillAt place cs ps = some cs' → ∃ vs', Instr.fill place vs.toArray pv = some vs'.toArray ∧ Rels g cs' vs' ∧ ∀ u ∈ vs', u.oneCell' = true
  | [], cs, vs, pv, cs', h, ho, h1, h2, e => by
    cases pv with
    | nil => simp only [fillAt, Option.some.injEq] at e; subst e; exact ⟨vs, rfl, h, ho⟩
    | cons p pv => simp at h1
  | (i, x) :: ps, cs, vs, pv, cs', h, ho, h1, h2, e => by
    cases pv with
    | nil => simp at h1
    | cons p pv =>
      obtain ⟨i', v⟩ := p
      simp only [List.map_cons, List.cons.injEq] at h1
      obtain ⟨rfl, h1⟩ := h1
      simp only [List.map_cons, Rels, List.cons.injEq] at h2
      obtain ⟨v', rest, ⟨hv', rfl⟩, hx, h2⟩ := h2
      subst hv'
      simp only [fillAt] at e
      cases hp : place i with
      | none => rw [hp] at e; cases e
      | some q =>
        obtain ⟨off, size⟩ := q
        rw [hp] at e
        simp only at e
        split at e
        · rename_i hc
          obtain ⟨hok, hs, hl⟩ := hc
          have hcl := hx.cells.length
          have hvl := h.length
          simp only [Array.length_toList] at hcl
          have key : ∀ (us : List Value) (j : Nat) (r : List Value), off + j + us.length ≤ r.length →
              (us.zipIdx j).foldl (fun cs (p : Value × Nat) => cs.setIfInBounds (off + p.2) p.1) r.toArray = (r.take (off + j) ++ us ++ r.drop (off + j + us.length)).toArray := by
            intro us
            induction us with
            | nil => intro j r hr; simp
            | cons u us ih =>
              intro j r hr
              simp only [List.length_cons] at hr
              simp only [List.zipIdx_cons, List.foldl_cons, List.setIfInBounds_toArray]
              rw [ih (j + 1) (r.set (off + j) u) (by simp; omega)]
              congr 1
              have e1 : (r.set (off + j) u).take (off + (j + 1)) = r.take (off + j) ++ [u] := by
                rw [show off + (j + 1) = off + j + 1 by omega, List.take_succ_eq_append_getElem (by simp; omega)]
                rw [List.take_set_of_le (Nat.le_refl _)]
                simp
              have e2 : (r.set (off + j) u).drop (off + (j + 1) + us.length) = r.drop (off + j + (us.length + 1)) := by
                rw [List.drop_set_of_lt (by omega)]
                congr 1
                omega
              rw [e1, e2]
              simp
          have hkey := key v.cells.toList 0 vs (by simp; omega)
          simp only [Nat.add_zero] at hkey
          obtain ⟨vs', f1, f2, f3⟩ := fill_sound place ps (splice cs off x.cells) (vs.take off ++ v.cells.toList ++ vs.drop (off + v.cells.toList.length)) pv cs' (h.splice off hx.cells) (by
            intro u hu
            simp only [List.mem_append] at hu
            rcases hu with (hu | hu) | hu
            · exact ho u (List.mem_of_mem_take hu)
            · exact hx.one hok u hu
            · exact ho u (List.mem_of_mem_drop hu)) h1 h2 e
          refine ⟨vs', ?_, f2, f3⟩
          simp only [Instr.fill, hp]
          rw [if_neg (by simp; omega)]
          have hz : (v.cells.zipIdx.foldl (fun cs (p : Value × Nat) => cs.setIfInBounds (off + p.2) p.1) vs.toArray) = (v.cells.toList.zipIdx.foldl (fun cs (p : Value × Nat) => cs.setIfInBounds (off + p.2) p.1) vs.toArray) := by
            rw [← Array.foldl_toList]; simp
          have hz' : (v.cells.zipIdx.foldl (fun cs x => match x with | (c, j) => cs.setIfInBounds (off + j) c) vs.toArray) = (vs.take off ++ v.cells.toList ++ vs.drop (off + v.cells.toList.length)).toArray := hz.trans hkey
          rw [hz']
          exact f1
        · cases e
end Go.V
