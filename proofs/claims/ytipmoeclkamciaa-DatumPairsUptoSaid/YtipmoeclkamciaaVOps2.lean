/- The abstract operations are sound: addresses, parts, slices' bounds, building. -/
import Derived.Test.YtipmoeclkamciaaVOps
set_option linter.unusedSimpArgs false
set_option linter.unusedVariables false
set_option linter.unusedSectionVars false
namespace Go.V
open Go.RowKit
variable {P : Program} {B : Nat} {W : World} {g : G} {m : Mem} {w : World}

theorem add_mk (b o n : Nat) : (⟨b, o, none⟩ : Addr).add n = ⟨b, o + n, none⟩ := by
  unfold Addr.add
  split
  · rename_i h; subst h; rfl
  · rfl

theorem scals_rel : ∀ {xs : List AV} {us : List Value}, scals xs = some us → ∀ {vs : List Value}, Rels g xs vs → vs = us
  | [], us, h, vs, k => by simp only [scals, Option.some.injEq] at h; simp only [Rels] at k; rw [k, h]
  | x :: xs, us, h, vs, k => by
    simp only [scals] at h
    split at h
    · rename_i a as h1 h2
      cases h
      simp only [Rels] at k
      obtain ⟨v, rest, rfl, k1, k2⟩ := k
      rw [scals_rel h2 k2]
      cases x with
      | sc u => simp only [scal, Option.some.injEq] at h1; simp only [Rel] at k1; rw [k1, h1]
      | _ => simp [scal] at h1
    · cases h

theorem scal_rel {x : AV} {u v : Value} (h : scal x = some u) (k : Rel g x v) : v = u := by
  cases x with
  | sc a => simp only [scal, Option.some.injEq] at h; simp only [Rel] at k; rw [k, h]
  | _ => simp [scal] at h

theorem plain_rel {x : AV} {u v : Value} (h : plain x = some u) (k : Rel g x v) : v = u := by
  cases x with
  | sc a => simp only [plain, Option.some.injEq] at h; simp only [Rel] at k; rw [k, h]
  | agg cs =>
    simp only [plain] at h
    cases hs : scals cs with
    | none => rw [hs] at h; cases h
    | some us =>
      rw [hs] at h
      simp only [Option.map_some, Option.some.injEq] at h
      simp only [Rel] at k
      obtain ⟨vs, rfl, k1, _⟩ := k
      rw [← h, scals_rel hs k1]
  | _ => simp [plain] at h

theorem afieldAddr_sound {T : TypeId} {a : AV} {v : Value} (k : Rel g a v) {f : Nat} {x : AV} (e : afieldAddr P T a f = some x) (w : World) :
    ∃ u, (Instr.fieldAt T v f).run P w = .ok u w ∧ Rel g x u := by
  unfold afieldAddr at e
  split at e
  · rename_i fd hf
    obtain ⟨fs, hu, hfd⟩ := of_tfield hf
    split at e
    · rename_i n hs
      split at e
      · cases e
      · rename_i hn
        split at e
        · rename_i id off
          cases e
          simp only [Rel] at k
          obtain ⟨h1, rfl⟩ := k
          refine ⟨.pointer (some ⟨(g.mu id).1, (g.mu id).2 + (off + fd.offset), none⟩), ?_, h1, rfl⟩
          simp [Instr.fieldAt, run_underlying hu, hfd, Instr.sureAddr, fieldPlace, run_tsize hs, hn, add_mk, Nat.add_assoc]
        · rename_i y off
          cases e
          simp only [Rel] at k
          obtain ⟨b, o, u, h1, h2, rfl⟩ := k
          refine ⟨.pointer (some ⟨b, o + (off + fd.offset), none⟩), ?_, b, o, u, h1, h2, rfl⟩
          simp [Instr.fieldAt, run_underlying hu, hfd, Instr.sureAddr, fieldPlace, run_tsize hs, hn, add_mk, Nat.add_assoc]
        · cases e
    · cases e
  · cases e

theorem afield_sound {T : TypeId} {a : AV} {v : Value} (k : Rel g a v) {f : Nat} {x : AV} (e : afield P T a f = some x) (w : World) :
    ∃ u, (Instr.field T v f).run P w = .ok u w ∧ Rel g x u := by
  unfold afield at e
  split at e
  · rename_i fd cs hf
    obtain ⟨fs, hu, hfd⟩ := of_tfield hf
    simp only [Rel] at k
    obtain ⟨vs, rfl, h1, h2⟩ := k
    obtain ⟨u, h3, h4⟩ := part_sound h1 h2 e
    exact ⟨u, by simp [Instr.field, run_underlying hu, hfd, asAgg, h3], h4⟩
  · cases e

theorem aindexAddr_sound {T : TypeId} {a i : AV} {v vi : Value} (k : Rel g a v) (ki : Rel g i vi) {x : AV} (e : aindexAddr P T a i = some x) (w : World) :
    ∃ u, (Instr.indexAt T v vi).run P w = .ok u w ∧ Rel g x u := by
  unfold aindexAddr at e
  split at e
  · rename_i kk n
    simp only [Rel] at ki
    subst ki
    split at e
    · cases e
    · rename_i hn
      have hn' : 0 ≤ n := by omega
      split at e
      · rename_i el xs ht
        split at e
        · rename_i y q hy hs
          split at e
          · rename_i hl
            cases e
            simp only [Rel] at k
            obtain ⟨a, c, vs, kz, rfl, h1, h2, h3⟩ := k
            obtain ⟨u, h4, h5⟩ := h1.get _ _ hy
            obtain ⟨h6, b, o, rfl, h7⟩ := h3 _ _ h4
            have hlt : n.toNat < xs.length := (List.getElem?_eq_some_iff.1 hy).1
            have hq : kz = q := by rw [← h6, ← hl, ← h5.cells.length]; simp
            subst hq
            refine ⟨.pointer (some ⟨b, o + n.toNat * kz + 0, none⟩), ?_, b, o + n.toNat * kz, u, h5, h7, rfl⟩
            have hc : 0 ≤ n ∧ n < xs.length := ⟨hn', by omega⟩
            simp [Instr.indexAt, asIntOf, run_underlying (of_telem ht), hc, run_tsize hs, add_mk]
          · cases e
        · cases e
      · rename_i el id off len q ag cap ht
        split at e
        · rename_i hc
          obtain ⟨hlt, hs⟩ := hc
          cases e
          simp only [Rel] at k
          obtain ⟨h1, a, c, rfl, h2, h3, _⟩ := k
          obtain ⟨rfl, _⟩ := h3 (by omega)
          refine ⟨.pointer (some ⟨(g.mu id).1, (g.mu id).2 + (off + n.toNat * q), none⟩), ?_, h1, rfl⟩
          have hc : 0 ≤ n ∧ n < len := ⟨hn', by omega⟩
          simp [Instr.indexAt, asIntOf, run_underlying (of_telem ht), hc, run_tsize hs, add_mk, Nat.add_assoc]
        · cases e
      · rename_i id off ht
        split at e
        · rename_i ln el ha
          split at e
          · rename_i q hs
            split at e
            · rename_i hlt
              cases e
              simp only [Rel] at k
              obtain ⟨h1, rfl⟩ := k
              refine ⟨.pointer (some ⟨(g.mu id).1, (g.mu id).2 + (off + n.toNat * q), none⟩), ?_, h1, rfl⟩
              have hc : 0 ≤ n ∧ n < (ln : Int) := ⟨hn', by omega⟩
              simp [Instr.indexAt, asIntOf, run_underlying (of_tarr ha), hc, Instr.sureAddr, run_tsize hs, add_mk, Nat.add_assoc]
            · cases e
          · cases e
        · cases e
      · cases e
  · cases e

theorem aindex_sound {T : TypeId} {a i : AV} {v vi : Value} (k : Rel g a v) (ki : Rel g i vi) {x : AV} (e : aindex P T a i = some x) (w : World) :
    ∃ u, (Instr.index T v vi).run P w = .ok u w ∧ Rel g x u := by
  unfold aindex at e
  split at e
  · rename_i s kk n
    simp only [Rel] at k ki
    subst k; subst ki
    cases hp : pureRun P (Instr.index T (.string s) (.int kk n)) with
    | none => rw [hp] at e; cases e
    | some u => rw [hp] at e; cases e; exact ⟨u, pureRun_sound _ _ hp w, rfl⟩
  · rename_i cs kk n
    simp only [Rel] at k ki
    subst ki
    obtain ⟨vs, rfl, h1, h2⟩ := k
    split at e
    · cases e
    · rename_i hn
      split at e
      · rename_i ln el ha
        split at e
        · rename_i q hs
          split at e
          · rename_i hlt
            obtain ⟨u, h3, h4⟩ := part_sound h1 h2 e
            have hc : 0 ≤ n ∧ n < (ln : Int) := ⟨by omega, by omega⟩
            exact ⟨u, by simp [Instr.index, asIntOf, run_underlying (of_tarr ha), hc, run_tsize hs, h3], h4⟩
          · cases e
        · cases e
      · cases e
  · cases e

theorem nil_of {T : TypeId} {v u : Value} {b : Bool} (xo yo : Operand) (hb : binOp .eql T v u = (do pure (.bool (← Op.equal T v u)))) (hn : binOp .neq T v u = (do pure (.bool (!(← Op.equal T v u)))))
    (hg : ∀ op, eqGuard op T xo yo v u = pure ()) (h : ∀ d w, (Op.equalIn (d + 1) T v u).run P w = .ok b w) (w : World) :
    (do eqGuard .eql T xo yo v u; binOp .eql T v u : Sem Value).run P w = .ok (.bool b) w ∧ (do eqGuard .neq T xo yo v u; binOp .neq T v u : Sem Value).run P w = .ok (.bool !b) w := by
  have h' : ∀ w, (Op.equal T v u).run P w = .ok b w := fun w => h 9999 w
  rw [hg, hg, hb, hn]
  constructor
  · simp only [pure_bind, Sem.run_bind, h', Result.andThen_ok, Sem.run_pure]
  · simp only [pure_bind, Sem.run_bind, h', Result.andThen_ok, Sem.run_pure]

theorem nilTest_sound {T : TypeId} {x y : AV} {v u : Value} (k : Rel g x v) (ky : Rel g y u) {b : Bool} (e : nilTest P T x y = some b) (xo yo : Operand) (w : World) :
    (do eqGuard .eql T xo yo v u; binOp .eql T v u : Sem Value).run P w = .ok (.bool b) w ∧ (do eqGuard .neq T xo yo v u; binOp .neq T v u : Sem Value).run P w = .ok (.bool !b) w := by
  have hgp : ∀ (a b : Option Addr) op, eqGuard op T xo yo (.pointer a) (.pointer b) = pure () := fun a b op => by cases op <;> rfl
  unfold nilTest at e
  split at e
  · rename_i el hu
    simp only [Rel] at ky
    subst ky
    split at e <;> cases e
    · simp only [Rel] at k; obtain ⟨_, rfl⟩ := k
      exact nil_of xo yo rfl rfl (hgp _ _) (fun d w => by simp only [Op.equalIn, Sem.run_bind, run_underlying hu, Result.andThen_ok]; rfl) w
    · simp only [Rel] at k; obtain ⟨_, _, _, _, _, rfl⟩ := k
      exact nil_of xo yo rfl rfl (hgp _ _) (fun d w => by simp only [Op.equalIn, Sem.run_bind, run_underlying hu, Result.andThen_ok]; rfl) w
  · rename_i a1 a2 a3 hu
    simp only [Rel] at ky
    subst ky
    split at e <;> cases e
    simp only [Rel] at k; obtain ⟨_, _, rfl, _⟩ := k
    exact nil_of xo yo rfl rfl (fun op => by cases op <;> rfl) (fun d w => by simp only [Op.equalIn, Sem.run_bind, run_underlying hu, Result.andThen_ok]; rfl) w
  · rename_i a1 hu
    simp only [Rel] at ky
    subst ky
    split at e <;> cases e
    simp only [Rel] at k; obtain ⟨_, rfl, _⟩ := k
    exact nil_of xo yo rfl rfl (fun op => by cases op <;> rfl) (fun d w => by simp only [Op.equalIn, Sem.run_bind, run_underlying hu, Result.andThen_ok]; rfl) w
  · rename_i a1 hu
    simp only [Rel] at ky
    subst ky
    have hgs : ∀ (a b : Option Addr) (l c l' c' : Nat) op, eqGuard op T xo yo (.slice a l c) (.slice b l' c') = pure () := fun a b l c l' c' op => by cases op <;> rfl
    split at e <;> cases e
    · simp only [Rel] at k; subst k
      exact nil_of xo yo rfl rfl (hgs _ _ _ _ _ _) (fun d w => by simp only [Op.equalIn, Sem.run_bind, run_underlying hu, Result.andThen_ok]; rfl) w
    · simp only [Rel] at k; obtain ⟨_, _, rfl⟩ := k
      exact nil_of xo yo rfl rfl (hgs _ _ _ _ _ _) (fun d w => by simp only [Op.equalIn, Sem.run_bind, run_underlying hu, Result.andThen_ok]; rfl) w
    · simp only [Rel] at k; obtain ⟨_, _, _, rfl, _⟩ := k
      exact nil_of xo yo rfl rfl (hgs _ _ _ _ _ _) (fun d w => by simp only [Op.equalIn, Sem.run_bind, run_underlying hu, Result.andThen_ok]; rfl) w
    · simp only [Rel] at k
      obtain ⟨a, c, vs, kz, rfl, h1, _, h2⟩ := k
      simp only [Rels] at h1
      obtain ⟨v0, r0, rfl, _, _⟩ := h1
      obtain ⟨_, b, o, rfl, _⟩ := h2 0 v0 rfl
      exact nil_of xo yo rfl rfl (hgs _ _ _ _ _ _) (fun d w => by simp only [Op.equalIn, Sem.run_bind, run_underlying hu, Result.andThen_ok]; rfl) w
  · cases e

theorem abin_sound {op : BinOp} {T : TypeId} {xo yo : Operand} {x y : AV} {v u : Value} (k : Rel g x v) (ky : Rel g y u) {z : AV} (e : abin P op T xo yo x y = some z) (w : World) :
    ∃ r, (do eqGuard op T xo yo v u; binOp op T v u : Sem Value).run P w = .ok r w ∧ Rel g z r := by
  unfold abin at e
  split at e
  · rename_i a b ha hb
    have ea := plain_rel ha k
    have eb := plain_rel hb ky
    subst ea; subst eb
    cases hp : pureRun P (do eqGuard op T xo yo v u; binOp op T v u : Sem Value) with
    | none => rw [hp] at e; cases e
    | some r => rw [hp] at e; cases e; exact ⟨r, pureRun_sound _ _ hp w, rfl⟩
  · split at e
    · cases hn : nilTest P T x y with
      | none => rw [hn] at e; cases e
      | some b => rw [hn] at e; cases e; exact ⟨_, (nilTest_sound k ky hn xo yo w).1, rfl⟩
    · cases hn : nilTest P T x y with
      | none => rw [hn] at e; cases e
      | some b => rw [hn] at e; cases e; exact ⟨_, (nilTest_sound k ky hn xo yo w).2, rfl⟩
    · cases e

theorem run_places : ∀ {fs : List Field} {pl : List (Nat × Nat)}, placesOf P fs = some pl → ∀ w, (fs.mapM (fun f => Prod.mk f.offset <$> sizeOf f.type) : Sem (List (Nat × Nat))).run P w = .ok pl w
  | [], pl, h, w => by simp only [placesOf, Option.some.injEq] at h; subst h; rfl
  | f :: fs, pl, h, w => by
    simp only [placesOf] at h
    split at h
    · rename_i n r h1 h2
      cases h
      have h3 := run_places h2 w
      simp [List.mapM_cons, run_tsize h1, h3]
    · cases h

theorem abuild_sound {T : TypeId} {ps : List (Nat × AV)} {pv : List (Nat × Value)} (h1 : ps.map (·.1) = pv.map (·.1)) (h2 : Rels g (ps.map (·.2)) (pv.map (·.2))) {x : AV} (e : abuild P T ps = some x) (w : World) :
    ∃ u, (Instr.build T pv.toArray).run P w = .ok u w ∧ Rel g x u := by
  unfold abuild at e
  split at e
  · rename_i z hz
    obtain ⟨v, rfl, hv, _⟩ := run_tzero hz
    split at e
    · rename_i hok
      have hr := rel_ofConst (g := g) v
      split at e
      · rename_i fs hu
        split at e
        · rename_i pl hpl
          cases hf : fillAt (fun i => pl[i]?) (ofConst v).cells ps with
          | none => rw [hf] at e; cases e
          | some cs' =>
            rw [hf] at e
            cases e
            obtain ⟨vs', f1, f2, f3⟩ := fill_sound (fun i => pl[i]?) ps _ v.cells.toList pv cs' hr.cells (hr.one hok) h1 h2 hf
            refine ⟨.agg vs'.toArray, ?_, vs', rfl, f2, f3⟩
            have hp := run_places hpl w
            simp [Instr.build, hv, run_underlying hu, Array.mapM_eq_mapM_toList, hp]
            simp only [Array.toArray_toList] at f1
            simp [f1]
        · cases e
      · rename_i n el hu
        split at e
        · rename_i q hs
          cases hf : fillAt (fun i => some (i * q, q)) (ofConst v).cells ps with
          | none => rw [hf] at e; cases e
          | some cs' =>
            rw [hf] at e
            cases e
            obtain ⟨vs', f1, f2, f3⟩ := fill_sound (fun i => some (i * q, q)) ps _ v.cells.toList pv cs' hr.cells (hr.one hok) h1 h2 hf
            refine ⟨.agg vs'.toArray, ?_, vs', rfl, f2, f3⟩
            simp only [Array.toArray_toList] at f1
            simp [Instr.build, hv, run_underlying hu, run_tsize hs, f1]
        · cases e
      · cases e
    · cases e
  · cases e
end Go.V
