import Derived.Test.YtjiijacibpgciaaGreatTLaw
import Derived.Test.YtjiijacibpgciaaGreatYRead
import Derived.WalkKit
import Derived.ProofKit
import Derived.OpenShut
import Derived.JoinedCond
/- From the walk to the row: what is handed in as it is read. -/
set_option linter.unusedSimpArgs false
set_option linter.unusedVariables false
set_option linter.unusedSectionVars false
namespace Go.Proofs.YtjiijacibpgciaaGreat
set_option maxRecDepth 4000
open Go.V
theorem told_cf (f : FuncId) (h : List AV → Mem → Option (AV × Mem)) (e : cf.hook f = some h) : ByHand Tryz.prog f h := by
  unfold cf at e
  dsimp only at e
  split at e
  · rename_i hc
    have : f = 37 := by simpa using hc
    subst this
    cases e
    exact ⟨fun B W args m v m' e2 hv => cloneP_sound follows_mixed cl37 e2 hv, fun args m v m' e2 => cloneP_ver (W := default) e2⟩
  · cases e
theorem told_cw (f : FuncId) (h : List AV → Mem → Option (AV × Mem)) (e : cw.hook f = some h) : ByHand Tryz.prog f h := by
  unfold cw at e
  dsimp only at e
  split at e
  · rename_i hc
    cases e
    have : f = 53 ∨ f = 37 := by simpa using hc
    rcases this with rfl | rfl
    · exact ⟨fun B W args m v m' e2 hv => cloneL_sound follows_mixed cl53 e2 hv, fun args m v m' e2 => cloneL_ver (W := default) e2⟩
    · exact ⟨fun B W args m v m' e2 hv => cloneL_sound follows_mixed cl37 e2 hv, fun args m v m' e2 => cloneL_ver (W := default) e2⟩
  · split at e
    · rename_i hc
      have : f = 4 := by simpa using hc
      subst this
      cases e
      exact told_cl 4 _ rfl
    · split at e
      · cases e
      · cases e; exact told_lim follows_mixed told_cf f
theorem hooksT (B : Bs) (W : World) : Hooks Tryz.prog B W cw := hooks_of told_cw
theorem own_knob : ownKnob Tryz.prog.godebug = none := by kernel_rfl
theorem laid_out : laidOutB Tryz.prog = true := by kernel_rfl
theorem cells44 : Tryz.prog.cellsOf 44 = 14 := by kernel_rfl
theorem cells26 : Tryz.prog.cellsOf 26 = 1 := by kernel_rfl
theorem readable25 : Tryz.prog.readableRec 25 = true ∧ 25 < Tryz.prog.types.size := ⟨by kernel_rfl, of_decide_eq_true (by kernel_rfl)⟩
theorem readable26 : Tryz.prog.readableRec 26 = true ∧ 26 < Tryz.prog.types.size := ⟨by kernel_rfl, of_decide_eq_true (by kernel_rfl)⟩
theorem readable3 : Tryz.prog.readableRec 3 = true ∧ 3 < Tryz.prog.types.size := ⟨by kernel_rfl, of_decide_eq_true (by kernel_rfl)⟩
section
variable {H : Type} {en : TypeId × Value → H} {W : World}
theorem agg_rel {d : Dat} {cs : List Value} (h : Rel (G.start W) (enc d) (.agg cs.toArray)) : Rels (G.start W) (enc d).cells cs ∧ ∀ u ∈ cs, u.oneCell' = true := by
  obtain ⟨K, N, S, M, L, T⟩ := d
  simp only [enc, Rel] at h
  obtain ⟨vs, e, h1, h2⟩ := h
  have : cs = vs := by
    have := congrArg (fun v => match v with | Value.agg a => a.toList | _ => []) e
    simpa using this
  subst this
  exact ⟨h1, h2⟩
theorem got_in (fuel : Nat) : ∀ (cs : List Value) (d : DataW H) (ps : List MemPlace), rd en Tryz.prog W fuel 44 cs = some (d, ps) → Rows.uptoBulk d ≤ 1048576 → ∃ x : Got, Rel (G.start W) (encG x) (.agg cs.toArray) ∧ x.fits := by
  induction fuel using Nat.strongRecOn with
  | _ fuel ih =>
    intro cs d ps h hb
    cases fuel with
    | zero => cases h
    | succ fuel =>
      have lists : ∀ (v : Value) (d : DataW H) (ps : List MemPlace), rd en Tryz.prog W fuel 26 [v] = some (d, ps) → Rows.uptoBulk d ≤ 1048576 → ∃ L : List Got, Rel (G.start W) (.lst (encGs L)) v ∧ gfits L ∧ L.length < 2 ^ 21 := by
        intro v d ps h hb
        have hf : fuel ≠ 0 := by rintro rfl; cases h
        obtain ⟨ys, h1, h2⟩ := rd_lst (α := Got) Tryz.underlying26 (by rw [cells44]; decide) h encG (fun _ y => y.fits) (fun cs x p hx hr hl => by
          obtain ⟨l, r, rfl, hm⟩ := hx
          have hb2 : Rows.uptoBulk x ≤ 1048576 := by
            have := bulk_mem hm
            simp only [Rows.uptoBulk] at hb
            omega
          obtain ⟨y, y1, y2⟩ := ih (fuel - 1) (by omega) cs x p hr hb2
          exact ⟨y, _, y1, by simp [Value.cells], y2⟩)
        rw [← encGs_map] at h1
        refine ⟨ys, h1, ?_⟩
        rcases h2 with ⟨_, rfl⟩ | ⟨l, r, rfl, hl, hc⟩
        · exact ⟨trivial, by simp⟩
        · have := bulk_length l
          simp only [Rows.uptoBulk] at hb
          refine ⟨gfits_of fun y hy => ?_, by omega⟩
          obtain ⟨i, hi, e⟩ := List.getElem_of_mem hy
          exact hc i _ y (List.getElem?_eq_getElem (by omega)) (by rw [List.getElem?_eq_getElem hi, e])
      simp only [rd, DataW.trod, Tryz.underlying44, cells44] at h
      split at h
      · rename_i hlen
        rw [Option.map_eq_some_iff] at h
        obtain ⟨xs, h1, h2⟩ := h
        cases h2
        obtain ⟨c0, c1, c2, c3, c4, c5, c6, c7, c8, c9, ca, cb, cc, cd, rfl⟩ : ∃ c0 c1 c2 c3 c4 c5 c6 c7 c8 c9 ca cb cc cd, cs = [c0, c1, c2, c3, c4, c5, c6, c7, c8, c9, ca, cb, cc, cd] := by
          rcases cs with _ | ⟨c0, _ | ⟨c1, _ | ⟨c2, _ | ⟨c3, _ | ⟨c4, _ | ⟨c5, _ | ⟨c6, _ | ⟨c7, _ | ⟨c8, _ | ⟨c9, _ | ⟨ca, _ | ⟨cb, _ | ⟨cc, _ | ⟨cd, _ | ⟨ce, cs⟩⟩⟩⟩⟩⟩⟩⟩⟩⟩⟩⟩⟩⟩⟩ <;> simp at hlen
          exact ⟨_, _, _, _, _, _, _, _, _, _, _, _, _, _, rfl⟩
        simp only [List.mapM_cons, List.mapM_nil, Option.bind_eq_bind, Option.bind_eq_some_iff, Option.pure_def, Option.some.injEq, cells3, cells25, cells26, List.drop_zero, List.drop_succ_cons, List.take_succ_cons, List.take_zero] at h1
        obtain ⟨x0, q0, _, ⟨x1, q1, _, ⟨x2, q2, _, ⟨x3, q3, _, rfl, rfl⟩, rfl⟩, rfl⟩, rfl⟩ := h1
        simp only [List.map_cons, List.map_nil, Rows.uptoBulk, Rows.uptoBulkAll] at hb
        obtain ⟨I, rI, fI⟩ := datum_in fuel _ x0.1 x0.2 q0 (by omega)
        obtain ⟨n, rn, _, wn⟩ := rd_int Tryz.underlying3 (d := x1.1) (ps := x1.2) q1
        obtain ⟨D, rD, fD⟩ := datum_in fuel _ x2.1 x2.2 q2 (by omega)
        obtain ⟨L, rL, fL, lL⟩ := lists cd x3.1 x3.2 q3 (by omega)
        cases rn
        obtain ⟨rI1, oI⟩ := agg_rel rI
        obtain ⟨rD1, oD⟩ := agg_rel rD
        refine ⟨.mk I n D L, ?_, ?_⟩
        · rw [encG]
          have r1 : Rels (G.start W) (gcs I n D (.lst (encGs L))) ([c0, c1, c2, c3, c4, c5] ++ (.int .i64 n :: ([c7, c8, c9, ca, cb, cc] ++ [cd]))) := rI1.append (.cons rfl (rD1.append (.one rL)))
          refine ⟨_, rfl, r1, ?_⟩
          have one : ∀ {x : List AV} {v : Value}, Rel (G.start W) (.lst x) v → v.oneCell' = true := by
            intro x v hr
            simp only [Rel] at hr
            obtain ⟨_, _, _, _, rfl, _⟩ := hr
            rfl
          intro u hu
          have hu' : u ∈ [c0, c1, c2, c3, c4, c5] ∨ u = .int .i64 n ∨ u ∈ [c7, c8, c9, ca, cb, cc] ∨ u = cd := by
            simp only [List.cons_append, List.nil_append, List.mem_cons, List.not_mem_nil, or_false, or_assoc] at hu ⊢
            exact hu
          rcases hu' with hu | rfl | hu | rfl
          · exact oI u hu
          · rfl
          · exact oD u hu
          · exact one rL
        · rw [Got.fits]
          exact ⟨fI, fD, by simpa [Lit.wf, IntKind.min, IntKind.max, IntKind.signed, IntKind.bits] using wn, lL, fL⟩
      · cases h
theorem gots_in {fuel : Nat} {v : Value} {d : DataW H} {ps : List MemPlace} (h : rd en Tryz.prog W fuel 26 [v] = some (d, ps)) (hb : Rows.uptoBulk d ≤ 1048576) : ∃ L : List Got, Rel (G.start W) (.lst (encGs L)) v ∧ gfits L ∧ L.length < 2 ^ 21 := by
  obtain ⟨ys, h1, h2⟩ := rd_lst (α := Got) Tryz.underlying26 (by rw [cells44]; decide) h encG (fun _ y => y.fits) (fun cs x p hx hr hl => by
    obtain ⟨l, r, rfl, hm⟩ := hx
    have hb2 : Rows.uptoBulk x ≤ 1048576 := by
      have := bulk_mem hm
      simp only [Rows.uptoBulk] at hb
      omega
    obtain ⟨y, y1, y2⟩ := got_in (fuel - 1) cs x p hr hb2
    exact ⟨y, _, y1, by simp [Value.cells], y2⟩)
  rw [← encGs_map] at h1
  refine ⟨ys, h1, ?_⟩
  rcases h2 with ⟨_, rfl⟩ | ⟨l, r, rfl, hl, hc⟩
  · exact ⟨trivial, by simp⟩
  · have := bulk_length l
    simp only [Rows.uptoBulk] at hb
    refine ⟨gfits_of fun y hy => ?_, by omega⟩
    obtain ⟨i, hi, e⟩ := List.getElem_of_mem hy
    exact hc i _ y (List.getElem?_eq_getElem (by omega)) (by rw [List.getElem?_eq_getElem hi, e])
theorem trod_datum {v : Value} {d : DataW H} {p : List MemPlace} (h : DataW.Trod en Tryz.prog W 0 (fun _ => true) true 25 v d p) (hb : Rows.uptoBulk d ≤ 1048576) : ∃ x : Dat, Rel (G.start W) (enc x) v ∧ x.fits := by
  obtain ⟨fuel, h⟩ := h
  have hv : v = .agg v.cells := by
    have hl : v.cells.toList.length = 6 := by
      cases fuel with
      | zero => cases h
      | succ fuel =>
        simp only [DataW.trod, Tryz.underlying25, cells25] at h
        split at h
        · assumption
        · cases h
    cases v <;> first | rfl | (simp [Value.cells] at hl)
  obtain ⟨x, h1, h2⟩ := datum_in fuel _ d p h hb
  refine ⟨x, ?_, h2⟩
  rw [hv]
  simpa using h1
theorem trod_gots {v : Value} {d : DataW H} {p : List MemPlace} {base : Nat} (hv : Value.okWide Tryz.prog W .any base 26 v) (h : DataW.Trod en Tryz.prog W 0 (fun _ => true) true 26 v d p) (hb : Rows.uptoBulk d ≤ 1048576) : ∃ L : List Got, Rel (G.start W) (.lst (encGs L)) v ∧ gfits L ∧ L.length < 2 ^ 21 := by
  obtain ⟨fuel, h⟩ := h
  have hv : v.cells.toList = [v] := by
    cases v with
    | agg cs => simp [Value.okWide, Cell.okWide, Cell.ok, Tryz.underlying26] at hv
    | _ => rfl
  rw [hv] at h
  exact gots_in h hb
theorem trod_int {v : Value} {d : DataW H} {p : List MemPlace} {base : Nat} (hv : Value.okWide Tryz.prog W .any base 3 v) (h : DataW.Trod en Tryz.prog W 0 (fun _ => true) true 3 v d p) : ∃ n : Int, Rel (G.start W) (int n) v := by
  obtain ⟨fuel, h⟩ := h
  have hv : v.cells.toList = [v] := by
    cases v with
    | agg cs => simp [Value.okWide, Cell.okWide, Cell.ok, Tryz.underlying3] at hv
    | _ => rfl
  rw [hv] at h
  obtain ⟨n, h1, rfl, hw⟩ := rd_int Tryz.underlying3 h
  cases h1
  exact ⟨n, rfl⟩
end
end Go.Proofs.YtjiijacibpgciaaGreat
