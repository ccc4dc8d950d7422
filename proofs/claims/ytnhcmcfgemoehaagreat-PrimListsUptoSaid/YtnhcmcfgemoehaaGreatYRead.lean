import Derived.Test.YtnhcmcfgemoehaaGreatYDat
import Derived.Test.YtnhcmcfgemoehaaGreatVE
/- A datum as it is read. -/
set_option linter.unusedSimpArgs false
set_option linter.unusedVariables false
set_option linter.unusedSectionVars false
namespace Go.Proofs.YtnhcmcfgemoehaaGreat
set_option maxRecDepth 4000
open Go.V

theorem cells56 : Tryz.prog.cellsOf 56 = 6 := by kernel_rfl
theorem cells3 : Tryz.prog.cellsOf 3 = 1 := by kernel_rfl
theorem cells2 : Tryz.prog.cellsOf 2 = 1 := by kernel_rfl
theorem cells9 : Tryz.prog.cellsOf 9 = 1 := by kernel_rfl
theorem cells54 : Tryz.prog.cellsOf 54 = 1 := by kernel_rfl
theorem cells43 : Tryz.prog.cellsOf 43 = 1 := by kernel_rfl

section
variable {H : Type} {en : TypeId × Value → H} {W : World}
theorem bulk_mem {d : DataW H} {l : List (DataW H)} (h : d ∈ l) : Rows.uptoBulk d ≤ Rows.uptoBulkAll l := by
  induction l with
  | nil => cases h
  | cons x r ih =>
    simp only [Rows.uptoBulkAll]
    cases List.mem_cons.1 h with
    | inl e => subst e; omega
    | inr e => have := ih e; omega
theorem bulk_one (d : DataW H) : 1 ≤ Rows.uptoBulk d := by
  cases d with
  | lit l => cases l <;> simp [Rows.uptoBulk]
  | _ => simp [Rows.uptoBulk]
theorem fitss_of : ∀ {l : List Dat}, (∀ d ∈ l, d.fits) → fitss l
  | [], _ => trivial
  | d :: l, h => ⟨h d (by simp), fitss_of fun x hx => h x (by simp [hx])⟩
theorem bulk_length (l : List (DataW H)) : l.length ≤ Rows.uptoBulkAll l := by
  induction l with
  | nil => simp [Rows.uptoBulkAll]
  | cons x r ih => have := bulk_one x; simp only [Rows.uptoBulkAll, List.length_cons]; omega

/-- A list of ints. -/
theorem ints_in {fuel : Nat} {v : Value} {d : DataW H} {ps : List MemPlace} (h : rd en Tryz.prog W fuel 54 [v] = some (d, ps)) (hb : Rows.uptoBulk d ≤ 1048576) : ∃ M : List Int, Rel (G.start W) (.lst (M.map int)) v ∧ M.length < 2 ^ 21 := by
  obtain ⟨ys, h1, h2⟩ := rd_lst (α := Int) Tryz.underlying54 (by rw [cells3]; decide) h int (fun _ _ => True) (fun cs x p _ hr hl => by
    obtain ⟨n, rfl, _, _⟩ := rd_int Tryz.underlying3 hr
    exact ⟨n, _, rfl, rfl, trivial⟩)
  refine ⟨ys, h1, ?_⟩
  rcases h2 with ⟨_, rfl⟩ | ⟨l, r, rfl, hl, _⟩
  · simp
  · have := bulk_length l
    simp only [Rows.uptoBulk] at hb
    omega

theorem datum_in (fuel : Nat) : ∀ (cs : List Value) (d : DataW H) (ps : List MemPlace), rd en Tryz.prog W fuel 56 cs = some (d, ps) → Rows.uptoBulk d ≤ 1048576 → ∃ x : Dat, Rel (G.start W) (enc x) (.agg cs.toArray) ∧ x.fits := by
  induction fuel using Nat.strongRecOn with
  | _ fuel ih =>
    intro cs d ps h hb
    cases fuel with
    | zero => cases h
    | succ fuel =>
      have lists : ∀ (v : Value) (d : DataW H) (ps : List MemPlace), rd en Tryz.prog W fuel 43 [v] = some (d, ps) → Rows.uptoBulk d ≤ 1048576 → ∃ L : List Dat, Rel (G.start W) (.lst (encs L)) v ∧ fitss L ∧ L.length < 2 ^ 21 := by
        intro v d ps h hb
        have hf : fuel ≠ 0 := by rintro rfl; cases h
        obtain ⟨ys, h1, h2⟩ := rd_lst (α := Dat) Tryz.underlying43 (by rw [cells56]; decide) h enc (fun _ y => y.fits) (fun cs x p hx hr hl => by
          obtain ⟨l, r, rfl, hm⟩ := hx
          have hb2 : Rows.uptoBulk x ≤ 1048576 := by
            have := bulk_mem hm
            simp only [Rows.uptoBulk] at hb
            omega
          obtain ⟨y, y1, y2⟩ := ih (fuel - 1) (by omega) cs x p hr hb2
          exact ⟨y, _, y1, by simp [Value.cells], y2⟩)
        rw [← encs_map] at h1
        refine ⟨ys, h1, ?_⟩
        rcases h2 with ⟨_, rfl⟩ | ⟨l, r, rfl, hl, hc⟩
        · exact ⟨trivial, by simp⟩
        · have := bulk_length l
          simp only [Rows.uptoBulk] at hb
          refine ⟨fitss_of fun y hy => ?_, by omega⟩
          obtain ⟨i, hi, e⟩ := List.getElem_of_mem hy
          exact hc i _ y (List.getElem?_eq_getElem (by omega)) (by rw [List.getElem?_eq_getElem hi, e])
      simp only [rd, DataW.trod, Tryz.underlying56, cells56] at h
      split at h
      · rename_i hlen
        rw [Option.map_eq_some_iff] at h
        obtain ⟨xs, h1, h2⟩ := h
        cases h2
        obtain ⟨c0, c1, c2, c3, c4, c5, rfl⟩ : ∃ c0 c1 c2 c3 c4 c5, cs = [c0, c1, c2, c3, c4, c5] := by
          rcases cs with _ | ⟨c0, _ | ⟨c1, _ | ⟨c2, _ | ⟨c3, _ | ⟨c4, _ | ⟨c5, _ | ⟨c6, cs⟩⟩⟩⟩⟩⟩⟩ <;> simp at hlen
          exact ⟨_, _, _, _, _, _, rfl⟩
        simp only [List.mapM_cons, List.mapM_nil, Option.bind_eq_bind, Option.bind_eq_some_iff, Option.pure_def, Option.some.injEq, cells3, cells2, cells9, cells54, cells43, List.drop_zero, List.drop_succ_cons, List.take_succ_cons, List.take_zero] at h1
        obtain ⟨x0, q0, _, ⟨x1, q1, _, ⟨x2, q2, _, ⟨x3, q3, _, ⟨x4, q4, _, ⟨x5, q5, _, rfl, rfl⟩, rfl⟩, rfl⟩, rfl⟩, rfl⟩, rfl⟩ := h1
        simp only [List.map_cons, List.map_nil, Rows.uptoBulk, Rows.uptoBulkAll] at hb
        obtain ⟨K, rK, _, _⟩ := rd_int Tryz.underlying3 (d := x0.1) (ps := x0.2) q0
        obtain ⟨N, rN, _, wN⟩ := rd_int Tryz.underlying2 (d := x1.1) (ps := x1.2) q1
        obtain ⟨S, rS, dS⟩ := rd_string Tryz.underlying9 (d := x2.1) (ps := x2.2) q2
        obtain ⟨M, rM, lM⟩ := ints_in (d := x3.1) (ps := x3.2) q3 (by omega)
        obtain ⟨L, rL, fL, lL⟩ := lists c4 x4.1 x4.2 q4 (by omega)
        obtain ⟨T, rT, fT, lT⟩ := lists c5 x5.1 x5.2 q5 (by omega)
        cases rK; cases rN; cases rS
        refine ⟨.mk K N S M L T, ?_, ?_⟩
        · refine ⟨[_, _, _, _, _, _], rfl, .cons rfl (.cons rfl (.cons rfl (.cons rM (.cons rL (.cons rT .nil))))), ?_⟩
          intro u hu
          have one : ∀ {x : List AV} {v : Value}, Rel (G.start W) (.lst x) v → v.oneCell' = true := by
            intro x v hr
            simp only [Rel] at hr
            obtain ⟨_, _, _, _, rfl, _⟩ := hr
            rfl
          simp only [List.mem_cons, List.not_mem_nil, or_false] at hu
          rcases hu with rfl | rfl | rfl | rfl | rfl | rfl
          · rfl
          · rfl
          · rfl
          · exact one rM
          · exact one rL
          · exact one rT
        · rw [Dat.fits]
          refine ⟨⟨?_, ?_, lM, lL, lT⟩, fL, fT⟩
          · simpa [Lit.wf, IntKind.min, IntKind.max, IntKind.signed, IntKind.bits] using wN
          · rw [dS] at hb
            simp only [Rows.uptoBulk] at hb
            omega
      · cases h
theorem dats_in {fuel : Nat} {v : Value} {d : DataW H} {ps : List MemPlace} (h : rd en Tryz.prog W fuel 43 [v] = some (d, ps)) (hb : Rows.uptoBulk d ≤ 1048576) : ∃ L : List Dat, Rel (G.start W) (.lst (encs L)) v ∧ fitss L ∧ L.length < 2 ^ 21 := by
  obtain ⟨ys, h1, h2⟩ := rd_lst (α := Dat) Tryz.underlying43 (by rw [cells56]; decide) h enc (fun _ y => y.fits) (fun cs x p hx hr hl => by
    obtain ⟨l, r, rfl, hm⟩ := hx
    have hb2 : Rows.uptoBulk x ≤ 1048576 := by
      have := bulk_mem hm
      simp only [Rows.uptoBulk] at hb
      omega
    obtain ⟨y, y1, y2⟩ := datum_in (fuel - 1) cs x p hr hb2
    exact ⟨y, _, y1, by simp [Value.cells], y2⟩)
  rw [← encs_map] at h1
  refine ⟨ys, h1, ?_⟩
  rcases h2 with ⟨_, rfl⟩ | ⟨l, r, rfl, hl, hc⟩
  · exact ⟨trivial, by simp⟩
  · have := bulk_length l
    simp only [Rows.uptoBulk] at hb
    refine ⟨fitss_of fun y hy => ?_, by omega⟩
    obtain ⟨i, hi, e⟩ := List.getElem_of_mem hy
    exact hc i _ y (List.getElem?_eq_getElem (by omega)) (by rw [List.getElem?_eq_getElem hi, e])
end
end Go.Proofs.YtnhcmcfgemoehaaGreat
