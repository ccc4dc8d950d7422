/- Every operation that calls no Go function is sound. -/
import Derived.Test.YtipmoeclkamciaaVOps5
set_option linter.unusedSimpArgs false
set_option linter.unusedVariables false
set_option linter.unusedSectionVars false
namespace Go.V
open Go.RowKit
variable {P : Program} {B : Nat} {W : World} {g : G} {m : Mem} {w : World}

theorem OpOk.value {v : AV} {v' : Value} {r : Result Next} (h : WR B W g m w) (hr : Rel g v v') (e : r = .ok (.value v') w) : OpOk P B W g m v r := ⟨w, g, v', .inl e, .refl g, hr, h⟩

/-- The operands of an operation stand for their values. -/
def OR (g : G) (s : Sl) (a : Act) (xs : List Operand) : Prop := ∀ x ∈ xs, Rel g (ev s x) (a.eval x)

theorem SR.or {N : Nat} {s : Sl} {a : Act} (k : SR g N s a) (xs : List Operand) : OR g s a xs := fun x _ => k.ev x

theorem OR.evs {s : Sl} {a : Act} : ∀ {xs : List Operand}, OR g s a xs → Rels g (xs.map (V.ev s)) (xs.map a.eval)
  | [], _ => .nil
  | x :: xs, k => .cons (k x (by simp)) (OR.evs fun y hy => k y (by simp [hy]))

theorem rels_pairs {s : Sl} {a : Act} : ∀ {ps : List (Nat × Operand)}, OR g s a (ps.map (·.2)) → (ps.map fun p => (p.1, ev s p.2)).map (·.1) = (ps.map fun p => (p.1, a.eval p.2)).map (·.1) ∧ Rels g ((ps.map fun p => (p.1, ev s p.2)).map (·.2)) ((ps.map fun p => (p.1, a.eval p.2)).map (·.2))
  | [], _ => ⟨rfl, .nil⟩
  | p :: ps, k => by
    obtain ⟨h1, h2⟩ := rels_pairs (ps := ps) fun y hy => k y (by simp only [List.map_cons, List.mem_cons]; exact .inr hy)
    exact ⟨by simp at h1 ⊢, .cons (k p.2 (by simp)) h2⟩

theorem orel_map {s : Sl} {a : Act} {x : Option Operand} (k : OR g s a x.toList) : orel g (x.map (ev s)) (x.map a.eval) := by
  cases x with
  | none => trivial
  | some x => exact k x (by simp)

theorem aop_sound (h : WR B W g m w) {s : Sl} {a : Act} {o : Oper} (k : OR g s a o.op.operands.toList) {x : AV} {m' : Mem} (e : aop P s o m = some (x, m')) : OpOk P B W g m' x ((execOp a.eval o).run P w) := by
  obtain ⟨dst, op, type, pos, after, guard⟩ := o
  cases op <;> simp only [aop] at e
  case move y => cases e; exact .value h (k y (by simp [Op.operands])) rfl
  case assign y => cases e; exact .value h (k y (by simp [Op.operands])) rfl
  case pick c y z =>
    have kc := k c (by simp [Op.operands])
    split at e
    · rename_i t hc
      rw [hc] at kc
      simp only [Rel] at kc
      cases e
      refine .value h (v' := if t then a.eval y else a.eval z) ?_ (by simp [execOp, kc, asBool])
      cases t
      · exact k z (by simp [Op.operands])
      · exact k y (by simp [Op.operands])
    · cases e
  case alloc T =>
    cases hz : tzero P T with
    | none => rw [hz] at e; cases e
    | some z =>
      rw [hz] at e
      simp only [Option.bind_some] at e
      split at e
      · rename_i hok
        cases e
        obtain ⟨zv, rfl, hv, _⟩ := run_tzero hz
        obtain ⟨w', g', h1, h2, h3, h4⟩ := newVar_sound (P := P) h (rel_ofConst zv) hok T
        refine ⟨w', g', _, .inl ?_, h2, h3, h4⟩
        simp [execOp, Instr.alloc, hv, h1]
      · cases e
  case box T y =>
    split at e
    · rename_i hok
      cases e
      obtain ⟨w', g', h1, h2, h3, h4⟩ := newVar_sound (P := P) h (k y (by simp [Op.operands])) hok T
      refine ⟨w', g', _, .inl ?_, h2, h3, h4⟩
      simp [execOp, Instr.box, h1]
    · cases e
  case build T ps =>
    simp only [Option.map_eq_some_iff, Prod.mk.injEq] at e
    obtain ⟨y, hy, rfl, rfl⟩ := e
    obtain ⟨h1, h2⟩ := rels_pairs (ps := ps.toList) (by simpa [Op.operands] using k)
    obtain ⟨u, h3, h4⟩ := abuild_sound h1 h2 hy w
    refine .value h h4 ?_
    have : (ps.map fun (i, x) => (i, a.eval x)) = (ps.toList.map fun p => (p.1, a.eval p.2)).toArray := by
      apply Array.ext'
      simp
    simp only [execOp, this, Sem.run_bind, h3, Result.andThen_ok, Sem.run_pure]
  case buildSlice T n ps =>
    obtain ⟨h1, h2⟩ := rels_pairs (ps := ps.toList) (by simpa [Op.operands] using k)
    obtain ⟨u, w', g', h3, h4, h5, h6⟩ := abuildSlice_sound h h1 h2 e
    refine ⟨w', g', u, .inl ?_, h4, h5, h6⟩
    have : (ps.map fun (i, x) => (i, a.eval x)) = (ps.toList.map fun p => (p.1, a.eval p.2)).toArray := by
      apply Array.ext'
      simp
    simp only [execOp, this, Sem.run_bind, h3, Result.andThen_ok, Sem.run_pure]
  case load T y =>
    simp only [Option.map_eq_some_iff, Prod.mk.injEq] at e
    obtain ⟨z, hz, rfl, rfl⟩ := e
    obtain ⟨u, h1, h2⟩ := aload_sound h (k y (by simp [Op.operands])) hz
    exact .value h h2 (by simp [execOp, h1])
  case store T y z =>
    simp only [Option.map_eq_some_iff, Prod.mk.injEq] at e
    obtain ⟨m1, hm, rfl, rfl⟩ := e
    obtain ⟨w', h1, h2⟩ := astore_sound h (k y (by simp [Op.operands])) (k z (by simp [Op.operands])) hm
    exact ⟨w', g, undef, .inr ⟨by simp [execOp, h1], rfl⟩, .refl g, rfl, h2⟩
  case nilCheck y =>
    have ky := k y (by simp [Op.operands])
    split at e
    · rename_i id off hy
      cases e
      rw [hy] at ky
      refine .value h ky ?_
      simp only [Rel] at ky
      simp [execOp, ky.2]
    · rename_i z off hy
      cases e
      rw [hy] at ky
      refine .value h ky ?_
      simp only [Rel] at ky
      obtain ⟨b, o', u, _, _, hv⟩ := ky
      simp [execOp, hv]
    · rename_i f fi ca hy
      split at e
      · rename_i hp
        cases e
        rw [hy] at ky
        refine .value h ky ?_
        simp only [Rel] at ky
        obtain ⟨vf, vc, hv, _⟩ := ky
        simp only [execOp, hv]
        cases f <;> first | rfl | simp [isFuncPlain] at hp
      · cases e
    · cases e
  case binOp op T y z T' =>
    simp only [Option.map_eq_some_iff, Prod.mk.injEq] at e
    obtain ⟨r, hr, rfl, rfl⟩ := e
    obtain ⟨u, h1, h2⟩ := abin_sound (k y (by simp [Op.operands])) (k z (by simp [Op.operands])) hr w
    refine .value h h2 ?_
    simp only [execOp]
    rw [Sem.run_bind, h1]
    rfl
  case unOp op T y =>
    cases hs : scal (ev s y) with
    | none => rw [hs] at e; cases e
    | some v =>
      rw [hs] at e
      simp only [Option.bind_some, Option.map_eq_some_iff, Prod.mk.injEq] at e
      obtain ⟨r, hr, rfl, rfl⟩ := e
      have hv := scal_rel hs (k y (by simp [Op.operands]))
      refine .value h (v' := r) rfl ?_
      simp [execOp, hv, pureRun_sound _ _ hr w]
  case convert T T' y =>
    cases hs : scal (ev s y) with
    | none => rw [hs] at e; cases e
    | some v =>
      rw [hs] at e
      simp only [Option.bind_some, Option.map_eq_some_iff, Prod.mk.injEq] at e
      obtain ⟨r, hr, rfl, rfl⟩ := e
      have hv := scal_rel hs (k y (by simp [Op.operands]))
      refine .value h (v' := r) rfl ?_
      simp [execOp, hv, pureRun_sound _ _ hr w]
  case makeFunc f fi ca =>
    cases e
    refine .value h (v' := .func f (fi.map a.eval) (ca.map a.eval)) ?_ rfl
    exact ⟨fi.toList.map a.eval, ca.toList.map a.eval, by congr 1 <;> (apply Array.ext'; simp), OR.evs fun y hy => k y (by simp [Op.operands]; exact .inl (by simpa using hy)), OR.evs fun y hy => k y (by simp [Op.operands]; exact .inr (by simpa using hy))⟩
  case makeSlice T l c =>
    obtain ⟨u, w', g', h1, h2, h3, h4⟩ := amakeSlice_sound h (k l (by simp [Op.operands])) (k c (by simp [Op.operands])) e
    exact ⟨w', g', u, .inl (by simp [execOp, h1]), h2, h3, h4⟩
  case slice T y lo hi mx =>
    simp only [Option.map_eq_some_iff, Prod.mk.injEq] at e
    obtain ⟨z, hz, rfl, rfl⟩ := e
    obtain ⟨u, h1, h2⟩ := aslice_sound (k y (by simp [Op.operands])) (orel_map (x := lo) (fun y hy => k y (by simp [Op.operands]; simp at hy; simp [hy]))) (orel_map (x := hi) (fun y hy => k y (by simp [Op.operands]; simp at hy; simp [hy]))) (orel_map (x := mx) (fun y hy => k y (by simp [Op.operands]; simp at hy; simp [hy]))) hz w
    exact .value h h2 (by simp [execOp, h1])
  case fieldAddr T y f =>
    simp only [Option.map_eq_some_iff, Prod.mk.injEq] at e
    obtain ⟨z, hz, rfl, rfl⟩ := e
    obtain ⟨u, h1, h2⟩ := afieldAddr_sound (k y (by simp [Op.operands])) hz w
    exact .value h h2 (by simp [execOp, h1])
  case field T y f =>
    simp only [Option.map_eq_some_iff, Prod.mk.injEq] at e
    obtain ⟨z, hz, rfl, rfl⟩ := e
    obtain ⟨u, h1, h2⟩ := afield_sound (k y (by simp [Op.operands])) hz w
    exact .value h h2 (by simp [execOp, h1])
  case indexAddr T y i =>
    simp only [Option.map_eq_some_iff, Prod.mk.injEq] at e
    obtain ⟨z, hz, rfl, rfl⟩ := e
    obtain ⟨u, h1, h2⟩ := aindexAddr_sound (k y (by simp [Op.operands])) (k i (by simp [Op.operands])) hz w
    exact .value h h2 (by simp [execOp, h1])
  case index T y i =>
    simp only [Option.map_eq_some_iff, Prod.mk.injEq] at e
    obtain ⟨z, hz, rfl, rfl⟩ := e
    obtain ⟨u, h1, h2⟩ := aindex_sound (k y (by simp [Op.operands])) (k i (by simp [Op.operands])) hz w
    exact .value h h2 (by simp [execOp, h1])
  case extract y i =>
    have ky := k y (by simp [Op.operands])
    split at e
    · rename_i vs hy
      simp only [Option.map_eq_some_iff, Prod.mk.injEq] at e
      obtain ⟨z, hz, rfl, rfl⟩ := e
      rw [hy] at ky
      simp only [Rel] at ky
      obtain ⟨us, hv, h1⟩ := ky
      obtain ⟨u, h2, h3⟩ := h1.get i z hz
      exact .value h h3 (by simp [execOp, hv, Instr.extract, h2])
    · cases e
  case call c =>
    obtain ⟨callee, args, argTypes⟩ := c
    cases callee with
    | builtin b =>
      dsimp only at e
      have := abuiltin_sound h (OR.evs (xs := args.toList) fun y hy => k y (by simp [Op.operands, Call.operands]; simpa using hy)) e (args.map fun | .const _ => true | _ => false)
      have ha : (args.toList.map a.eval).toArray = args.map a.eval := by apply Array.ext'; simp
      rw [ha] at this
      obtain ⟨w', g', v', h1, h2⟩ := this
      refine ⟨w', g', v', ?_, h2⟩
      simp only [execOp, resolve, pure_bind, invoke]
      exact h1
    | value f => cases e
    | invoke r n => cases e
  all_goals cases e
end Go.V
