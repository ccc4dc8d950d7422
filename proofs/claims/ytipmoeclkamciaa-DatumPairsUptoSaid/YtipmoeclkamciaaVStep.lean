/- A step of the abstract interpreter, calls among them, is sound; a region in the text's order. -/
import Derived.Test.YtipmoeclkamciaaVOps6
import Derived.Test.YtipmoeclkamciaaVVer
set_option linter.unusedSimpArgs false
set_option linter.unusedVariables false
set_option linter.unusedSectionVars false
namespace Go.V
open Go.RowKit
variable {P : Program} {B : Nat} {W : World} {g : G} {m : Mem} {w : World} {H : Calls1}

/-- What a call comes to, in every world that fits. -/
def CallOk (P : Program) (B : Nat) (W : World) (f : FuncId) (args : List AV) (m : Mem) (v : AV) (m' : Mem) : Prop :=
  ∀ (g : G) (w : World) (vals : List Value), Rels g args vals → WR B W g m w →
    ((callFunc f vals.toArray).run P w = .ok (.enter f vals.toArray) w ∧ Calls P f vals.toArray w fun e w' => ∃ v' g', e = .returned v' ∧ g.le g' ∧ Rel g' v v' ∧ WR B W g' m' w') ∨
    ∃ v' g', (callFunc f vals.toArray).run P w = .ok (.value v') w ∧ g.le g' ∧ Rel g' v v' ∧ WR B W g' m' w

structure HSound (P : Program) (B : Nat) (W : World) (H : Calls1) : Prop where
  func : ∀ f args m v m', H (.func f) args m = some (v, m') → VI m → CallOk P B W f args m v m'
  other : ∀ fn args m, (∀ f, fn ≠ .func f) → H fn args m = none

def vbool : Value → Option Bool
  | .bool b => some b
  | _ => none

theorem bool_of_rel {x : AV} {v : Value} (h : Rel g x v) : abool x = vbool v := by
  cases v with
  | bool b => rw [rel_bool h]; rfl
  | _ =>
    unfold abool
    split
    · simp [Rel] at h
    · rfl

theorem ayields_sound {N : Nat} {s : Sl} {a : Act} (k : SR g N s a) (ops : Array Oper) (j : Nat) : ayields ops s j = yielded ops a.tmps j := by
  unfold ayields yielded
  cases hd : (ops[j]?).bind (·.dst) with
  | none => rfl
  | some d =>
    simp only [Option.bind_some]
    rw [bool_of_rel (k.rel d)]
    cases ht : a.tmps[d]? with
    | none => simp [ht, undef, vbool]
    | some v => simp [ht]; cases v <;> rfl

theorem wanted_sound {N : Nat} {s : Sl} {a : Act} (k : SR g N s a) (ops : Array Oper) (o : Oper) : Region.wanted o (ayields ops s) = Region.wanted o (yielded ops a.tmps) := by
  unfold Region.wanted
  split
  · rfl
  · rw [ayields_sound k]

theorem astep_sound (hH : HSound P B W H) (h : WR B W g m w) {s : Sl} {a : Act} {o : Oper} (hvi : rank o = 2 → VI m) (k : OR g s a o.op.operands.toList) {x : AV} {m' : Mem} (e : astep P H s o m = some (x, m'))
    {K : Act → World → Prop} {Q : Exit → Act → World → Prop} (hK : ∀ g' v' w', g.le g' → Rel g' x v' → WR B W g' m' w' → K (a.put o.dst v') w') : o.wp P a w K Q := by
  unfold Oper.wp
  have plain : aop P s o m = some (x, m') → o.upon P a K Q ((execOp a.eval o).run P w) := by
    intro e
    obtain ⟨w', g', v', h1, h2, h3, h4⟩ := aop_sound h k e
    rcases h1 with h1 | ⟨h1, rfl⟩
    · rw [h1]; exact hK g' v' w' h2 h3 h4
    · rw [h1]; exact hK g' undef w' h2 h3 h4
  unfold astep at e
  split at e
  · rename_i f args ts ho
    split at e
    · rename_i fn first captured hf
      cases fn with
      | func fid =>
        have kf := k f (by simp [ho, Op.operands, Call.operands])
        rw [hf] at kf
        simp only [Rel] at kf
        obtain ⟨vf, vc, hv, h1, h2⟩ := kf
        have hargs := (h1.append (OR.evs (xs := args.toList) fun y hy => k y (by simp [ho, Op.operands, Call.operands]; exact .inr (by simpa using hy)))).append h2
        have hex : (execOp a.eval o).run P w = (callFunc fid (vf ++ args.toList.map a.eval ++ vc).toArray).run P w := by
          have : (vf ++ args.toList.map a.eval ++ vc).toArray = vf.toArray ++ args.map a.eval ++ vc.toArray := by
            apply Array.ext'
            simp
          simp only [execOp, ho, resolve, hv, Deferred.ofValue, Sem.run_bind, Sem.run_pure, Result.andThen_ok, invoke, this]
        rw [hex]
        rcases hH.func fid _ m x m' e (hvi (by obtain ⟨dst, op, ty, pos, af, gd⟩ := o; simp only at ho; subst ho; rfl)) g w _ hargs h with ⟨c1, c2⟩ | ⟨v', g', c1, c2, c3, c4⟩
        · rw [c1]
          refine c2.mono fun e' w' ⟨v', g', he, d1, d2, d3⟩ => ?_
          subst he
          exact hK g' v' w' d1 d2 d3
        · rw [c1]
          exact hK g' v' w c2 c3 c4
      | _ => rw [hH.other _ _ _ (by intro f h; cases h)] at e; cases e
    · cases e
  · exact plain e

/-- A region in the text's order. -/
theorem aops_sound (hH : HSound P B W H) (hV : HVer H) {N : Nat} (ops : Array Oper) {Q : Exit → Act → World → Prop} (D : List Deferred) : ∀ (rest : List Oper) (i : Nat) (s : Sl) (m : Mem) (s' : Sl) (m' : Mem), ops.toList.drop i = rest → aops P H N ops rest s m = some (s', m') → VI m →
    ∀ (g : G) (a : Act) (w : World), a.defers = D → SR g N s a → WR B W g m w → (∀ g' a' w', g.le g' → a'.defers = D → SR g' N s' a' → WR B W g' m' w' → Q .normal a' w') → wpOps P ops Q (List.range' i rest.length) a w
  | [], i, s, m, s', m', hd, e, hvi, g, a, w, hdf, k, h, hQ => by
    simp only [aops, Option.some.injEq, Prod.mk.injEq] at e
    obtain ⟨rfl, rfl⟩ := e
    exact hQ g a w (.refl g) hdf k h
  | o :: rest, i, s, m, s', m', hd, e, hvi, g, a, w, hdf, k, h, hQ => by
    have ho : ops[i]? = some o := by
      have : ops.toList[i]? = some o := by
        rw [← List.head?_drop, hd]; rfl
      simpa using this
    have hd' : ops.toList.drop (i + 1) = rest := by
      rw [← List.drop_drop, hd]; rfl
    simp only [List.length_cons, List.range'_succ, wpOps, ho]
    rw [← wanted_sound k ops o]
    simp only [aops] at e
    split at e
    · rename_i hw
      simp only [hw, if_true]
      split at e
      · rename_i v m1 hstep
        split at e
        · rename_i s1 hput
          refine .inl (astep_sound hH h (fun _ => hvi) (k.or _) hstep fun g' v' w' l1 r1 w1 => ?_)
          refine aops_sound hH hV ops D rest (i + 1) s1 m1 s' m' hd' e ((VM.astep hV hstep).inv hvi) g' _ w' ?_ ((k.mono l1).set r1 hput) w1 fun g2 a2 w2 l2 d2 k2 h2 => hQ g2 a2 w2 (l1.trans l2) d2 k2 h2
          cases o.dst <;> simp [Act.put, hdf]
        · cases e
      · cases e
    · rename_i hw
      simp only [hw, if_false, Bool.false_eq_true]
      split at e
      · rename_i s1 hput
        refine aops_sound hH hV ops D rest (i + 1) s1 m s' m' hd' e hvi g _ w ?_ (k.set (by rfl) hput) h hQ
        cases o.dst <;> simp [Act.put, hdf]
      · cases e
end Go.V
