import Derived.Test.YtjiijacibpgciaaGreatVK
/- maps.Keys of an empty map, told by hand. -/
set_option linter.unusedSimpArgs false
set_option linter.unusedVariables false
set_option linter.unusedSectionVars false
namespace Go.V
open Go.RowKit
variable {P : Program} {B : Bs} {W : World} {g : G} {m : Mem} {w : World}

/-- maps.Keys$1 of an empty map: nothing is handed on. -/
def keysH (args : List AV) (m : Mem) : Option (AV × Mem) :=
  match args with
  | [.yl _, .ptr p 0] => match m.get p with
    | some (.cells [.mp id] _ _) => match m.map id with
      | some M => if M.es.isEmpty then some (.tup [], m) else none
      | none => none
    | _ => none
  | _ => none

/-- The text of maps.Keys$1. -/
structure KeysAt (P : Program) (fn : Func) (T : TypeId) (i0 i1 i2 : Nat) (x1 x2 x3 x4 : Oper) (rest : Code) : Prop where
  body : fn.body = some (.seq (.region i0 #[x1, x2] false) (.block i1 (.loop (.seq (.region i2 #[x3, x4] false) (.seq (.cond (.tmp 7) .skip (.exit i1)) rest)))))
  name : fn.name ≠ "runtime.NumGoroutine"
  res : fn.results = #[]
  size : fn.ntmps = 14
  o1 : x1.op = .load T (.tmp 1) ∧ x1.dst = some 4 ∧ x1.guard = none
  o2 : x2.op = .range T (.tmp 4) ∧ x2.dst = some 5 ∧ x2.guard = none
  o3 : x3.op = .next (.tmp 5) false ∧ x3.dst = some 6 ∧ x3.guard = none
  o4 : x4.op = .extract (.tmp 6) 0 ∧ x4.dst = some 7 ∧ x4.guard = none
  ty : ∃ k e, P.underlying T = some (.map k e)
  ag : tagg P T = some false

theorem told_keys {f : FuncId} {fn : Func} {T : TypeId} {i0 i1 i2 : Nat} {x1 x2 x3 x4 : Oper} {rest : Code} (hf : P.funcs[f]? = some fn) (K : KeysAt P fn T i0 i1 i2 x1 x2 x3 x4 rest) : ByHand P f keysH := by
  have unf : ∀ {args m v m'}, keysH args m = some (v, m') → ∃ i p id fz ver M, args = [.yl i, .ptr p 0] ∧ m.get p = some (.cells [.mp id] fz ver) ∧ m.map id = some M ∧ M.es = [] ∧ v = .tup [] ∧ m' = m := by
    intro args m v m' e
    unfold keysH at e
    split at e
    · rename_i i p
      split at e
      · rename_i id fz ver hg
        split at e
        · rename_i M hM
          split at e
          · rename_i he
            cases e
            exact ⟨i, p, id, fz, ver, M, rfl, hg, hM, by simpa using he, rfl, rfl⟩
          · cases e
        · cases e
      · cases e
    · cases e
  refine ⟨fun B W args m v m' e hv => ?_, fun args m v m' e => ?_⟩
  · obtain ⟨i, p, id, fz, ver, M, rfl, hg, hM, he, rfl, rfl⟩ := unf e
    intro g w vals k h
    refine .inl ⟨run_callFunc_enter hf K.body K.name, ?_⟩
    have hH : HSound P B W (fun _ _ _ => none) := ⟨fun f args m v m' e => (by cases e), fun id args m v m' e => (by cases e), fun fn args m h1 h2 => rfl⟩
    have sr := enter_sr k (N := fn.ntmps) (by rw [K.size]; simp)
    refine callsIn_wide.1 (callsIn_of_wp_marks (F := Fence.wide) (n := 0) hf K.body trivial ?_)
    generalize ha : ({ tmps := vals.toArray ++ Array.replicate (fn.ntmps - vals.toArray.size) undef, defers := [] } : Act) = a at *
    have hdf : a.defers = [] := by rw [← ha]
    refine wpIn_seq (wpIn_region ?_)
    obtain ⟨q1, q2, q3⟩ := K.o1
    obtain ⟨r1, r2, r3⟩ := K.o2
    obtain ⟨u1, u2, u3⟩ := K.o3
    obtain ⟨y1, y2, y3⟩ := K.o4
    obtain ⟨kt, et, hu⟩ := K.ty
    have hwn : ∀ {o : Oper} {y : Nat → Option Bool}, o.guard = none → Region.wanted o y = true := by intro o y h; simp [Region.wanted, h]
    have hr2 : List.range (#[x1, x2] : Array Oper).size = [0, 1] := rfl
    have hr3 : List.range (#[x3, x4] : Array Oper).size = [0, 1] := rfl
    rw [hr2]
    simp only [wpOpsIn, List.getElem?_toArray, List.getElem?_cons_zero, List.getElem?_cons_succ, hwn q3, hwn r3, if_true]
    -- the map
    have e1 : astep P (fun _ _ _ => none) (Sl.putAll .nil 0 [.yl i, .ptr p 0]) x1 m' = some (.mp id, m') := by
      have : ev (Sl.putAll .nil 0 [AV.yl i, AV.ptr p 0]) (.tmp 1) = .ptr p 0 := rfl
      simp only [astep, q1, aop, aload, this, hg]
      simp [partOf, K.ag]
    refine astep_sound none hH h (fun hr => by simp [rank, q1] at hr) (sr.or _) e1 fun g1 v1 w1 l1 rel1 wr1 => ?_
    simp only [Rel] at rel1
    obtain ⟨hid, rfl⟩ := rel1
    obtain ⟨_, hB, es, hh, hE⟩ := wr1.x.mids id M hM
    rw [he] at hE
    obtain rfl : es = [] := by
      have := hE.length
      cases es with
      | nil => rfl
      | cons a l => simp at this
    have hsz : a.tmps.size = 14 := by rw [sr.size, K.size]
    have ev4 : (a.put x1.dst (.map (some (g1.mu id).1))).eval (.tmp 4) = .map (some (g1.mu id).1) := by
      simp [Act.put, q2, Act.eval, hsz]
    have hsz1 : (a.put x1.dst (.map (some (g1.mu id).1))).tmps.size = 14 := by
      simp [Act.put, q2, hsz]
    have hdf1 : (a.put x1.dst (.map (some (g1.mu id).1))).defers = [] := by simp [Act.put, q2, hdf]
    generalize a.put x1.dst (.map (some (g1.mu id).1)) = a1 at *
    generalize hb : (g1.mu id).1 = b at *
    have hbl : b < w1.heap.size := (Array.getElem?_eq_some_iff.1 hh).1
    -- the iterator
    let w2 : World := w1.alloc (.mapIter (some b) M.ck #[] M.ck)
    have run2 : (execOp a1.eval x2).run P w1 = .ok (.value (.pointer (some ⟨w1.heap.size, 0, none⟩))) w2 := by
      have hg2 : (getObj b).run P w1 = .ok (.map #[] M.ck) w1 := run_getMap (es := []) hh
      simp [execOp, r1, ev4, Instr.range, Sem.run_bind, run_underlying hu, hg2, w2]
    refine ⟨fun _ _ => trivial, ?_⟩
    rw [Oper.semAt_eq _ _ _ (by intro c hc; rw [r1] at hc; cases hc), run2]
    rw [Oper.uponIn_value]
    show Code.wpIn _ _ _ _ _ _ _
    have hsz2 : (a1.put x2.dst (.pointer (some ⟨w1.heap.size, 0, none⟩))).tmps.size = 14 := by simp [Act.put, r2, hsz1]
    have hdf2 : (a1.put x2.dst (.pointer (some ⟨w1.heap.size, 0, none⟩))).defers = [] := by simp [Act.put, r2, hdf1]
    have ev5 : (a1.put x2.dst (.pointer (some ⟨w1.heap.size, 0, none⟩))).eval (.tmp 5) = .pointer (some ⟨w1.heap.size, 0, none⟩) := by simp [Act.put, r2, Act.eval, hsz1]
    generalize a1.put x2.dst (.pointer (some ⟨w1.heap.size, 0, none⟩)) = a2 at *
    refine wpIn_block (wpIn_loop_rounds 1 ?_)
    rw [roundsIn_succ]
    refine wpIn_seq (wpIn_region ?_)
    rw [hr3]
    simp only [wpOpsIn, List.getElem?_toArray, List.getElem?_cons_zero, List.getElem?_cons_succ, hwn u3, hwn y3, if_true]
    have run3 : (execOp a2.eval x3).run P w2 = .ok (.value (.tuple #[.bool false])) w2 := by
      have g1' : (getObj w1.heap.size).run P w2 = .ok (.mapIter (some b) M.ck #[] M.ck) w2 := by
        have : w2.heap[w1.heap.size]? = some (.mapIter (some b) M.ck #[] M.ck) := by
          show (w1.heap.push _)[w1.heap.size]? = _
          simp
        simp [getObj, Sem.run, this]
      have g2' : (getObj b).run P w2 = .ok (.map #[] M.ck) w2 := by
        have : w2.heap[b]? = some (.map #[] M.ck) := by
          show (w1.heap.push _)[b]? = _
          rw [Array.getElem?_push, if_neg (by omega)]
          exact hh
        exact run_getMap (es := []) this
      simp [execOp, u1, ev5, Instr.next, Sem.run_bind, g1', g2', choose, Sem.run, Question.forced, Question.cut]
    refine ⟨fun _ _ => trivial, ?_⟩
    rw [Oper.semAt_eq _ _ _ (by intro c hc; rw [u1] at hc; cases hc), run3, Oper.uponIn_value]
    have hsz3 : (a2.put x3.dst (.tuple #[.bool false])).tmps.size = 14 := by simp [Act.put, u2, hsz2]
    have hdf3 : (a2.put x3.dst (.tuple #[.bool false])).defers = [] := by simp [Act.put, u2, hdf2]
    have ev6 : (a2.put x3.dst (.tuple #[.bool false])).eval (.tmp 6) = .tuple #[.bool false] := by simp [Act.put, u2, Act.eval, hsz2]
    generalize a2.put x3.dst (.tuple #[.bool false]) = a3 at *
    have run4 : (execOp a3.eval x4).run P w2 = .ok (.value (.bool false)) w2 := by
      simp [execOp, y1, ev6, Instr.extract]
    refine ⟨fun _ _ => trivial, ?_⟩
    rw [Oper.semAt_eq _ _ _ (by intro c hc; rw [y1] at hc; cases hc), run4, Oper.uponIn_value]
    have hdf4 : (a3.put x4.dst (.bool false)).defers = [] := by simp [Act.put, y2, hdf3]
    have ev7 : (a3.put x4.dst (.bool false)).eval (.tmp 7) = .bool false := by simp [Act.put, y2, Act.eval, hsz3]
    generalize a3.put x4.dst (.bool false) = a4 at *
    show Code.wpIn _ _ _ _ _ _ _
    refine wpIn_seq (wpIn_cond ev7 (wpIn_exit ?_))
    simp only [Exit.then, Exit.inBlock, if_true]
    have hb2 : Below w1.heap.size w1 w2 := ⟨rfl, rfl, rfl, by
      show w1.heap.size ≤ (w1.heap.push _).size
      simp, fun k hk => by
      show (w1.heap.push _)[k]? = _
      rw [Array.getElem?_push, if_neg (by omega)]⟩
    have wr2 := wr1.later hb2
    show LeavesInM _ _ _ _ _ _ _ _ _
    rw [hdf4]
    refine leaves_marks (g0 := g1) [] g1 w2 .nil (fun r hr => by cases hr) (fun b h => h) wr2 fun d w' hd hw' => ?_
    refine ⟨.tuple #[], ?_, .tuple #[], g1.wdf d, rfl, ⟨l1.n, l1.mu, l1.sz, l1.ln, l1.fz, fun b h => hd b (l1.df b h), l1.lb, l1.pn⟩, ⟨[], rfl, .nil⟩, hw'⟩
    simp [results, K.res]
  · obtain ⟨_, _, _, _, _, _, _, _, _, _, _, rfl⟩ := unf e
    exact .refl _
end Go.V
