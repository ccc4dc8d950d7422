/- A region whose order is open is sound: whatever order its edges allow, it comes to what the text's order comes to. -/
import Derived.Test.YtipmoeclkamciaaVStep
import Derived.Test.YtipmoeclkamciaaVVer
set_option linter.unusedSimpArgs false
set_option linter.unusedVariables false
set_option linter.unusedSectionVars false
namespace Go.V
open Go.RowKit
variable {P : Program} {B : Nat} {W : World} {H : Calls1}

/-- Which operations are waited for, in one step or through another one. -/
def beforeStep (acc : Array Nat) (o : Oper) : Nat := o.after.foldl (fun s e => if Region.binds .any e then s ||| 2 ^ e.on ||| acc.getD e.on 0 else s) 0

theorem foldl_bits (acc : Array Nat) : ∀ (l : List Edge) (s0 : Nat) (i : Nat), (l.foldl (fun s e => if Region.binds .any e then s ||| 2 ^ e.on ||| acc.getD e.on 0 else s) s0).testBit i = true →
    s0.testBit i = true ∨ ∃ e ∈ l, Region.binds .any e = true ∧ (i = e.on ∨ (acc.getD e.on 0).testBit i = true)
  | [], s0, i, h => .inl h
  | e :: l, s0, i, h => by
    simp only [List.foldl_cons] at h
    rcases foldl_bits acc l _ i h with h1 | ⟨e', he, h2⟩
    · split at h1
      · rename_i hb
        rw [Nat.testBit_or, Nat.testBit_or, Nat.testBit_two_pow] at h1
        simp only [Bool.or_eq_true, decide_eq_true_eq] at h1
        rcases h1 with (h1 | h1) | h1
        · exact .inl h1
        · exact .inr ⟨e, by simp, hb, .inl h1.symm⟩
        · exact .inr ⟨e, by simp, hb, .inr h1⟩
      · exact .inl h1
    · exact .inr ⟨e', by simp [he], h2⟩

def BSpec (b : Array Nat) (l : List Oper) : Prop :=
  b.size = l.length ∧ ∀ j i, (b.getD j 0).testBit i = true → ∃ o, l[j]? = some o ∧ ∃ e ∈ o.after, Region.binds .any e = true ∧ (i = e.on ∨ (e.on < j ∧ (b.getD e.on 0).testBit i = true))

theorem BSpec.push {b : Array Nat} {l : List Oper} (h : BSpec b l) (o : Oper) : BSpec (b.push (beforeStep b o)) (l ++ [o]) := by
  obtain ⟨hs, hb⟩ := h
  refine ⟨by simp [hs], fun j i h => ?_⟩
  have hget : ∀ q, q < l.length → (b.push (beforeStep b o)).getD q 0 = b.getD q 0 := by
    intro q hq
    simp [Array.getElem?_push, hs, Nat.ne_of_lt hq]
  rcases Nat.lt_trichotomy j l.length with hj | hj | hj
  · rw [hget j hj] at h
    obtain ⟨o', ho', e, he, hbd, hr⟩ := hb j i h
    refine ⟨o', by rw [List.getElem?_append_left hj]; exact ho', e, he, hbd, ?_⟩
    rcases hr with hr | ⟨h1, h2⟩
    · exact .inl hr
    · exact .inr ⟨h1, by rw [hget _ (by omega)]; exact h2⟩
  · subst hj
    have : (b.push (beforeStep b o)).getD l.length 0 = beforeStep b o := by rw [Array.getD_eq_getD_getElem?, Array.getElem?_push, if_pos hs.symm]; rfl
    rw [this] at h
    unfold beforeStep at h
    rw [← Array.foldl_toList] at h
    rcases foldl_bits b _ _ _ h with h | ⟨e, he, hbd, hr⟩
    · simp at h
    · refine ⟨o, by simp, e, by simpa using he, hbd, ?_⟩
      rcases hr with hr | hr
      · exact .inl hr
      · have hlt : e.on < l.length := by
          rcases Nat.lt_or_ge e.on l.length with h' | h'
          · exact h'
          · simp [Array.getElem?_eq_none (show b.size ≤ e.on by omega)] at hr
        exact .inr ⟨hlt, by rw [hget _ hlt]; exact hr⟩
  · have : (b.push (beforeStep b o)).getD j 0 = 0 := by
      rw [Array.getD_eq_getD_getElem?, Array.getElem?_eq_none (by simp; omega)]; rfl
    rw [this] at h
    simp at h

theorem before_spec_list : ∀ (l pre : List Oper) (b : Array Nat), BSpec b pre → BSpec (l.foldl (fun acc o => acc.push (beforeStep acc o)) b) (pre ++ l)
  | [], pre, b, h => by simpa using h
  | o :: l, pre, b, h => by
    have := before_spec_list l (pre ++ [o]) _ (h.push o)
    simpa using this

theorem before_spec {ops : Array Oper} {j i : Nat} (h : ((Region.before ops).getD j 0).testBit i = true) :
    ∃ o, ops[j]? = some o ∧ ∃ e ∈ o.after, Region.binds .any e = true ∧ (i = e.on ∨ (e.on < j ∧ ((Region.before ops).getD e.on 0).testBit i = true)) := by
  have hb : Region.before ops = ops.toList.foldl (fun acc o => acc.push (beforeStep acc o)) (#[] : Array Nat) := by
    unfold Region.before
    rw [← Array.foldl_toList]
    rfl
  rw [hb] at h ⊢
  have hsp := before_spec_list ops.toList [] #[] ⟨rfl, fun j i h => by simp at h⟩
  rw [List.nil_append] at hsp
  obtain ⟨o, ho, r⟩ := hsp.2 j i h
  exact ⟨o, by simpa using ho, r⟩

/-- Is it listed? -/
def Li (listed : Array Bool) (i : Nat) : Prop := listed.getD i false = true

def DC (ops : Array Oper) (listed : Array Bool) : Prop := ∀ j o, ops[j]? = some o → Li listed j → ∀ e ∈ o.after, Region.binds .any e = true → Li listed e.on

theorem closed {ops : Array Oper} {listed : Array Bool} (hd : DC ops listed) : ∀ (j : Nat) (o : Oper), ops[j]? = some o → (∀ e ∈ o.after, Region.binds .any e = true → Li listed e.on) → ∀ i, ((Region.before ops).getD j 0).testBit i = true → Li listed i := by
  intro j
  induction j using Nat.strongRecOn with
  | _ j ih =>
    intro o ho hp i hi
    obtain ⟨o', ho', e, he, hb, hr⟩ := before_spec hi
    rw [ho] at ho'
    cases ho'
    have hl := hp e he hb
    rcases hr with rfl | ⟨h1, h2⟩
    · exact hl
    · have hlt : e.on < ops.size := by
        have := (Array.getElem?_eq_some_iff.1 ho).1
        omega
      exact ih e.on h1 _ (Array.getElem?_eq_getElem hlt) (fun e' he' hb' => hd e.on _ (Array.getElem?_eq_getElem hlt) hl e' he' hb') i h2

/-- The run in the text's order, step by step. -/
structure Trace (P : Program) (H : Calls1) (N : Nat) (ops : Array Oper) (S : Nat → Sl) (M : Nat → Mem) : Prop where
  step : ∀ i o, ops[i]? = some o →
    (Region.wanted o (ayields ops (S i)) = true ∧ ∃ v, astep P H (S i) o (M i) = some (v, M (i + 1)) ∧ aput N (S i) o.dst v = some (S (i + 1))) ∨
    (Region.wanted o (ayields ops (S i)) = false ∧ aput N (S i) o.dst undefV = some (S (i + 1)) ∧ M (i + 1) = M i)

theorem trace_of (N : Nat) (ops : Array Oper) : ∀ (l : List Oper) (i : Nat) (s : Sl) (m : Mem) (s' : Sl) (m' : Mem) (ms : List (Sl × Mem)), aopsT P H N ops l s m = some (s', m', ms) →
    ∃ (S : Nat → Sl) (M : Nat → Mem), S i = s ∧ M i = m ∧ S (i + l.length) = s' ∧ M (i + l.length) = m' ∧ (∀ k, ms[k]? = if k ≤ l.length then some (S (i + k), M (i + k)) else none) ∧
      ∀ j o, i ≤ j → l[j - i]? = some o →
        (Region.wanted o (ayields ops (S j)) = true ∧ ∃ v, astep P H (S j) o (M j) = some (v, M (j + 1)) ∧ aput N (S j) o.dst v = some (S (j + 1))) ∨
        (Region.wanted o (ayields ops (S j)) = false ∧ aput N (S j) o.dst undefV = some (S (j + 1)) ∧ M (j + 1) = M j)
  | [], i, s, m, s', m', ms, e => by
    simp only [aopsT, Option.some.injEq, Prod.mk.injEq] at e
    obtain ⟨rfl, rfl, rfl⟩ := e
    refine ⟨fun _ => s, fun _ => m, rfl, rfl, rfl, rfl, fun k => ?_, fun j o _ h => by simp at h⟩
    cases k <;> simp
  | o :: l, i, s, m, s', m', ms, e => by
    have key : ∀ (s1 : Sl) (m1 : Mem), (aopsT P H N ops l s1 m1).map (fun r => (r.1, r.2.1, (s, m) :: r.2.2)) = some (s', m', ms) →
        ((Region.wanted o (ayields ops s) = true ∧ ∃ v, astep P H s o m = some (v, m1) ∧ aput N s o.dst v = some s1) ∨ (Region.wanted o (ayields ops s) = false ∧ aput N s o.dst undefV = some s1 ∧ m1 = m)) →
        ∃ (S : Nat → Sl) (M : Nat → Mem), S i = s ∧ M i = m ∧ S (i + (o :: l).length) = s' ∧ M (i + (o :: l).length) = m' ∧ (∀ k, ms[k]? = if k ≤ (o :: l).length then some (S (i + k), M (i + k)) else none) ∧
          ∀ j o', i ≤ j → (o :: l)[j - i]? = some o' →
            (Region.wanted o' (ayields ops (S j)) = true ∧ ∃ v, astep P H (S j) o' (M j) = some (v, M (j + 1)) ∧ aput N (S j) o'.dst v = some (S (j + 1))) ∨
            (Region.wanted o' (ayields ops (S j)) = false ∧ aput N (S j) o'.dst undefV = some (S (j + 1)) ∧ M (j + 1) = M j) := by
      intro s1 m1 e1 hstep
      simp only [Option.map_eq_some_iff, Prod.mk.injEq] at e1
      obtain ⟨⟨s2, m2, ms2⟩, e2, rfl, rfl, rfl⟩ := e1
      obtain ⟨S, M, h1, h2, h3, h4, h5, h6⟩ := trace_of N ops l (i + 1) s1 m1 s2 m2 ms2 e2
      refine ⟨fun k => if k = i then s else S k, fun k => if k = i then m else M k, by simp, by simp, ?_, ?_, fun k => ?_, fun j o' hj hl => ?_⟩
      · dsimp only
        rw [if_neg (by simp), ← h3]
        congr 1
        simp
        omega
      · dsimp only
        rw [if_neg (by simp), ← h4]
        congr 1
        simp
        omega
      · cases k with
        | zero => simp
        | succ k =>
          have hne : i + (k + 1) ≠ i := by omega
          have he : i + (k + 1) = i + 1 + k := by omega
          have hne' : i + 1 + k ≠ i := by omega
          simp only [List.getElem?_cons_succ, h5, List.length_cons, Nat.add_le_add_iff_right, he, hne', if_false]
      · dsimp only
        by_cases hji : j = i
        · subst hji
          simp only [Nat.sub_self, List.getElem?_cons_zero, Option.some.injEq] at hl
          subst hl
          rw [if_pos rfl, if_pos rfl, if_neg (by omega), if_neg (by omega), h1, h2]
          exact hstep
        · rw [if_neg hji, if_neg hji, if_neg (by omega), if_neg (by omega)]
          refine h6 j o' (by omega) ?_
          have : j - i = (j - (i + 1)) + 1 := by omega
          rw [this, List.getElem?_cons_succ] at hl
          exact hl
    simp only [aopsT] at e
    split at e
    · rename_i hw
      split at e
      · rename_i v m1 hs
        split at e
        · rename_i s1 hp
          exact key s1 m1 e (.inl ⟨hw, v, hs, hp⟩)
        · cases e
      · cases e
    · rename_i hw
      split at e
      · rename_i s1 hp
        exact key s1 m e (.inr ⟨by simpa using hw, hp, rfl⟩)
      · cases e

/-- What there is, but for the numbers of the writes. -/
def cont (m : Mem) : Nat × (Nat → Option (List AV × Bool)) := (m.next, fun id => match m.get id with | some (.cells cs f _) => some (cs, f) | none => none)

theorem cont_get {m : Mem} {id : Nat} {cs : List AV} {f : Bool} : (cont m).2 id = some (cs, f) ↔ ∃ v, m.get id = some (.cells cs f v) := by
  simp only [cont]
  cases m.get id with
  | none => simp
  | some o =>
    obtain ⟨c, f', v⟩ := o
    simp

theorem cont_none {m : Mem} {id : Nat} : (cont m).2 id = none ↔ m.get id = none := by
  simp only [cont]
  cases m.get id with
  | none => simp
  | some o => obtain ⟨c, f', v⟩ := o; simp

theorem WR.congr {g : G} {m m' : Mem} {w : World} (h : WR B W g m w) (e : cont m = cont m') : WR B W g m' w := by
  have e1 : m.next = m'.next := congrArg Prod.fst e
  have e2 : ∀ id, (cont m).2 id = (cont m').2 id := fun id => by rw [e]
  have some1 : ∀ id, (m'.get id).isSome = true → (m.get id).isSome = true := by
    intro id hs
    cases hm : m.get id with
    | some o => rfl
    | none =>
      have := cont_none.1 ((e2 id).symm.trans (cont_none.2 hm))
      rw [this] at hs; cases hs
  refine ⟨h.below, h.base, e1 ▸ h.n, fun id o ho => ?_, fun id cs f ver ho => ?_, fun i j hi hj => h.inj i j (some1 i hi) (some1 j hj), h.fz⟩
  · obtain ⟨o', ho'⟩ := Option.isSome_iff_exists.1 (some1 id (by rw [ho]; rfl))
    exact h.ids id o' ho'
  · have : (cont m').2 id = some (cs, f) := cont_get.2 ⟨ver, ho⟩
    rw [← e2] at this
    obtain ⟨v, hv⟩ := cont_get.1 this
    exact h.objs id cs f v hv

theorem pm {β : Type} {A : Option β} {F : β → AV} {m m1 : Mem} {v : AV} (h : A.map (fun y => (F y, m)) = some (v, m1)) : m1 = m ∧ ∀ m2 : Mem, A.map (fun y => (F y, m2)) = some (v, m2) := by
  simp only [Option.map_eq_some_iff, Prod.mk.injEq] at h
  obtain ⟨y, hy, rfl, rfl⟩ := h
  exact ⟨rfl, fun m2 => by rw [hy]; rfl⟩
theorem pb {α β : Type} {x : Option α} {A : α → Option β} {F : β → AV} {m m1 : Mem} {v : AV} (h : (x.bind fun t => (A t).map fun y => (F y, m)) = some (v, m1)) : m1 = m ∧ ∀ m2 : Mem, (x.bind fun t => (A t).map fun y => (F y, m2)) = some (v, m2) := by
  cases x with
  | none => cases h
  | some t => exact pm h

/-- An operation that only reckons: the memory does not matter. -/
theorem pure_step {s : Sl} {o : Oper} {m m1 : Mem} {v : AV} (hr : rank o = 0) (e : astep P H s o m = some (v, m1)) : m1 = m ∧ ∀ m2, astep P H s o m2 = some (v, m2) := by
  obtain ⟨dst, op, type, pos, after, guard⟩ := o
  cases op <;> simp only [rank] at hr <;> (try cases hr)
  case call c =>
    obtain ⟨callee, args, ts⟩ := c
    cases callee with
    | builtin b =>
      cases b <;> simp at hr <;> exact pm (F := id) e
    | value f => cases hr
    | invoke a b => cases hr
  all_goals (simp only [astep, aop] at e ⊢)
  case move y => cases e; exact ⟨rfl, fun _ => rfl⟩
  case assign y => cases e; exact ⟨rfl, fun _ => rfl⟩
  case pick c y z => split at e <;> cases e; exact ⟨rfl, fun _ => rfl⟩
  case nilCheck y =>
    split at e
    · cases e; exact ⟨rfl, fun _ => rfl⟩
    · cases e; exact ⟨rfl, fun _ => rfl⟩
    · split at e
      · rename_i hp; cases e; exact ⟨rfl, fun _ => by rw [if_pos hp]⟩
      · cases e
    · cases e
  case makeFunc f fi ca => cases e; exact ⟨rfl, fun _ => rfl⟩
  case unOp op T y => exact pb e
  case convert T T' y => exact pb e
  case extract y i =>
    split at e
    · exact pm (F := id) e
    · cases e
  all_goals exact pm (F := id) e

theorem load_step {s : Sl} {o : Oper} {m m1 : Mem} {v : AV} (hr : rank o = 1) (e : astep P H s o m = some (v, m1)) : ∃ T y, o.op = .load T y ∧ m1 = m ∧ aload P T (ev s y) m = some v ∧ ∀ m2, aload P T (ev s y) m2 = some v → astep P H s o m2 = some (v, m2) := by
  obtain ⟨dst, op, type, pos, after, guard⟩ := o
  cases op <;> simp only [rank] at hr <;> (try cases hr)
  case load T y =>
    simp only [astep, aop] at e ⊢
    simp only [Option.map_eq_some_iff, Prod.mk.injEq] at e
    obtain ⟨a, h1, rfl, rfl⟩ := e
    exact ⟨T, y, rfl, rfl, h1, fun m2 h2 => by rw [h2]; rfl⟩
  case call c =>
    obtain ⟨callee, args, ts⟩ := c
    cases callee with
    | builtin b => cases b <;> simp at hr
    | _ => cases hr

theorem store_step {s : Sl} {o : Oper} {m m1 : Mem} {v : AV} (hr : rank o = 3) (e : astep P H s o m = some (v, m1)) :
    ∃ id cs ver cs', objOf s o = some id ∧ m.get id = some (.cells cs false ver) ∧ m1 = m.set id cs' ∧ v = undefV ∧ ∀ (m2 : Mem) (v2 : Nat), m2.get id = some (.cells cs false v2) → astep P H s o m2 = some (undefV, m2.set id cs') := by
  obtain ⟨dst, op, type, pos, after, guard⟩ := o
  cases op <;> simp only [rank] at hr <;> (try cases hr)
  case store T y z =>
    simp only [astep, aop] at e ⊢
    simp only [Option.map_eq_some_iff, Prod.mk.injEq] at e
    obtain ⟨a, h1, rfl, rfl⟩ := e
    unfold astore at h1
    split at h1
    · rename_i id off hy
      split at h1
      · rename_i cs ver hg
        split at h1
        · rename_i hc
          cases h1
          refine ⟨id, cs, ver, _, by simp [objOf, hy], hg, rfl, rfl, fun m2 v2 h2 => ?_⟩
          simp only [astore, hy, h2]
          rw [if_pos hc]
          rfl
        · cases h1
      · cases h1
    · cases h1
  case call c =>
    obtain ⟨callee, args, ts⟩ := c
    cases callee with
    | builtin b => cases b <;> simp at hr
    | _ => cases hr

theorem rank_le (o : Oper) : rank o = 0 ∨ rank o = 1 ∨ rank o = 2 ∨ rank o = 3 := by
  unfold rank
  repeat' split
  all_goals simp
end Go.V
