/- A region whose order is open is sound: what has been done, in whatever order. -/
import Derived.Test.YtipmoeclkamciaaVDraw
set_option linter.unusedSimpArgs false
set_option linter.unusedVariables false
set_option linter.unusedSectionVars false
namespace Go.V
open Go.RowKit
variable {P : Program} {B : Nat} {W : World} {H : Calls1}

theorem draw_pair {ops : Array Oper} (h : drawOk ops = true) {i j : Nat} {x y : Oper} (hi : ops[i]? = some x) (hj : ops[j]? = some y) (hij : i < j) :
    (((Region.before ops).getD j 0).testBit i = true ∨ pairOk ops x y = true) ∧ (x.dst = none ∨ x.dst ≠ y.dst) := by
  unfold drawOk at h
  have hjl : j < ops.size := (Array.getElem?_eq_some_iff.1 hj).1
  have h1 := List.all_eq_true.1 h j (List.mem_range.2 hjl)
  simp only [Bool.and_eq_true] at h1
  have h2 := List.all_eq_true.1 h1.2 i (List.mem_range.2 hij)
  simp only [hi, hj, Bool.and_eq_true, Bool.or_eq_true, beq_iff_eq, bne_iff_ne, ne_eq] at h2
  exact h2

theorem draw_back {ops : Array Oper} (h : drawOk ops = true) {j : Nat} {y : Oper} (hj : ops[j]? = some y) : ∀ e ∈ y.after, Region.binds .any e = true → e.on < j := by
  unfold drawOk at h
  have hjl : j < ops.size := (Array.getElem?_eq_some_iff.1 hj).1
  have h1 := List.all_eq_true.1 h j (List.mem_range.2 hjl)
  simp only [Bool.and_eq_true, hj] at h1
  intro e he hb
  have := Array.all_eq_true_iff_forall_mem.1 h1.1 e he
  simpa [hb] using this

theorem met_pair {ops : Array Oper} {ms : List (Sl × Mem)} (h : metAll ops ms = true) {i j : Nat} {x y : Oper} (hi : ops[i]? = some x) (hj : ops[j]? = some y) (hij : i < j)
    (hb : ¬ ((Region.before ops).getD j 0).testBit i = true) : metOk ops ms i j x y = true := by
  unfold metAll at h
  have hjl : j < ops.size := (Array.getElem?_eq_some_iff.1 hj).1
  have h1 := List.all_eq_true.1 h j (List.mem_range.2 hjl)
  have h2 := List.all_eq_true.1 h1 i (List.mem_range.2 hij)
  simp only [hi, hj, Bool.or_eq_true] at h2
  exact h2.resolve_left hb

/-- The facts that hold throughout. -/
structure Run (P : Program) (H : Calls1) (N : Nat) (ops : Array Oper) (S : Nat → Sl) (M : Nat → Mem) (ms : List (Sl × Mem)) : Prop where
  trace : Trace P H N ops S M
  draw : drawOk ops = true
  met : metAll ops ms = true
  mems : ∀ k, k ≤ ops.size → ms[k]? = some (S k, M k)
  ver : HVer H
  vi : VI (M 0)

/-- Two acts in the text's order, not two stores: the one waits for the other. -/
theorem act_before {ops : Array Oper} (h : drawOk ops = true) {i j : Nat} {x y : Oper} (hi : ops[i]? = some x) (hj : ops[j]? = some y) (hij : i < j) (hx : 2 ≤ rank x) (hy : 2 ≤ rank y) (hn : ¬ (rank x = 3 ∧ rank y = 3)) :
    ((Region.before ops).getD j 0).testBit i = true := by
  rcases (draw_pair h hi hj hij).1 with h1 | h1
  · exact h1
  · unfold pairOk at h1
    simp only [Bool.and_eq_true, Bool.or_eq_true, beq_iff_eq, decide_eq_true_eq] at h1
    omega

section
variable {N : Nat} {ops : Array Oper} {S : Nat → Sl} {M : Nat → Mem} {ms : List (Sl × Mem)}

/-- What an operation does to what there is. -/
def eff (ops : Array Oper) (S : Nat → Sl) (M : Nat → Mem) (i : Nat) (c : Nat × (Nat → Option (List AV × Bool))) : Nat × (Nat → Option (List AV × Bool)) :=
  match ops[i]? with
  | some o => if rank o = 2 then cont (M (i + 1)) else if rank o = 3 ∧ Region.wanted o (ayields ops (S i)) = true then (match objOf (S i) o with | some id => (c.1, fun j => if j = id then (cont (M (i + 1))).2 id else c.2 j) | none => c) else c
  | none => c

def F (ops : Array Oper) (S : Nat → Sl) (M : Nat → Mem) (L : Nat → Bool) : Nat → Nat × (Nat → Option (List AV × Bool))
  | 0 => cont (M 0)
  | k + 1 => if L k then eff ops S M k (F ops S M L k) else F ops S M L k

theorem F_below (L L' : Nat → Bool) : ∀ k, (∀ i, i < k → L i = L' i) → F ops S M L k = F ops S M L' k := by
  intro k
  induction k with
  | zero => intro _; rfl
  | succ k ih => intro h; simp only [F]; rw [ih (fun i hi => h i (by omega)), h k (by omega)]

theorem F_tail (L : Nat → Bool) (p : Nat) : ∀ q, p ≤ q → (∀ i o, p ≤ i → i < q → L i = true → ops[i]? = some o → rank o < 2) → F ops S M L q = F ops S M L p := by
  intro q
  induction q with
  | zero => intro h _; rw [show p = 0 by omega]
  | succ q ih =>
    intro hpq h
    by_cases e : p = q + 1
    · rw [e]
    · rw [← ih (by omega) fun i o h1 h2 => h i o h1 (by omega)]
      simp only [F]
      split
      · rename_i hl
        unfold eff
        split
        · rename_i o ho
          have := h q o (by omega) (by omega) hl ho
          rw [if_neg (by omega), if_neg (by omega)]
        · rfl
      · rfl

variable (R : Run P H N ops S M ms)
include R

theorem slot_step (i : Nat) (o : Oper) (ho : ops[i]? = some o) (t : Nat) (h : o.dst ≠ some t) : (S (i + 1)).at t = (S i).at t := by
  have key : ∀ v, aput N (S i) o.dst v = some (S (i + 1)) → (S (i + 1)).at t = (S i).at t := by
    intro v hv
    cases hd : o.dst with
    | none => rw [hd] at hv; simp only [aput, Option.some.injEq] at hv; rw [← hv]
    | some d =>
      rw [hd] at hv h
      simp only [aput] at hv
      split at hv
      · simp only [Option.some.injEq] at hv
        rw [← hv, Sl.at_set, if_neg (fun e => h (by rw [e]))]
      · cases hv
  rcases R.trace.step i o ho with ⟨_, v, _, h2⟩ | ⟨_, h2, _⟩
  · exact key v h2
  · exact key _ h2

theorem slot_keep (t p : Nat) : ∀ q, p ≤ q → q ≤ ops.size → (∀ i o, p ≤ i → i < q → ops[i]? = some o → o.dst ≠ some t) → (S q).at t = (S p).at t := by
  intro q
  induction q with
  | zero => intro h _ _; have : p = 0 := by omega
            rw [this]
  | succ q ih =>
    intro hpq hq hno
    by_cases e : p = q + 1
    · rw [e]
    · have hlt : q < ops.size := by omega
      rw [slot_step R q _ (Array.getElem?_eq_getElem hlt) t (hno q _ (by omega) (by omega) (Array.getElem?_eq_getElem hlt))]
      exact ih (by omega) (by omega) fun i o h1 h2 => hno i o h1 (by omega)

theorem mem_keep (i : Nat) (o : Oper) (ho : ops[i]? = some o) (hr : rank o < 2) : M (i + 1) = M i := by
  rcases R.trace.step i o ho with ⟨_, v, h1, _⟩ | ⟨_, _, h⟩
  · rcases rank_le o with h0 | h0 | h0 | h0 <;> (try omega)
    · exact (pure_step h0 h1).1
    · obtain ⟨_, _, _, h2, _⟩ := load_step h0 h1
      exact h2
  · exact h

theorem mem_idle (i : Nat) (o : Oper) (ho : ops[i]? = some o) (hw : Region.wanted o (ayields ops (S i)) = false) : M (i + 1) = M i := by
  rcases R.trace.step i o ho with ⟨h, _⟩ | ⟨_, _, h⟩
  · rw [hw] at h; cases h
  · exact h

theorem mem_vi : ∀ k, k ≤ ops.size → VI (M k) := by
  intro k
  induction k with
  | zero => intro _; exact R.vi
  | succ k ih =>
    intro hk
    have hlt : k < ops.size := by omega
    rcases R.trace.step k _ (Array.getElem?_eq_getElem hlt) with ⟨_, v, h3, _⟩ | ⟨_, _, h3⟩
    · exact (VM.astep R.ver h3).inv (ih (by omega))
    · rw [h3]; exact ih (by omega)

theorem mem_vm (k : Nat) (hk : k < ops.size) : VM (M k) (M (k + 1)) := by
  rcases R.trace.step k _ (Array.getElem?_eq_getElem hk) with ⟨_, v, h3, _⟩ | ⟨_, _, h3⟩
  · exact VM.astep R.ver h3
  · rw [h3]; exact .refl _

/-- A store, in the text's order. -/
theorem store_text (i : Nat) (o : Oper) (ho : ops[i]? = some o) (hr : rank o = 3) (hw : Region.wanted o (ayields ops (S i)) = true) :
    ∃ id cs ver cs', objOf (S i) o = some id ∧ (M i).get id = some (.cells cs false ver) ∧ M (i + 1) = (M i).set id cs' ∧ aput N (S i) o.dst undefV = some (S (i + 1)) ∧ ∀ (m2 : Mem) (v2 : Nat), m2.get id = some (.cells cs false v2) → astep P H (S i) o m2 = some (undefV, m2.set id cs') := by
  rcases R.trace.step i o ho with ⟨_, v, h1, h2⟩ | ⟨h, _⟩
  · obtain ⟨id, cs, ver, cs', a1, a2, a3, rfl, a4⟩ := store_step hr h1
    exact ⟨id, cs, ver, cs', a1, a2, a3, h2, a4⟩
  · rw [hw] at h; cases h

theorem cont_set (m : Mem) (id : Nat) (cs : List AV) : cont (m.set id cs) = ((cont m).1, fun j => if j = id then some (cs, false) else (cont m).2 j) := by
  simp only [cont, Mem.next_set, Mem.get_set, Prod.mk.injEq, true_and]
  funext j
  split <;> rename_i h
  · split at h
    · rename_i e; cases h; simp [e]
    · rename_i e; rw [if_neg e, h]
  · split at h
    · cases h
    · rename_i e; rw [if_neg e, h]

theorem eff_text (i : Nat) (hi : i < ops.size) : eff ops S M i (cont (M i)) = cont (M (i + 1)) := by
  have ho := Array.getElem?_eq_getElem hi
  unfold eff
  rw [ho]
  dsimp only
  split
  · rfl
  · rename_i hr2
    split
    · rename_i h3
      obtain ⟨id, cs, ver, cs', a1, a2, a3, _⟩ := store_text R i _ ho h3.1 h3.2
      rw [a1, a3, cont_set R]
      dsimp only
      congr 1
      funext j
      split
      · rename_i e; rw [if_pos rfl]
      · rfl
    · rename_i h3
      rcases rank_le ops[i] with h0 | h0 | h0 | h0
      · rw [mem_keep R i _ ho (by omega)]
      · rw [mem_keep R i _ ho (by omega)]
      · exact absurd h0 hr2
      · have : Region.wanted ops[i] (ayields ops (S i)) = false := by
          cases hw : Region.wanted ops[i] (ayields ops (S i)) with
          | false => rfl
          | true => exact absurd ⟨h0, hw⟩ h3
        rw [mem_idle R i _ ho this]

theorem F_prefix (L : Nat → Bool) : ∀ k, k ≤ ops.size → (∀ i o, i < k → ops[i]? = some o → 2 ≤ rank o → L i = true) → F ops S M L k = cont (M k) := by
  intro k
  induction k with
  | zero => intro _ _; rfl
  | succ k ih =>
    intro hk h
    have ho := Array.getElem?_eq_getElem (show k < ops.size by omega)
    have h1 := ih (by omega) fun i o hi => h i o (by omega)
    simp only [F]
    split
    · rw [h1]; exact eff_text R k (by omega)
    · rename_i hl
      rw [h1, mem_keep R k _ ho]
      rcases Nat.lt_or_ge (rank ops[k]) 2 with h2 | h2
      · exact h2
      · exact absurd (h k _ (by omega) ho h2) hl

/-- An object that an act did not touch has its cells. -/
theorem kept_cells (k : Nat) (hk : k < ops.size) (id : Nat) (h : verKept ms k id = true) : ((cont (M (k + 1))).2 id).map (·.1) = ((cont (M k)).2 id).map (·.1) := by
  unfold verKept at h
  rw [R.mems k (by omega), R.mems (k + 1) (by omega)] at h
  simp only [Bool.and_eq_true, beq_iff_eq] at h
  obtain ⟨h1, h2⟩ := h
  unfold Mem.ver at h1 h2
  cases hg : (M k).get id with
  | none => rw [hg] at h1; cases h1
  | some o =>
    obtain ⟨cs, f, v⟩ := o
    rw [hg] at h2
    dsimp only at h2
    cases hg' : (M (k + 1)).get id with
    | none => rw [hg'] at h2; cases h2
    | some o' =>
      obtain ⟨cs', f', v'⟩ := o'
      rw [hg'] at h2
      simp only [Option.some.injEq] at h2
      subst h2
      have hvi := mem_vi R k (by omega)
      rcases (mem_vm R k hk).kept hvi id _ _ _ _ _ _ hg hg' with ⟨_, rfl⟩ | h3
      · simp [cont, hg, hg']
      · have := (hvi _ _ _ _ hg).1
        omega

theorem kept_not_store (k : Nat) (o : Oper) (ho : ops[k]? = some o) (hr : rank o = 3) (hw : Region.wanted o (ayields ops (S k)) = true) (id : Nat) (h : verKept ms k id = true) : objOf (S k) o ≠ some id := by
  intro he
  have hk : k < ops.size := (Array.getElem?_eq_some_iff.1 ho).1
  obtain ⟨id', cs, ver, cs', a1, a2, a3, _⟩ := store_text R k o ho hr hw
  rw [he] at a1
  cases a1
  unfold verKept at h
  rw [R.mems k (by omega), R.mems (k + 1) (by omega)] at h
  simp only [Bool.and_eq_true, beq_iff_eq] at h
  have h2 := h.2
  rw [a3] at h2
  simp only [Mem.ver, a2, Mem.get_set, if_true, Option.some.injEq] at h2
  have := (mem_vi R k (by omega) _ _ _ _ a2).1
  omega

/-- What the looks of the text told of two operations that may come up in either order. -/
theorem met_load {i j : Nat} {x y : Oper} (hi : ops[i]? = some x) (hj : ops[j]? = some y) (hx : rank x = 1) (hy : 2 ≤ rank y) (hwx : Region.wanted x (ayields ops (S i)) = true) (hwy : Region.wanted y (ayields ops (S j)) = true)
    (hb1 : i < j → ¬ ((Region.before ops).getD j 0).testBit i = true) (hb2 : j < i → ¬ ((Region.before ops).getD i 0).testBit j = true) {id : Nat} (ho : objOf (S i) x = some id) : verKept ms j id = true := by
  have hil : i < ops.size := (Array.getElem?_eq_some_iff.1 hi).1
  have hjl : j < ops.size := (Array.getElem?_eq_some_iff.1 hj).1
  rcases Nat.lt_trichotomy i j with h | h | h
  · have := met_pair R.met hi hj h (hb1 h)
    unfold metOk at this
    rw [R.mems i (by omega), R.mems j (by omega)] at this
    simpa [hwx, hwy, hx, hy, ho] using this
  · subst h; rw [hi] at hj; cases hj; omega
  · have := met_pair R.met hj hi h (hb2 h)
    unfold metOk at this
    rw [R.mems i (by omega), R.mems j (by omega)] at this
    have hny : ¬ rank y = 1 := by omega
    simpa [hwx, hwy, hx, hy, ho, hny] using this

theorem met_store {i j : Nat} {x y : Oper} (hi : ops[i]? = some x) (hj : ops[j]? = some y) (hx : rank x = 3) (hy : rank y = 3) (hwx : Region.wanted x (ayields ops (S i)) = true) (hwy : Region.wanted y (ayields ops (S j)) = true)
    (hne : i ≠ j) (hb1 : i < j → ¬ ((Region.before ops).getD j 0).testBit i = true) (hb2 : j < i → ¬ ((Region.before ops).getD i 0).testBit j = true) {a b : Nat} (ho : objOf (S i) x = some a) (ho' : objOf (S j) y = some b) : a ≠ b := by
  have hil : i < ops.size := (Array.getElem?_eq_some_iff.1 hi).1
  have hjl : j < ops.size := (Array.getElem?_eq_some_iff.1 hj).1
  rcases Nat.lt_trichotomy i j with h | h | h
  · have := met_pair R.met hi hj h (hb1 h)
    unfold metOk at this
    rw [R.mems i (by omega), R.mems j (by omega)] at this
    simpa [hwx, hwy, hx, hy, ho, ho'] using this
  · exact absurd h hne
  · have := met_pair R.met hj hi h (hb2 h)
    unfold metOk at this
    rw [R.mems i (by omega), R.mems j (by omega)] at this
    intro e
    subst e
    simp [hwx, hwy, hx, hy, ho, ho'] at this
end
end Go.V
