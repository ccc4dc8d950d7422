/- A region whose order is open is sound: one operation comes up, and the theorem. -/
import Derived.Test.YtipmoeclkamciaaVDraw2
set_option linter.unusedSimpArgs false
set_option linter.unusedVariables false
set_option linter.unusedSectionVars false
namespace Go.V
open Go.RowKit
variable {P : Program} {B : Nat} {W : World} {H : Calls1}
section
variable {N : Nat} {ops : Array Oper} {S : Nat → Sl} {M : Nat → Mem} {ms : List (Sl × Mem)}

/-- The cells of an object. -/
def cc (id : Nat) (c : Nat × (Nat → Option (List AV × Bool))) : Option (List AV) := (c.2 id).map (·.1)

theorem eff_idle {k : Nat} {o : Oper} (ho : ops[k]? = some o) (h : rank o < 2 ∨ (rank o = 3 ∧ Region.wanted o (ayields ops (S k)) = false)) (c : Nat × (Nat → Option (List AV × Bool))) : eff ops S M k c = c := by
  unfold eff
  rw [ho]
  dsimp only
  rcases h with h | ⟨h, hw⟩
  · rw [if_neg (by omega), if_neg (by omega)]
  · rw [if_neg (by omega), if_neg (by rw [hw]; simp)]

theorem eff_call {k : Nat} {o : Oper} (ho : ops[k]? = some o) (h : rank o = 2) (c : Nat × (Nat → Option (List AV × Bool))) : eff ops S M k c = cont (M (k + 1)) := by
  unfold eff
  rw [ho]
  dsimp only
  rw [if_pos h]

theorem eff_store {k : Nat} {o : Oper} (ho : ops[k]? = some o) (h : rank o = 3) (hw : Region.wanted o (ayields ops (S k)) = true) {id : Nat} (hid : objOf (S k) o = some id) (c : Nat × (Nat → Option (List AV × Bool))) :
    eff ops S M k c = (c.1, fun j => if j = id then (cont (M (k + 1))).2 id else c.2 j) := by
  unfold eff
  rw [ho]
  dsimp only
  rw [if_neg (by omega), if_pos ⟨h, hw⟩, hid]

/-- One more is listed. -/
def add (L : Nat → Bool) (j : Nat) : Nat → Bool := fun i => i == j || L i

variable (R : Run P H N ops S M ms)
include R

/-- What is listed: closed, and the one that comes up now is ready. -/
structure Up (ops : Array Oper) (listed : Array Bool) (j : Nat) : Prop where
  dc : DC ops listed
  not : listed.getD j false = false
  lt : j < ops.size
  pre : ∀ o, ops[j]? = some o → ∀ e ∈ o.after, Region.binds .any e = true → Li listed e.on

theorem up_pre {listed : Array Bool} {j : Nat} (U : Up ops listed j) {i : Nat} (h : ((Region.before ops).getD j 0).testBit i = true) : listed.getD i false = true :=
  closed U.dc j _ (Array.getElem?_eq_getElem U.lt) (U.pre _ (Array.getElem?_eq_getElem U.lt)) i h

theorem up_post {listed : Array Bool} {j : Nat} (U : Up ops listed j) {k : Nat} (hk : k < ops.size) (hl : listed.getD k false = true) : ¬ ((Region.before ops).getD k 0).testBit j = true := by
  intro h
  have := closed U.dc k _ (Array.getElem?_eq_getElem hk) (U.dc k _ (Array.getElem?_eq_getElem hk) hl) j h
  unfold Li at this
  rw [U.not] at this
  cases this

/-- A call, or what makes memory: it finds what the text's order has there. -/
theorem up_call {listed : Array Bool} {j : Nat} (U : Up ops listed j) {o : Oper} (ho : ops[j]? = some o) (hr : rank o = 2) :
    F ops S M (fun i => listed.getD i false) ops.size = cont (M j) ∧ F ops S M (add (fun i => listed.getD i false) j) ops.size = cont (M (j + 1)) := by
  have pre : ∀ i x, i < j → ops[i]? = some x → 2 ≤ rank x → listed.getD i false = true := fun i x hi hx h2 => up_pre R U (act_before R.draw hx ho hi h2 (by omega) (by omega))
  have post : ∀ i x, j < i → listed.getD i false = true → ops[i]? = some x → rank x < 2 := by
    intro i x hi hl hx
    rcases Nat.lt_or_ge (rank x) 2 with h | h
    · exact h
    · exact absurd (act_before R.draw ho hx hi (by omega) h (by omega)) (up_post R U (Array.getElem?_eq_some_iff.1 hx).1 hl)
  have hj := U.lt
  constructor
  · rw [F_tail _ j ops.size (by omega) ?_]
    · exact F_prefix R _ j (by omega) pre
    · intro i x h1 h2 hl hx
      rcases Nat.lt_or_ge j i with h3 | h3
      · exact post i x h3 hl hx
      · have : i = j := by omega
        subst this
        rw [U.not] at hl
        cases hl
  · rw [F_tail _ (j + 1) ops.size (by omega) ?_]
    · simp only [F, add, beq_self_eq_true, Bool.true_or, if_true]
      exact eff_call ho hr _
    · intro i x h1 h2 hl hx
      refine post i x (by omega) ?_ hx
      have : (i == j) = false := by simp; omega
      simpa [add, this] using hl

/-- What does nothing to memory changes nothing there. -/
theorem up_idle {listed : Array Bool} {j : Nat} {o : Oper} (ho : ops[j]? = some o) (h : rank o < 2 ∨ (rank o = 3 ∧ Region.wanted o (ayields ops (S j)) = false)) :
    ∀ k, F ops S M (add (fun i => listed.getD i false) j) k = F ops S M (fun i => listed.getD i false) k := by
  intro k
  induction k with
  | zero => rfl
  | succ k ih =>
    simp only [F]
    rw [ih]
    by_cases e : k = j
    · subst e
      simp only [add, beq_self_eq_true, Bool.true_or, if_true, eff_idle ho h]
      split <;> rfl
    · have : (k == j) = false := by simpa using e
      simp only [add, this, Bool.false_or]

/-- A store finds its object as the text's order has it there. -/
theorem up_store {listed : Array Bool} {j : Nat} (U : Up ops listed j) {o : Oper} (ho : ops[j]? = some o) (hr : rank o = 3) (hw : Region.wanted o (ayields ops (S j)) = true) {id : Nat} {cs cs' : List AV} {ver : Nat}
    (hid : objOf (S j) o = some id) (hg : (M j).get id = some (.cells cs false ver)) (hm : M (j + 1) = (M j).set id cs') :
    (F ops S M (fun i => listed.getD i false) ops.size).2 id = some (cs, false) ∧
    F ops S M (add (fun i => listed.getD i false) j) ops.size = ((F ops S M (fun i => listed.getD i false) ops.size).1, fun i => if i = id then some (cs', false) else (F ops S M (fun i => listed.getD i false) ops.size).2 i) := by
  have hj := U.lt
  -- a store that is not ordered with this one goes elsewhere
  have other : ∀ k y, ops[k]? = some y → k ≠ j → rank y = 3 → Region.wanted y (ayields ops (S k)) = true → (j < k → ¬ ((Region.before ops).getD k 0).testBit j = true) → (k < j → ¬ ((Region.before ops).getD j 0).testBit k = true) →
      ∃ a b, objOf (S k) y = some a ∧ a ≠ id ∧ M (k + 1) = (M k).set a b := by
    intro k y hy hne h3 hwy h1 h2
    obtain ⟨a, c1, v1, b, a1, a2, a3, _⟩ := store_text R k y hy h3 hwy
    exact ⟨a, b, a1, fun e => met_store R ho hy hr h3 hw hwy (Ne.symm hne) h1 h2 hid a1 e.symm, a3⟩
  have C : ∀ k, k ≤ j → (F ops S M (fun i => listed.getD i false) k).2 id = (cont (M k)).2 id := by
    intro k
    induction k with
    | zero => intro _; rfl
    | succ k ih =>
      intro hk
      have hy := Array.getElem?_eq_getElem (show k < ops.size by omega)
      have ih := ih (by omega)
      simp only [F]
      rcases rank_le ops[k] with h0 | h0 | h0 | h0
      · rw [eff_idle hy (.inl (by omega)), mem_keep R k _ hy (by omega)]; simpa using ih
      · rw [eff_idle hy (.inl (by omega)), mem_keep R k _ hy (by omega)]; simpa using ih
      · have hl : listed.getD k false = true := up_pre R U (act_before R.draw hy ho (by omega) (by omega) (by omega) (by omega))
        rw [if_pos hl, eff_call hy h0]
      · cases hwk : Region.wanted ops[k] (ayields ops (S k)) with
        | false => rw [eff_idle hy (.inr ⟨h0, hwk⟩), mem_idle R k _ hy hwk]; simpa using ih
        | true =>
          obtain ⟨a, c1, v1, b, a1, a2, a3, _⟩ := store_text R k _ hy h0 hwk
          split
          · rw [eff_store hy h0 hwk a1]
            dsimp only
            split
            · rename_i e; rw [e]
            · rename_i e; rw [ih, a3, cont_set R]; dsimp only; rw [if_neg e]
          · rename_i hl
            obtain ⟨a', b', a1', hne, a3'⟩ := other k _ hy (by omega) h0 hwk (by omega) fun _ hb => hl (up_pre R U hb)
            rw [ih, a3', cont_set R]
            dsimp only
            rw [if_neg (Ne.symm hne)]
  have D : ∀ k, j ≤ k → k ≤ ops.size → (F ops S M (fun i => listed.getD i false) k).2 id = some (cs, false) ∧
      (j < k → F ops S M (add (fun i => listed.getD i false) j) k = ((F ops S M (fun i => listed.getD i false) k).1, fun i => if i = id then some (cs', false) else (F ops S M (fun i => listed.getD i false) k).2 i)) := by
    intro k
    induction k with
    | zero =>
      intro h1 _
      have : j = 0 := by omega
      subst this
      exact ⟨by rw [C 0 (Nat.le_refl _)]; exact cont_get.2 ⟨ver, hg⟩, fun h => by omega⟩
    | succ k ih =>
      intro h1 h2
      by_cases e : j = k + 1
      · subst e
        exact ⟨by rw [C _ (Nat.le_refl _)]; exact cont_get.2 ⟨ver, hg⟩, fun h => by omega⟩
      · obtain ⟨i1, i2⟩ := ih (by omega) (by omega)
        by_cases e2 : k = j
        · subst e2
          simp only [F, U.not, Bool.false_eq_true, if_false, add, beq_self_eq_true, Bool.true_or, if_true]
          refine ⟨i1, fun _ => ?_⟩
          have hbel : F ops S M (add (fun i => listed.getD i false) k) k = F ops S M (fun i => listed.getD i false) k := F_below _ _ k fun i hi => by
            have : (i == k) = false := by simp; omega
            simp [add, this]
          have hadd : F ops S M (fun i => i == k || listed.getD i false) k = F ops S M (fun i => listed.getD i false) k := hbel
          rw [eff_store ho hr hw hid, hm, cont_set R]
          dsimp only
          rw [if_pos rfl]
          show ((F ops S M (add (fun i => listed.getD i false) k) k).1, fun i => if i = id then some (cs', false) else (F ops S M (add (fun i => listed.getD i false) k) k).2 i) = _
          rw [hbel]
        · have hy := Array.getElem?_eq_getElem (show k < ops.size by omega)
          have i2 := i2 (by omega)
          have hkj : (k == j) = false := by simp; omega
          simp only [F, add, hkj, Bool.false_or]
          by_cases hl : listed.getD k false = true
          · rw [if_pos hl, if_pos hl]
            have hun := up_post R U (show k < ops.size by omega) hl
            have i2' : F ops S M (fun i => i == j || listed.getD i false) k = ((F ops S M (fun i => listed.getD i false) k).1, fun i => if i = id then some (cs', false) else (F ops S M (fun i => listed.getD i false) k).2 i) := i2
            rcases rank_le ops[k] with h0 | h0 | h0 | h0
            · rw [eff_idle hy (.inl (by omega)), eff_idle hy (.inl (by omega))]; exact ⟨i1, fun _ => i2⟩
            · rw [eff_idle hy (.inl (by omega)), eff_idle hy (.inl (by omega))]; exact ⟨i1, fun _ => i2⟩
            · exact absurd (act_before R.draw ho hy (by omega) (by omega) (by omega) (by omega)) hun
            · cases hwk : Region.wanted ops[k] (ayields ops (S k)) with
              | false => rw [eff_idle hy (.inr ⟨h0, hwk⟩), eff_idle hy (.inr ⟨h0, hwk⟩)]; exact ⟨i1, fun _ => i2⟩
              | true =>
                obtain ⟨a, b, a1, hne, a3⟩ := other k _ hy e2 h0 hwk (fun _ => hun) (by omega)
                rw [eff_store hy h0 hwk a1, eff_store hy h0 hwk a1]
                refine ⟨by dsimp only; rw [if_neg (Ne.symm hne)]; exact i1, fun _ => ?_⟩
                show ((F ops S M (add (fun i => listed.getD i false) j) k).1, fun i => if i = a then (cont (M (k + 1))).2 a else (F ops S M (add (fun i => listed.getD i false) j) k).2 i) = _
                rw [i2]
                dsimp only
                congr 1
                funext i
                by_cases ea : i = a
                · rw [if_pos ea, if_neg (by rw [ea]; exact hne), if_pos ea]
                · rw [if_neg ea]
                  split <;> first | rfl | rw [if_neg ea]
          · rw [if_neg hl, if_neg hl]
            exact ⟨i1, fun _ => i2⟩
  obtain ⟨d1, d2⟩ := D ops.size (by omega) (Nat.le_refl _)
  exact ⟨d1, d2 hj⟩

/-- A load finds its object's cells as the text's order has them there. -/
theorem up_load {listed : Array Bool} {j : Nat} (U : Up ops listed j) {o : Oper} (ho : ops[j]? = some o) (hr : rank o = 1) (hw : Region.wanted o (ayields ops (S j)) = true) {id : Nat} {cs : List AV}
    (hid : objOf (S j) o = some id) (hg : cc id (cont (M j)) = some cs) : cc id (F ops S M (fun i => listed.getD i false) ops.size) = some cs := by
  have hj := U.lt
  -- an act that is not ordered with the load does not touch the object
  have quiet : ∀ k y, ops[k]? = some y → 2 ≤ rank y → (j < k → ¬ ((Region.before ops).getD k 0).testBit j = true) → (k < j → ¬ ((Region.before ops).getD j 0).testBit k = true) → cc id (cont (M (k + 1))) = cc id (cont (M k)) := by
    intro k y hy h2 hb1 hb2
    cases hwk : Region.wanted y (ayields ops (S k)) with
    | false => rw [mem_idle R k y hy hwk]
    | true => exact kept_cells R k (Array.getElem?_eq_some_iff.1 hy).1 id (met_load R ho hy hr h2 hw hwk hb1 hb2 hid)
  have C : ∀ k, k ≤ j → cc id (F ops S M (fun i => listed.getD i false) k) = cc id (cont (M k)) := by
    intro k
    induction k with
    | zero => intro _; rfl
    | succ k ih =>
      intro hk
      have hy := Array.getElem?_eq_getElem (show k < ops.size by omega)
      have ih := ih (by omega)
      simp only [F]
      rcases Nat.lt_or_ge (rank ops[k]) 2 with h0 | h0
      · rw [eff_idle hy (.inl h0), mem_keep R k _ hy h0]; simpa using ih
      · by_cases hl : listed.getD k false = true
        · rw [if_pos hl]
          rcases rank_le ops[k] with h1 | h1 | h1 | h1
          · omega
          · omega
          · rw [eff_call hy h1]
          · cases hwk : Region.wanted ops[k] (ayields ops (S k)) with
            | false => rw [eff_idle hy (.inr ⟨h1, hwk⟩), mem_idle R k _ hy hwk]; exact ih
            | true =>
              obtain ⟨a, c1, v1, b, a1, a2, a3, _⟩ := store_text R k _ hy h1 hwk
              rw [eff_store hy h1 hwk a1]
              unfold cc at ih ⊢
              dsimp only
              split
              · rename_i e; rw [e]
              · rename_i e; rw [ih, a3, cont_set R]; dsimp only; rw [if_neg e]
        · rw [if_neg hl, ih]
          exact (quiet k _ hy h0 (by omega) fun _ hb => hl (up_pre R U hb)).symm
  have D : ∀ k, j ≤ k → k ≤ ops.size → cc id (F ops S M (fun i => listed.getD i false) k) = some cs := by
    intro k
    induction k with
    | zero =>
      intro h1 _
      have : j = 0 := by omega
      subst this
      rw [C 0 (Nat.le_refl _)]; exact hg
    | succ k ih =>
      intro h1 h2
      by_cases e : j = k + 1
      · subst e; rw [C _ (Nat.le_refl _)]; exact hg
      · have ih := ih (by omega) (by omega)
        simp only [F]
        by_cases hl : listed.getD k false = true
        · rw [if_pos hl]
          have hkj : k ≠ j := fun e => by subst e; rw [U.not] at hl; cases hl
          have hy := Array.getElem?_eq_getElem (show k < ops.size by omega)
          have hun := up_post R U (show k < ops.size by omega) hl
          rcases rank_le ops[k] with h0 | h0 | h0 | h0
          · rw [eff_idle hy (.inl (by omega))]; exact ih
          · rw [eff_idle hy (.inl (by omega))]; exact ih
          · rw [eff_call hy h0]
            have T : ∀ i, j ≤ i → i ≤ k + 1 → cc id (cont (M i)) = some cs := by
              intro i
              induction i with
              | zero => intro h3 _; rw [show (0 : Nat) = j by omega]; exact hg
              | succ i ihi =>
                intro h3 h4
                by_cases e2 : j = i + 1
                · rw [← e2]; exact hg
                · have ihi := ihi (by omega) (by omega)
                  have hi := Array.getElem?_eq_getElem (show i < ops.size by omega)
                  rcases Nat.lt_or_ge (rank ops[i]) 2 with h5 | h5
                  · rw [mem_keep R i _ hi h5]; exact ihi
                  · rw [quiet i _ hi h5 (fun h6 hb => ?_) (by omega)]
                    · exact ihi
                    · by_cases e3 : i = k
                      · subst e3; exact hun hb
                      · have := closed U.dc k _ hy (U.dc k _ hy hl) i (act_before R.draw hi hy (by omega) h5 (by omega) (by omega))
                        exact up_post R U (show i < ops.size by omega) this hb
            exact T (k + 1) (by omega) (Nat.le_refl _)
          · cases hwk : Region.wanted ops[k] (ayields ops (S k)) with
            | false => rw [eff_idle hy (.inr ⟨h0, hwk⟩)]; exact ih
            | true =>
              obtain ⟨a, c1, v1, b, a1, a2, a3, _⟩ := store_text R k _ hy h0 hwk
              have hv := met_load R ho hy hr (by omega) hw hwk (fun _ => hun) (by omega) hid
              have hne := kept_not_store R k _ hy h0 hwk id hv
              rw [eff_store hy h0 hwk a1]
              unfold cc at ih ⊢
              dsimp only
              rw [if_neg (fun e => hne (by rw [a1, e]))]
              exact ih
        · rw [if_neg hl]; exact ih
  exact D ops.size (by omega) (Nat.le_refl _)
end
end Go.V
