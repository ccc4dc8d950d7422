/- What an abstract value and an abstract memory stand for in the machine's world, and how that is kept. -/
import Derived.Test.YtipmoeclkamciaaVDef
import Derived.Laws.CopyRow
set_option linter.unusedSimpArgs false
set_option linter.unusedVariables false
set_option linter.unusedSectionVars false
namespace Go.V
open Go.RowKit

theorem Tr.get_putF {α : Type} : ∀ (f : Nat) (t : Tr α) (n : Nat) (x : Option α) (i : Nat), n < f → (Tr.putF f t n x).get i = if i = n then x else t.get i := by
  intro f
  induction f with
  | zero => intro t n x i h; omega
  | succ f ih =>
    intro t n x i h
    cases t with
    | nil =>
      simp only [Tr.putF]
      by_cases hn : n = 0
      · subst hn
        by_cases hi : i = 0
        · simp [hi, Tr.get]
        · simp only [if_true, Tr.get, hi, if_false]; split <;> rfl
      · simp only [hn, if_false]
        by_cases ho : n % 2 = 1
        · simp only [ho, if_true, Tr.get]
          by_cases hi : i = 0
          · subst hi; simp; omega
          · simp only [hi, if_false]
            by_cases hio : i % 2 = 1
            · simp only [hio, if_true]
              rw [ih _ _ _ _ (by omega)]
              by_cases he : i = n
              · simp [he]
              · rw [if_neg (by omega), if_neg he]; rfl
            · simp only [hio, if_false]
              rw [if_neg (by intro e; subst e; omega)]
        · simp only [ho, if_false, Tr.get]
          by_cases hi : i = 0
          · subst hi; simp; omega
          · simp only [hi, if_false]
            by_cases hio : i % 2 = 1
            · simp only [hio, if_true]
              rw [if_neg (by intro e; subst e; omega)]
            · simp only [hio, if_false]
              rw [ih _ _ _ _ (by omega)]
              by_cases he : i = n
              · simp [he]
              · rw [if_neg (by omega), if_neg he]; rfl
    | nd l v r =>
      simp only [Tr.putF]
      by_cases hn : n = 0
      · subst hn
        by_cases hi : i = 0
        · simp [hi, Tr.get]
        · simp [hi, Tr.get]
      · simp only [hn, if_false]
        by_cases ho : n % 2 = 1
        · simp only [ho, if_true, Tr.get]
          by_cases hi : i = 0
          · subst hi; simp; omega
          · simp only [hi, if_false]
            by_cases hio : i % 2 = 1
            · simp only [hio, if_true]
              rw [ih _ _ _ _ (by omega)]
              by_cases he : i = n
              · simp [he]
              · rw [if_neg (by omega), if_neg he]
            · simp only [hio, if_false]
              rw [if_neg (by intro e; subst e; omega)]
        · simp only [ho, if_false, Tr.get]
          by_cases hi : i = 0
          · subst hi; simp; omega
          · simp only [hi, if_false]
            by_cases hio : i % 2 = 1
            · simp only [hio, if_true]
              rw [if_neg (by intro e; subst e; omega)]
            · simp only [hio, if_false]
              rw [ih _ _ _ _ (by omega)]
              by_cases he : i = n
              · simp [he]
              · rw [if_neg (by omega), if_neg he]

@[simp] theorem Tr.get_put {α : Type} (t : Tr α) (n : Nat) (x : Option α) (i : Nat) : (t.put n x).get i = if i = n then x else t.get i :=
  Tr.get_putF (n + 1) t n x i (Nat.lt_succ_self n)

@[simp] theorem Tr.get_nil {α : Type} (i : Nat) : (Tr.nil : Tr α).get i = none := Eq.trans rfl rfl

@[simp] theorem Mem.get_set (m : Mem) (id : Nat) (cs : List AV) (i : Nat) : (m.set id cs).get i = if i = id then some (.cells cs false (m.clock + 1)) else m.get i := by
  simp [Mem.set, Mem.get]
@[simp] theorem Mem.get_mark (m : Mem) (id : Nat) (cs : List AV) (v : Nat) (i : Nat) : (m.mark id cs v).get i = if i = id then some (.cells cs true v) else m.get i := by
  simp [Mem.mark, Mem.get]
@[simp] theorem Mem.get_new (m : Mem) (cs : List AV) (f : Bool) (i : Nat) : (m.new cs f).get i = if i = m.next then some (.cells cs f (m.clock + 1)) else m.get i := by
  simp [Mem.new, Mem.get]
@[simp] theorem Mem.get_kill (m : Mem) (id : Nat) (i : Nat) : (m.kill id).get i = if i = id then none else m.get i := by
  simp [Mem.kill, Mem.get]
@[simp] theorem Mem.next_set (m : Mem) (id : Nat) (cs : List AV) : (m.set id cs).next = m.next := Eq.trans rfl rfl
@[simp] theorem Mem.next_mark (m : Mem) (id : Nat) (cs : List AV) (v : Nat) : (m.mark id cs v).next = m.next := Eq.trans rfl rfl
@[simp] theorem Mem.next_new (m : Mem) (cs : List AV) (f : Bool) : (m.new cs f).next = m.next + 1 := Eq.trans rfl rfl
@[simp] theorem Mem.next_kill (m : Mem) (id : Nat) : (m.kill id).next = m.next := Eq.trans rfl rfl
@[simp] theorem Mem.get_empty (i : Nat) : Mem.empty.get i = none := Eq.trans rfl rfl

theorem Sl.at_set (s : Sl) (d : Nat) (v : AV) (t : Nat) : (s.set d v).at t = if t = d then v else s.at t := by
  unfold Sl.at Sl.set
  rw [Tr.get_put]
  split <;> rfl

/-- Where the objects lie, and what never changes. -/
structure G where
  n : Nat
  mu : Nat → Nat × Nat
  sz : Nat → Nat
  ln : Nat → Nat
  fz : Nat → Nat → Option Value

structure G.le (g g' : G) : Prop where
  n : g.n ≤ g'.n
  mu : ∀ id, id < g.n → g'.mu id = g.mu id
  sz : ∀ id, id < g.n → g'.sz id = g.sz id
  ln : ∀ id, id < g.n → g'.ln id = g.ln id
  fz : ∀ b o v, g.fz b o = some v → g'.fz b o = some v

theorem G.le.refl (g : G) : g.le g := ⟨Nat.le_refl _, fun _ _ => rfl, fun _ _ => rfl, fun _ _ => rfl, fun _ _ _ h => h⟩
theorem G.le.trans {a b c : G} (h : a.le b) (k : b.le c) : a.le c :=
  ⟨Nat.le_trans h.n k.n, fun id hi => (k.mu id (Nat.lt_of_lt_of_le hi h.n)).trans (h.mu id hi), fun id hi => (k.sz id (Nat.lt_of_lt_of_le hi h.n)).trans (h.sz id hi), fun id hi => (k.ln id (Nat.lt_of_lt_of_le hi h.n)).trans (h.ln id hi), fun b o v hv => k.fz b o v (h.fz b o v hv)⟩

/-- Cells of what never changes. -/
def Fro (g : G) (b o : Nat) (u : Value) : Prop := ∀ (j : Nat) (c : Value), u.cells[j]? = some c → g.fz b (o + j) = some c

theorem Fro.mono {g g' : G} (h : g.le g') {b o : Nat} {u : Value} (k : Fro g b o u) : Fro g' b o u := fun j c hc => h.fz _ _ _ (k j c hc)

mutual
/-- What an abstract value stands for. -/
def Rel (g : G) : AV → Value → Prop
  | .sc x, v => v = x
  | .ptr id off, v => id < g.n ∧ v = .pointer (some ⟨(g.mu id).1, (g.mu id).2 + off, none⟩)
  | .cptr x off, v => ∃ b o u, Rel g x u ∧ Fro g b o u ∧ v = .pointer (some ⟨b, o + off, none⟩)
  | .sl id off len k _ cap, v => id < g.n ∧ ∃ a c, v = .slice (some a) len c ∧ len ≤ c ∧ (c ≠ 0 → a = ⟨(g.mu id).1, (g.mu id).2 + off, none⟩ ∧ (g.mu id).2 + off + c * k ≤ g.sz id) ∧ (∀ c', cap = some c' → c = c') ∧ (cap = none → g.ln id ≤ off + c * k)
  | .emp 0, v => v = .slice none 0 0
  | .emp 1, v => ∃ a, v = .slice a 0 0
  | .emp 2, v => ∃ a c, v = .slice (some a) 0 c
  | .emp _, _ => False
  | .lst xs, v => ∃ a c vs k, v = .slice a xs.length c ∧ Rels g xs vs ∧ (xs.length ≤ c ∧ (a = none → c = 0)) ∧ ∀ i u, vs[i]? = some u → u.cells.size = k ∧ ∃ b o, a = some ⟨b, o, none⟩ ∧ Fro g b (o + i * k) u
  | .fn f fi ca, v => ∃ vf vc : List Value, v = .func f vf.toArray vc.toArray ∧ Rels g fi vf ∧ Rels g ca vc
  | .mp _, _ => False
  | .iface t x, v => ∃ u, v = .iface t u ∧ Rel g x u
  | .agg cs, v => ∃ vs : List Value, v = .agg vs.toArray ∧ Rels g cs vs ∧ ∀ u ∈ vs, u.oneCell' = true
  | .tup cs, v => ∃ vs : List Value, v = .tuple vs.toArray ∧ Rels g cs vs
def Rels (g : G) : List AV → List Value → Prop
  | [], vs => vs = []
  | x :: xs, vs => ∃ v rest, vs = v :: rest ∧ Rel g x v ∧ Rels g xs rest
end

mutual
theorem Rel.mono {g g' : G} (h : g.le g') : ∀ (x : AV) (v : Value), Rel g x v → Rel g' x v
  | .sc x, v, k => k
  | .ptr id off, v, k => by
    simp only [Rel] at k ⊢
    exact ⟨Nat.lt_of_lt_of_le k.1 h.n, by rw [h.mu id k.1]; exact k.2⟩
  | .cptr x off, v, k => by
    simp only [Rel] at k ⊢
    obtain ⟨b, o, u, h1, h2, h3⟩ := k
    exact ⟨b, o, u, Rel.mono h x u h1, h2.mono h, h3⟩
  | .sl id off len k ag cap, v, r => by
    simp only [Rel] at r ⊢
    obtain ⟨h1, a, c, h2, h3, h4, h5, h6⟩ := r
    exact ⟨Nat.lt_of_lt_of_le h1 h.n, a, c, h2, h3, by rw [h.mu id h1, h.sz id h1]; exact h4, h5, by rw [h.ln id h1]; exact h6⟩
  | .emp 0, v, k => k
  | .emp 1, v, k => k
  | .emp 2, v, k => k
  | .emp (n + 3), v, k => k
  | .lst xs, v, k => by
    simp only [Rel] at k ⊢
    obtain ⟨a, c, vs, q, h1, h2, h3, h4⟩ := k
    refine ⟨a, c, vs, q, h1, Rels.mono h xs vs h2, h3, fun i u hu => ?_⟩
    obtain ⟨e, b, o, h5, h6⟩ := h4 i u hu
    exact ⟨e, b, o, h5, h6.mono h⟩
  | .fn f fi ca, v, k => by
    simp only [Rel] at k ⊢
    obtain ⟨vf, vc, h1, h2, h3⟩ := k
    exact ⟨vf, vc, h1, Rels.mono h fi vf h2, Rels.mono h ca vc h3⟩
  | .mp _, _, k => k
  | .iface t x, v, k => by
    simp only [Rel] at k ⊢
    obtain ⟨u, h1, h2⟩ := k
    exact ⟨u, h1, Rel.mono h x u h2⟩
  | .agg cs, v, k => by
    simp only [Rel] at k ⊢
    obtain ⟨vs, h1, h2, h3⟩ := k
    exact ⟨vs, h1, Rels.mono h cs vs h2, h3⟩
  | .tup cs, v, k => by
    simp only [Rel] at k ⊢
    obtain ⟨vs, h1, h2⟩ := k
    exact ⟨vs, h1, Rels.mono h cs vs h2⟩
theorem Rels.mono {g g' : G} (h : g.le g') : ∀ (xs : List AV) (vs : List Value), Rels g xs vs → Rels g' xs vs
  | [], vs, k => k
  | x :: xs, vs, k => by
    simp only [Rels] at k ⊢
    obtain ⟨v, rest, h1, h2, h3⟩ := k
    exact ⟨v, rest, h1, Rel.mono h x v h2, Rels.mono h xs rest h3⟩
end

section
variable {g : G}
theorem Rels.length : ∀ {xs : List AV} {vs : List Value}, Rels g xs vs → vs.length = xs.length
  | [], vs, k => by simp only [Rels] at k; subst k; rfl
  | x :: xs, vs, k => by
    simp only [Rels] at k
    obtain ⟨v, rest, rfl, _, h⟩ := k
    simp [Rels.length h]
theorem Rels.nil : Rels g [] [] := rfl
theorem Rels.cons {x : AV} {v : Value} {xs : List AV} {vs : List Value} (h : Rel g x v) (k : Rels g xs vs) : Rels g (x :: xs) (v :: vs) := ⟨v, vs, rfl, h, k⟩
theorem Rels.one {x : AV} {v : Value} (h : Rel g x v) : Rels g [x] [v] := .cons h .nil
theorem Rels.get : ∀ {xs : List AV} {vs : List Value}, Rels g xs vs → ∀ (i : Nat) (x : AV), xs[i]? = some x → ∃ v, vs[i]? = some v ∧ Rel g x v
  | [], vs, k, i, x, h => by simp at h
  | y :: xs, vs, k, i, x, h => by
    simp only [Rels] at k
    obtain ⟨v, rest, rfl, h1, h2⟩ := k
    cases i with
    | zero => simp at h; subst h; exact ⟨v, rfl, h1⟩
    | succ i => simpa using Rels.get h2 i x (by simpa using h)
theorem Rels.get' {xs : List AV} {vs : List Value} (k : Rels g xs vs) (i : Nat) (v : Value) (h : vs[i]? = some v) : ∃ x, xs[i]? = some x ∧ Rel g x v := by
  have hl := k.length
  have hi : i < xs.length := by
    rcases Nat.lt_or_ge i xs.length with h' | h'
    · exact h'
    · rw [List.getElem?_eq_none (by omega)] at h; cases h
  obtain ⟨u, h1, h2⟩ := k.get i xs[i] (List.getElem?_eq_getElem hi)
  rw [h1] at h
  cases h
  exact ⟨_, List.getElem?_eq_getElem hi, h2⟩
theorem Rels.append : ∀ {xs : List AV} {vs : List Value} {ys : List AV} {us : List Value}, Rels g xs vs → Rels g ys us → Rels g (xs ++ ys) (vs ++ us)
  | [], vs, ys, us, k, h => by simp only [Rels] at k; subst k; simpa using h
  | x :: xs, vs, ys, us, k, h => by
    simp only [Rels] at k
    obtain ⟨v, rest, rfl, h1, h2⟩ := k
    exact .cons h1 (Rels.append h2 h)
theorem Rels.take : ∀ {xs : List AV} {vs : List Value} (n : Nat), Rels g xs vs → Rels g (xs.take n) (vs.take n)
  | _, _, 0, _ => by simp [Rels]
  | [], vs, n + 1, k => by simp only [Rels] at k; subst k; simp [Rels]
  | x :: xs, vs, n + 1, k => by
    simp only [Rels] at k
    obtain ⟨v, rest, rfl, h1, h2⟩ := k
    exact .cons h1 (Rels.take n h2)
theorem Rels.drop : ∀ {xs : List AV} {vs : List Value} (n : Nat), Rels g xs vs → Rels g (xs.drop n) (vs.drop n)
  | _, _, 0, k => by simpa using k
  | [], vs, n + 1, k => by simp only [Rels] at k; subst k; simp [Rels]
  | x :: xs, vs, n + 1, k => by
    simp only [Rels] at k
    obtain ⟨v, rest, rfl, h1, h2⟩ := k
    simpa using Rels.drop n h2
theorem Rels.splice {cs : List AV} {us : List Value} {vs : List AV} {ws : List Value} (off : Nat) (h : Rels g cs us) (k : Rels g vs ws) :
    Rels g (splice cs off vs) (us.take off ++ ws ++ us.drop (off + ws.length)) := by
  unfold Go.V.splice
  rw [k.length]
  exact ((h.take off).append k).append (h.drop _)
theorem Rels.split : ∀ {xs ys : List AV} {vs : List Value}, Rels g (xs ++ ys) vs → ∃ a b, vs = a ++ b ∧ Rels g xs a ∧ Rels g ys b
  | [], ys, vs, k => ⟨[], vs, rfl, .nil, k⟩
  | x :: xs, ys, vs, k => by
    simp only [List.cons_append, Rels] at k
    obtain ⟨v, rest, rfl, h1, h2⟩ := k
    obtain ⟨a, b, rfl, h3, h4⟩ := Rels.split h2
    exact ⟨v :: a, b, rfl, .cons h1 h3, h4⟩
theorem Rels.map_sc : ∀ (vs : List Value), Rels g (vs.map .sc) vs
  | [] => .nil
  | _ :: vs => .cons rfl (Rels.map_sc vs)
theorem Rels.replicate {x : AV} {v : Value} (h : Rel g x v) : ∀ n, Rels g (List.replicate n x) (List.replicate n v)
  | 0 => .nil
  | n + 1 => .cons h (Rels.replicate h n)

/-- The cells of a value. -/
theorem Rel.cells {x : AV} {v : Value} (h : Rel g x v) : Rels g x.cells v.cells.toList := by
  have one : ∀ {x : AV}, (∀ cs, v ≠ .agg cs) → Rel g x v → Rels g [x] v.cells.toList := by
    intro x hv h
    have : v.cells = #[v] := by cases v <;> first | rfl | (exact (hv _ rfl).elim)
    rw [this]
    exact .one h
  cases x with
  | agg cs => simp only [Rel] at h; obtain ⟨vs, rfl, h, _⟩ := h; simpa [AV.cells, Value.cells] using h
  | sc u =>
    simp only [Rel] at h
    subst h
    cases v with
    | agg cs => simp only [AV.cells, Value.cells]; exact Rels.map_sc cs.toList
    | _ => exact .one rfl
  | ptr id off => exact one (by simp only [Rel] at h; obtain ⟨_, rfl⟩ := h; simp) h
  | cptr x off => exact one (by simp only [Rel] at h; obtain ⟨_, _, _, _, _, rfl⟩ := h; simp) h
  | sl id off len k ag cap => exact one (by simp only [Rel] at h; obtain ⟨_, _, _, rfl, _⟩ := h; simp) h
  | emp n =>
    match n, h with
    | 0, h => exact one (by simp only [Rel] at h; subst h; simp) h
    | 1, h => exact one (by simp only [Rel] at h; obtain ⟨_, rfl⟩ := h; simp) h
    | 2, h => exact one (by simp only [Rel] at h; obtain ⟨_, _, rfl⟩ := h; simp) h
    | n + 3, h => exact h.elim
  | lst xs => exact one (by simp only [Rel] at h; obtain ⟨_, _, _, _, rfl, _⟩ := h; simp) h
  | fn f a b => exact one (by simp only [Rel] at h; obtain ⟨_, _, rfl, _⟩ := h; simp) h
  | mp id => exact h.elim
  | iface t x => exact one (by simp only [Rel] at h; obtain ⟨_, rfl, _⟩ := h; simp) h
  | tup vs => exact one (by simp only [Rel] at h; obtain ⟨_, rfl, _⟩ := h; simp) h

/-- The cells of a value that may be stored are no rows. -/
theorem Rel.one {x : AV} {v : Value} (h : Rel g x v) (ho : x.okc = true) : ∀ u ∈ v.cells.toList, u.oneCell' = true := by
  cases x with
  | agg cs => simp only [Rel] at h; obtain ⟨vs, rfl, _, h⟩ := h; simpa [Value.cells] using h
  | sc u =>
    simp only [Rel] at h
    subst h
    cases v <;> first | (simp [AV.okc] at ho; done) | simp [Value.cells, Value.oneCell']
  | ptr id off => simp only [Rel] at h; obtain ⟨_, rfl⟩ := h; simp [Value.cells, Value.oneCell']
  | cptr x off => simp only [Rel] at h; obtain ⟨_, _, _, _, _, rfl⟩ := h; simp [Value.cells, Value.oneCell']
  | sl id off len k ag cap => simp only [Rel] at h; obtain ⟨_, _, _, rfl, _⟩ := h; simp [Value.cells, Value.oneCell']
  | emp n =>
    match n, h with
    | 0, h => simp only [Rel] at h; subst h; simp [Value.cells, Value.oneCell']
    | 1, h => simp only [Rel] at h; obtain ⟨_, rfl⟩ := h; simp [Value.cells, Value.oneCell']
    | 2, h => simp only [Rel] at h; obtain ⟨_, _, rfl⟩ := h; simp [Value.cells, Value.oneCell']
    | n + 3, h => exact h.elim
  | lst xs => simp only [Rel] at h; obtain ⟨_, _, _, _, rfl, _⟩ := h; simp [Value.cells, Value.oneCell']
  | fn f a b => simp only [Rel] at h; obtain ⟨_, _, rfl, _⟩ := h; simp [Value.cells, Value.oneCell']
  | mp id => exact h.elim
  | iface t x => simp only [Rel] at h; obtain ⟨_, rfl, _⟩ := h; simp [Value.cells, Value.oneCell']
  | tup vs => simp [AV.okc] at ho

theorem rel_bool {x : AV} {b : Bool} (h : Rel g x (.bool b)) : x = .sc (.bool b) := by
  cases x with
  | sc v => simp only [Rel] at h; subst h; rfl
  | emp n =>
    match n, h with
    | 0, h => simp [Rel] at h
    | 1, h => simp [Rel] at h
    | 2, h => simp [Rel] at h
    | n + 3, h => exact h.elim
  | _ => simp [Rel] at h
theorem rel_leaf (v : Value) : Rel g (leaf v) v := by
  cases v with
  | slice a l c =>
    simp only [leaf]
    split
    · rename_i h
      simp only [Bool.and_eq_true, Option.isNone_iff_eq_none, beq_iff_eq] at h
      obtain ⟨⟨rfl, rfl⟩, rfl⟩ := h
      rfl
    · rfl
  | _ => rfl
theorem rels_leaf : ∀ l : List Value, Rels g (l.map leaf) l
  | [] => .nil
  | a :: l => .cons (rel_leaf a) (rels_leaf l)
theorem rel_ofConst (v : Value) : Rel g (ofConst v) v := by
  cases v with
  | agg cs =>
    simp only [ofConst]
    split
    · rename_i h
      exact ⟨cs.toList, by simp, rels_leaf _, fun u hu => by simpa using List.all_eq_true.1 h u hu⟩
    · rfl
  | func f a b =>
    simp only [ofConst]
    split
    · rename_i h
      simp only [Bool.and_eq_true, beq_iff_eq, Array.size_eq_zero_iff] at h
      obtain ⟨rfl, rfl⟩ := h
      exact ⟨[], [], rfl, .nil, .nil⟩
    · rfl
  | _ => simp only [ofConst]; exact rel_leaf _
end

/-- An object's cells, in the world. -/
def ObjR (B : Nat) (g : G) (id : Nat) (cs : List AV) (f : Bool) (w : World) : Prop :=
  (B ≤ (g.mu id).1 ∧ cs.length = g.ln id) ∧ (∃ pre vs post el, w.heap[(g.mu id).1]? = some (.cells (pre ++ vs ++ post).toArray el (0, 0)) ∧ pre.length = (g.mu id).2 ∧ Rels g cs vs ∧ (pre ++ vs ++ post).length = g.sz id ∧ ∀ u ∈ vs, u.oneCell' = true) ∧
  ∀ o v, g.fz (g.mu id).1 o = some v → f = true ∧ o < (g.mu id).2 + cs.length

structure WR (B : Nat) (W : World) (g : G) (m : Mem) (w : World) : Prop where
  below : Below B W w
  base : B ≤ w.heap.size
  n : m.next = g.n
  ids : ∀ id o, m.get id = some o → id < g.n
  objs : ∀ id cs f ver, m.get id = some (.cells cs f ver) → ObjR B g id cs f w
  inj : ∀ i j, (m.get i).isSome = true → (m.get j).isSome = true → (g.mu i).1 = (g.mu j).1 → i = j
  fz : ∀ b o v, g.fz b o = some v → w.cell? ⟨b, o, none⟩ = some v

variable {B : Nat} {W : World} {g : G} {m : Mem} {w : World}

theorem ObjR.mono {g' : G} (h : g.le g') {id : Nat} (hi : id < g.n) {cs : List AV} {f : Bool} (k : ObjR B g id cs f w) (hf : ∀ o v, g'.fz (g.mu id).1 o = some v → g.fz (g.mu id).1 o = some v) : ObjR B g' id cs f w := by
  obtain ⟨h1, ⟨pre, vs, post, el, h2, h3, h4, h5, h7⟩, h6⟩ := k
  unfold ObjR
  rw [h.mu id hi, h.sz id hi, h.ln id hi]
  exact ⟨h1, ⟨pre, vs, post, el, h2, h3, h4.mono h, h5, h7⟩, fun o v hv => h6 o v (hf o v hv)⟩

theorem ObjR.world {w' : World} {id : Nat} {cs : List AV} {f : Bool} (k : ObjR B g id cs f w) (h : w'.heap[(g.mu id).1]? = w.heap[(g.mu id).1]?) : ObjR B g id cs f w' := by
  obtain ⟨h1, ⟨pre, vs, post, el, h2, h3⟩, h6⟩ := k
  exact ⟨h1, ⟨pre, vs, post, el, h.trans h2, h3⟩, h6⟩

theorem WR.block_lt (h : WR B W g m w) {id : Nat} {cs : List AV} {f : Bool} {ver : Nat} (k : m.get id = some (.cells cs f ver)) : (g.mu id).1 < w.heap.size := by
  obtain ⟨_, ⟨pre, vs, post, el, h2, _⟩, _⟩ := h.objs id cs f ver k
  exact (Array.getElem?_eq_some_iff.1 h2).1

theorem cell_lt {a : Addr} {v : Value} (h : w.cell? a = some v) : a.block < w.heap.size := by
  unfold World.cell? at h
  split at h
  · rename_i hb; exact (Array.getElem?_eq_some_iff.1 hb).1
  · cases h

/-- A draw changes nothing. -/
theorem WR.drew (h : WR B W g m w) : WR B W g m w.drew :=
  ⟨h.below.drew, h.base, h.n, h.ids, h.objs, h.inj, h.fz⟩

/-- A cell of an object. -/
theorem WR.cell (h : WR B W g m w) {id : Nat} {cs : List AV} {f : Bool} {ver : Nat} (k : m.get id = some (.cells cs f ver)) (j : Nat) (x : AV) (hx : cs[j]? = some x) :
    ∃ v, w.cell? ⟨(g.mu id).1, (g.mu id).2 + j, none⟩ = some v ∧ Rel g x v := by
  obtain ⟨_, ⟨pre, vs, post, el, h2, h3, h4, _⟩, _⟩ := h.objs id cs f ver k
  obtain ⟨v, h5, h6⟩ := h4.get j x hx
  refine ⟨v, ?_, h6⟩
  unfold World.cell?
  simp only [h2]
  simp only [Option.isSome_none, Bool.false_eq_true, if_false, List.getElem?_toArray, ← h3]
  have hj : j < vs.length := by
    rcases Nat.lt_or_ge j vs.length with h' | h'
    · exact h'
    · rw [List.getElem?_eq_none h'] at h5; cases h5
  rw [List.append_assoc, List.getElem?_append_right (by omega), Nat.add_sub_cancel_left, List.getElem?_append_left hj, h5]

/-- All cells from one on. -/
theorem WR.cells (h : WR B W g m w) {id : Nat} {cs : List AV} {f : Bool} {ver : Nat} (k : m.get id = some (.cells cs f ver)) :
    ∃ vs, Rels g cs vs ∧ (∀ u ∈ vs, u.oneCell' = true) ∧ ∀ j v, vs[j]? = some v → w.cell? ⟨(g.mu id).1, (g.mu id).2 + j, none⟩ = some v := by
  obtain ⟨_, ⟨pre, vs, post, el, h2, h3, h4, _, h5⟩, _⟩ := h.objs id cs f ver k
  refine ⟨vs, h4, h5, fun j v hv => ?_⟩
  unfold World.cell?
  simp only [h2]
  simp only [Option.isSome_none, Bool.false_eq_true, if_false, List.getElem?_toArray, ← h3]
  have hj : j < vs.length := by
    rcases Nat.lt_or_ge j vs.length with h' | h'
    · exact h'
    · rw [List.getElem?_eq_none h'] at hv; cases hv
  rw [List.append_assoc, List.getElem?_append_right (by omega), Nat.add_sub_cancel_left, List.getElem?_append_left hj, hv]

/-- The ghost behind a new object. -/
def G.new (g : G) (b o s l : Nat) : G := { g with n := g.n + 1, mu := fun i => if i = g.n then (b, o) else g.mu i, sz := fun i => if i = g.n then s else g.sz i, ln := fun i => if i = g.n then l else g.ln i }
theorem G.le_new (g : G) (b o s l : Nat) : g.le (g.new b o s l) :=
  ⟨Nat.le_succ _, fun id hi => by simp [G.new, Nat.ne_of_lt hi], fun id hi => by simp [G.new, Nat.ne_of_lt hi], fun id hi => by simp [G.new, Nat.ne_of_lt hi], fun _ _ _ h => h⟩

/-- A new block becomes an object. -/
theorem WR.new (h : WR B W g m w) {cs : List AV} {vs post : List Value} (k : Rels g cs vs) (ho : ∀ u ∈ vs, u.oneCell' = true) (f : Bool) (el : TypeId) :
    WR B W (g.new w.heap.size 0 (vs ++ post).length cs.length) (m.new cs f) (w.alloc (.cells (vs ++ post).toArray el)) := by
  have hle := G.le_new g w.heap.size 0 (vs ++ post).length cs.length
  have hmu : (g.new w.heap.size 0 (vs ++ post).length cs.length).mu g.n = (w.heap.size, 0) := by simp [G.new]
  have hold : ∀ id, id < g.n → (g.new w.heap.size 0 (vs ++ post).length cs.length).mu id = g.mu id := hle.mu
  have hfz : ∀ b o v, g.fz b o = some v → b < w.heap.size := fun b o v hv => cell_lt (h.fz b o v hv)
  refine ⟨h.below.alloc h.base _, by simp; exact Nat.le_succ_of_le h.base, by simp [G.new, h.n], ?_, ?_, ?_, ?_⟩
  · intro id o hid
    rw [Mem.get_new, h.n] at hid
    show id < g.n + 1
    split at hid
    · omega
    · have := h.ids id o hid; omega
  · intro id cs' f' ver hid
    rw [Mem.get_new, h.n] at hid
    split at hid
    · rename_i e
      subst e
      simp only [Option.some.injEq, AObj.cells.injEq] at hid
      obtain ⟨rfl, rfl, _⟩ := hid
      refine ⟨⟨by rw [hmu]; exact h.base, by simp [G.new]⟩, ⟨[], vs, post, el, ?_, by rw [hmu]; rfl, k.mono hle, by simp [G.new], ho⟩, ?_⟩
      · rw [hmu]; show (w.heap.push _)[w.heap.size]? = _; simp
      · intro o v hv
        rw [hmu] at hv
        exact absurd (hfz _ _ _ hv) (by simp)
    · have hlt := h.ids id _ hid
      have hb := h.block_lt hid
      refine ObjR.world (w := w) (ObjR.mono hle hlt (h.objs id cs' f' ver hid) (fun _ _ hv => hv)) ?_
      rw [hold id hlt]
      show (w.heap.push _)[_]? = _
      rw [Array.getElem?_push, if_neg (by omega)]
  · intro i j hi hj he
    rw [Mem.get_new, h.n] at hi hj
    by_cases ei : i = g.n <;> by_cases ej : j = g.n
    · rw [ei, ej]
    · simp only [ej, if_false] at hj
      obtain ⟨o, ho⟩ := Option.isSome_iff_exists.1 hj
      rw [ei, hmu, hold j (h.ids j o ho)] at he
      cases o with
      | cells c f v => have := h.block_lt ho; simp at he; omega
    · simp only [ei, if_false] at hi
      obtain ⟨o, ho⟩ := Option.isSome_iff_exists.1 hi
      rw [ej, hmu, hold i (h.ids i o ho)] at he
      cases o with
      | cells c f v => have := h.block_lt ho; simp at he; omega
    · simp only [ei, ej, if_false] at hi hj
      obtain ⟨o, ho⟩ := Option.isSome_iff_exists.1 hi
      obtain ⟨o', ho'⟩ := Option.isSome_iff_exists.1 hj
      rw [hold i (h.ids i o ho), hold j (h.ids j o' ho')] at he
      exact h.inj i j hi hj he
  · intro b o v hv
    rw [World.cell?_alloc_lt _ _ _ (hfz b o v hv)]
    exact h.fz b o v hv

theorem rel_new_ptr (g : G) (b o s l off : Nat) : Rel (g.new b o s l) (.ptr g.n off) (.pointer (some ⟨b, o + off, none⟩)) := by
  simp [Rel, G.new]

/-- A store into an object. -/
theorem WR.set (h : WR B W g m w) {id : Nat} {cs : List AV} {ver : Nat} (k : m.get id = some (.cells cs false ver)) (off : Nat) {xs : List AV} {us : List Value} (hx : Rels g xs us) (hl : off + xs.length ≤ cs.length)
    (h1 : ∀ u ∈ us, u.oneCell' = true) (P : Program) :
    ∃ w', (storeCells ⟨(g.mu id).1, (g.mu id).2 + off, none⟩ us).run P w = .ok () w' ∧ WR B W g (m.set id (splice cs off xs)) w' := by
  obtain ⟨hb, ⟨pre, vs, post, el, h2, h3, h4, h5, h7⟩, h6⟩ := h.objs id cs false ver k
  have hlen := h4.length
  have hus := hx.length
  have hst := run_storeCells_at P (g.mu id).1 ((g.mu id).2 + off) el us 0 (pre ++ vs ++ post).toArray w h2 (by simp; omega) h1
  refine ⟨_, hst, ?_⟩
  have hrow : ((pre ++ vs ++ post).take ((g.mu id).2 + off + 0) ++ us ++ (pre ++ vs ++ post).drop ((g.mu id).2 + off + 0 + us.length)) = pre ++ (vs.take off ++ us ++ vs.drop (off + us.length)) ++ post := by
    rw [← h3]
    have e1 : (pre ++ vs ++ post).take (pre.length + off + 0) = pre ++ vs.take off := by
      have e3 : pre.take (pre.length + off) = pre := List.take_of_length_le (by omega)
      have e4 : (vs ++ post).take off = vs.take off := List.take_append_of_le_length (by omega)
      rw [Nat.add_zero, List.append_assoc, List.take_append, e3, Nat.add_sub_cancel_left, e4]
    have e2 : (pre ++ vs ++ post).drop (pre.length + off + 0 + us.length) = vs.drop (off + us.length) ++ post := by
      have e : pre.length + off + 0 + us.length = pre.length + (off + us.length) := by omega
      rw [e, List.append_assoc, List.drop_append, List.drop_eq_nil_of_le (by omega), Nat.add_sub_cancel_left, List.nil_append, List.drop_append_of_le_length (by omega)]
    rw [e1, e2]
    simp [List.append_assoc]
  have hw : ∀ b, b ≠ (g.mu id).1 → (w.setRow (g.mu id).1 ((pre ++ vs ++ post).toArray.toList.take ((g.mu id).2 + off + 0) ++ us ++ (pre ++ vs ++ post).toArray.toList.drop ((g.mu id).2 + off + 0 + us.length)).toArray).heap[b]? = w.heap[b]? := by
    intro b hb'
    simp only [World.setRow, Array.getElem?_modify]
    rw [if_neg (by omega)]
  have hw2 := setRow_heap w (g.mu id).1 (pre ++ vs ++ post).toArray ((pre ++ vs ++ post).toArray.toList.take ((g.mu id).2 + off + 0) ++ us ++ (pre ++ vs ++ post).toArray.toList.drop ((g.mu id).2 + off + 0 + us.length)).toArray el (0, 0) h2
  generalize hW : w.setRow (g.mu id).1 _ = w' at *
  have hsize : w'.heap.size = w.heap.size := by rw [← hW]; simp [World.setRow]
  simp only [List.toList_toArray] at hw2
  rw [hrow] at hw2
  refine ⟨h.below.trans ⟨?_, ?_, ?_, by omega, fun b hb' => hw b (by omega)⟩, by rw [hsize]; exact h.base, h.n, ?_, ?_, ?_, ?_⟩
  · rw [← hW]; rfl
  · rw [← hW]; rfl
  · rw [← hW]; rfl
  · intro i o hi
    rw [Mem.get_set] at hi
    split at hi
    · rename_i e; rw [e]; exact h.ids id _ k
    · exact h.ids i o hi
  · intro i cs' f' ver' hi
    rw [Mem.get_set] at hi
    split at hi
    · rename_i e
      subst e
      simp only [Option.some.injEq, AObj.cells.injEq] at hi
      obtain ⟨rfl, rfl, _⟩ := hi
      refine ⟨⟨hb.1, by rw [← hb.2]; simp [splice]; omega⟩, ⟨pre, _, post, el, hw2, h3, h4.splice off hx, ?_, ?_⟩, fun o v hv => ?_⟩
      · rw [← h5]; simp; omega
      · intro u hu
        simp only [List.mem_append] at hu
        rcases hu with (hu | hu) | hu
        · exact h7 u (List.mem_of_mem_take hu)
        · exact h1 u hu
        · exact h7 u (List.mem_of_mem_drop hu)
      · have := h6 o v hv; simp at this
    · rename_i e
      refine (h.objs i cs' f' ver' hi).world (hw _ fun e' => e (h.inj i id (by rw [hi]; rfl) (by rw [k]; rfl) e'))
  · intro i j hi hj he
    refine h.inj i j ?_ ?_ he
    · rw [Mem.get_set] at hi; split at hi
      · rename_i e; rw [e, k]; rfl
      · exact hi
    · rw [Mem.get_set] at hj; split at hj
      · rename_i e; rw [e, k]; rfl
      · exact hj
  · intro b o v hv
    have hne : b ≠ (g.mu id).1 := fun e => by subst e; have := h6 o v hv; simp at this
    have hc := h.fz b o v hv
    unfold World.cell? at hc ⊢
    simp only at hc ⊢
    rw [hw b hne]
    exact hc

/-- What is frozen, besides: a row of cells. -/
def G.freeze (g : G) (b o : Nat) (vs : List Value) : G := { g with fz := fun b' o' => if b' = b ∧ o ≤ o' ∧ o' < o + vs.length then vs[o' - o]? else g.fz b' o' }

/-- An object's cells are never written again. -/
theorem WR.mark (h : WR B W g m w) {id : Nat} {cs : List AV} {f : Bool} {ver : Nat} (k : m.get id = some (.cells cs f ver)) :
    ∃ vs, Rels g cs vs ∧ (∀ u ∈ vs, u.oneCell' = true) ∧ g.le (g.freeze (g.mu id).1 (g.mu id).2 vs) ∧ WR B W (g.freeze (g.mu id).1 (g.mu id).2 vs) (m.mark id cs ver) w := by
  obtain ⟨vs, h1, h2, h3⟩ := h.cells k
  have hlen := h1.length
  have hle : g.le (g.freeze (g.mu id).1 (g.mu id).2 vs) := by
    refine ⟨Nat.le_refl _, fun _ _ => rfl, fun _ _ => rfl, fun _ _ => rfl, fun b o v hv => ?_⟩
    simp only [G.freeze]
    split
    · rename_i hc
      obtain ⟨rfl, hc1, hc2⟩ := hc
      have hj : o - (g.mu id).2 < vs.length := by omega
      have hcell := h3 (o - (g.mu id).2) vs[o - (g.mu id).2] (List.getElem?_eq_getElem hj)
      have he : (g.mu id).2 + (o - (g.mu id).2) = o := by omega
      rw [he, h.fz _ _ _ hv] at hcell
      rw [List.getElem?_eq_getElem hj, hcell]
    · exact hv
  refine ⟨vs, h1, h2, hle, h.below, h.base, h.n, ?_, ?_, ?_, ?_⟩
  · intro i o hi
    rw [Mem.get_mark] at hi
    split at hi
    · rename_i e; rw [e]; exact h.ids id _ k
    · exact h.ids i o hi
  · intro i cs' f' ver' hi
    rw [Mem.get_mark] at hi
    split at hi
    · rename_i e
      subst e
      simp only [Option.some.injEq, AObj.cells.injEq] at hi
      obtain ⟨rfl, rfl, _⟩ := hi
      obtain ⟨hb, ⟨pre, us, post, el, g2, g3, g4, g5, g7⟩, g6⟩ := h.objs i cs f ver k
      refine ⟨hb, ⟨pre, us, post, el, g2, g3, g4.mono hle, g5, g7⟩, fun o v hv => ?_⟩
      simp only [G.freeze] at hv
      split at hv
      · rename_i hc
        exact ⟨rfl, by simp only [G.freeze]; omega⟩
      · exact ⟨rfl, (g6 o v hv).2⟩
    · rename_i e
      refine ObjR.mono hle (h.ids i _ hi) (h.objs i cs' f' ver' hi) fun o v hv => ?_
      simp only [G.freeze] at hv
      split at hv
      · rename_i hc
        exact absurd (h.inj i id (by rw [hi]; rfl) (by rw [k]; rfl) hc.1) e
      · exact hv
  · intro i j hi hj he
    refine h.inj i j ?_ ?_ he
    · rw [Mem.get_mark] at hi; split at hi
      · rename_i e; rw [e, k]; rfl
      · exact hi
    · rw [Mem.get_mark] at hj; split at hj
      · rename_i e; rw [e, k]; rfl
      · exact hj
  · intro b o v hv
    simp only [G.freeze] at hv
    split at hv
    · rename_i hc
      obtain ⟨rfl, hc1, hc2⟩ := hc
      have := h3 _ _ hv
      rwa [show (g.mu id).2 + (o - (g.mu id).2) = o by omega] at this
    · exact h.fz b o v hv

/-- An object is forgotten. -/
theorem WR.kill (h : WR B W g m w) (id : Nat) : WR B W g (m.kill id) w := by
  refine ⟨h.below, h.base, h.n, ?_, ?_, ?_, h.fz⟩
  · intro i o hi; rw [Mem.get_kill] at hi; split at hi
    · cases hi
    · exact h.ids i o hi
  · intro i cs f ver hi; rw [Mem.get_kill] at hi; split at hi
    · cases hi
    · exact h.objs i cs f ver hi
  · intro i j hi hj he
    rw [Mem.get_kill] at hi hj
    refine h.inj i j ?_ ?_ he
    · split at hi
      · cases hi
      · exact hi
    · split at hj
      · cases hj
      · exact hj
end Go.V
