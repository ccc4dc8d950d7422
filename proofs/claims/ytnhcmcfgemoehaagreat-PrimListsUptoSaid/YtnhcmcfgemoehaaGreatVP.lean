import Derived.Test.YtnhcmcfgemoehaaGreatVB
/- What makes one thing, of what it is handed alone: it may come up ahead of its time, its block pinned; it is taken in later. -/
set_option linter.unusedSimpArgs false
set_option linter.unusedVariables false
set_option linter.unusedSectionVars false
namespace Go.V
open Go.RowKit
variable {P : Program} {B : Bs} {W : World} {g : G} {m : Mem} {w : World}

/-- Other blocks are pinned. -/
def G.pins (g : G) (p : Nat → Option Obj) : G := { g with pn := p }
theorem G.lee_pins (g : G) (p : Nat → Option Obj) : g.lee (g.pins p) := ⟨Nat.le_refl _, fun _ _ => rfl, fun _ _ => rfl, fun _ _ => rfl, fun _ _ _ h => h⟩

theorem WR.repin (h : WR B W g m w) (p : Nat → Option Obj) (hp : ∀ b o, p b = some o → PinOk B g m w b o) : WR B W (g.pins p) m w := by
  have e := G.lee_pins g p
  refine ⟨h.below, h.base, h.n, h.ids, fun i cs f ver hi => ?_, h.inj, h.fz, ?_⟩
  · obtain ⟨a1, ⟨pre, vs, post, el, a2, a3, a4, a5⟩, a6⟩ := h.objs i cs f ver hi
    exact ⟨a1, ⟨pre, vs, post, el, a2, a3, a4.monoE e, a5⟩, a6⟩
  · refine ⟨fun i L hi => ?_, h.x.linj, fun i M hi => ?_, h.x.minj, h.x.df, h.x.lb, fun b o hb => have q := hp b o hb; ⟨q.base, q.here, q.kind, q.fz, q.obj, q.map⟩⟩
    · obtain ⟨a, b, fn, tmps, df, c, d, k⟩ := h.x.lids i L hi
      exact ⟨a, b, fn, tmps, df, c, d, fun t => (k t).monoE e _ _⟩
    · obtain ⟨a, b, es, c, d⟩ := h.x.mids i M hi
      exact ⟨a, b, es, c, d.monoE e⟩

theorem WR.pinned_lt (h : WR B W g m w) {b : Nat} {o : Obj} (k : g.pn b = some o) : b < w.heap.size := (Array.getElem?_eq_some_iff.1 (h.x.pn b o k).here).1
theorem WR.pin_fresh (h : WR B W g m w) : g.pn w.heap.size = none := by
  cases hp : g.pn w.heap.size with
  | none => rfl
  | some o => exact absurd (h.pinned_lt hp) (Nat.lt_irrefl _)

/-- A new block that nobody has yet. -/
theorem WR.pin (h : WR B W g m w) (o : Obj) (hk : o.isCells = true ∨ ∃ es c, o = .map es c) : WR B W (g.pins fun b => if b = w.heap.size then some o else g.pn b) m (w.alloc o) := by
  have hb : Below w.heap.size w (w.alloc o) := (Below.refl w.heap.size w).alloc (Nat.le_refl _) o
  refine (h.later hb).repin _ fun b o' hp => ?_
  split at hp
  · rename_i e
    subst e
    cases hp
    refine ⟨h.base, World.alloc_heap_new _ _, hk, fun q => ?_, fun id hi => ?_, fun id hi => ?_⟩
    · cases hf : g.fz w.heap.size q with
      | none => rfl
      | some v => exact absurd (cell_lt (h.fz _ _ _ hf).1) (Nat.lt_irrefl _)
    · obtain ⟨⟨cs, f, v⟩, ho⟩ := Option.isSome_iff_exists.1 hi
      exact Nat.ne_of_lt (h.block_lt ho)
    · obtain ⟨M, hM⟩ := Option.isSome_iff_exists.1 hi
      obtain ⟨_, _, es, h2, _⟩ := h.x.mids id M hM
      exact Nat.ne_of_lt (Array.getElem?_eq_some_iff.1 h2).1
  · exact (h.later hb).x.pn b o' hp

/-- A block that nobody has becomes an object. -/
theorem WR.take (h : WR B W g m w) {b : Nat} {cs : List AV} {vs : List Value} {el : TypeId} (hb : B ≤ b) (hh : w.heap[b]? = some (.cells vs.toArray el (0, 0))) (hf : ∀ q, g.fz b q = none)
    (ho : ∀ id, (m.get id).isSome = true → (g.mu id).1 ≠ b) (hpn : g.pn b = none) (k : Rels g cs vs) (h1 : ∀ u ∈ vs, u.oneCell' = true) : WR B W (g.new b 0 vs.length cs.length) (m.new cs false) w := by
  have hle := G.le_new g b 0 vs.length cs.length
  have hmu : (g.new b 0 vs.length cs.length).mu g.n = (b, 0) := by simp [G.new]
  have hold : ∀ id, id < g.n → (g.new b 0 vs.length cs.length).mu id = g.mu id := hle.mu
  refine ⟨h.below, h.base, by simp [G.new, h.n], ?_, ?_, ?_, h.fz, h.x.step hle rfl rfl rfl rfl (fun _ _ k _ => k) rfl fun b' o hp p => ⟨p.here, p.fz, fun id hi => ?_⟩⟩
  · intro id o hid
    rw [Mem.get_new, h.n] at hid
    show id < g.n + 1
    split at hid
    · omega
    · have := h.ids id o hid; omega
  · intro id cs' f' ver hid
    rw [Mem.get_new, h.n] at hid
    split at hid
    · rename_i e
      subst e
      simp only [Option.some.injEq, AObj.cells.injEq] at hid
      obtain ⟨rfl, rfl, _⟩ := hid
      refine ⟨⟨by rw [hmu]; exact hb, by simp [G.new]⟩, ⟨[], vs, [], el, by rw [hmu]; simpa using hh, by rw [hmu]; rfl, k.mono hle, by simp [G.new], h1⟩, fun o v hv => ?_⟩
      rw [hmu] at hv
      have : g.fz b o = some v := hv
      rw [hf] at this; cases this
    · exact ObjR.mono hle (h.ids id _ hid) (h.objs id cs' f' ver hid) (fun _ _ hv => hv)
  · intro i j hi hj he
    rw [Mem.get_new, h.n] at hi hj
    by_cases ei : i = g.n <;> by_cases ej : j = g.n
    · rw [ei, ej]
    · simp only [ej, if_false] at hj
      obtain ⟨o, ho'⟩ := Option.isSome_iff_exists.1 hj
      rw [ei, hmu, hold j (h.ids j o ho')] at he
      exact absurd he.symm (ho j hj)
    · simp only [ei, if_false] at hi
      obtain ⟨o, ho'⟩ := Option.isSome_iff_exists.1 hi
      rw [ej, hmu, hold i (h.ids i o ho')] at he
      exact absurd he (ho i hi)
    · simp only [ei, ej, if_false] at hi hj
      obtain ⟨o, ho1⟩ := Option.isSome_iff_exists.1 hi
      obtain ⟨o', ho2⟩ := Option.isSome_iff_exists.1 hj
      rw [hold i (h.ids i o ho1), hold j (h.ids j o' ho2)] at he
      exact h.inj i j hi hj he
  · rw [Mem.get_new, h.n] at hi
    split at hi
    · rename_i e
      rw [e, hmu]
      intro e'
      rw [show b' = b from e'.symm] at hp
      rw [hpn] at hp; cases hp
    · obtain ⟨o', ho'⟩ := Option.isSome_iff_exists.1 hi
      rw [hold id (h.ids id o' ho')]
      exact p.obj id hi

/-- A block that nobody has becomes a map. -/
theorem WR.takeMap (h : WR B W g m w) {b : Nat} (hb : B ≤ b) (hh : w.heap[b]? = some (.map #[] 0)) (ho : ∀ id, (m.map id).isSome = true → (g.mu id).1 ≠ b) (hpn : g.pn b = none) : WR B W (g.new b 0 0 0) m.newMap w := by
  have hle := G.le_new g b 0 0 0
  have hmu : (g.new b 0 0 0).mu g.n = (b, 0) := by simp [G.new]
  have gl : ∀ i, m.newMap.map i = if i = g.n then some ⟨[], 0, m.clock + 1⟩ else m.map i := by intro i; simp [Mem.newMap, Mem.map, h.n]
  refine ⟨h.below, h.base, by simp [G.new, Mem.newMap, h.n], ?_, ?_, ?_, h.fz, ?_⟩
  · intro id o hid
    have := h.ids id o hid
    show id < g.n + 1
    omega
  · intro id cs f ver hid
    exact ObjR.mono hle (h.ids id _ hid) (h.objs id cs f ver hid) fun _ _ hv => hv
  · intro i j hi hj he
    obtain ⟨o, ho1⟩ := Option.isSome_iff_exists.1 hi
    obtain ⟨o', ho2⟩ := Option.isSome_iff_exists.1 hj
    rw [hle.mu i (h.ids i o ho1), hle.mu j (h.ids j o' ho2)] at he
    exact h.inj i j hi hj he
  · refine ⟨fun i L hi => ?_, fun i j hi hj he => ?_, fun i M hi => ?_, fun i j hi hj he => ?_, h.x.df, h.x.lb, fun b' o hp => ?_⟩
    · obtain ⟨a, k⟩ := h.x.lids i L hi
      exact ⟨Nat.lt_succ_of_lt a, LoopR.mono hle a k⟩
    · obtain ⟨L, hL⟩ := Option.isSome_iff_exists.1 hi
      obtain ⟨L', hL'⟩ := Option.isSome_iff_exists.1 hj
      rw [hle.mu i (h.x.lids i L hL).1, hle.mu j (h.x.lids j L' hL').1] at he
      exact h.x.linj i j hi hj he
    · rw [gl] at hi
      split at hi
      · rename_i e
        subst e
        cases hi
        refine ⟨Nat.lt_succ_self _, ?_⟩
        unfold MapR
        rw [hmu]
        exact ⟨hb, [], hh, rfl⟩
      · obtain ⟨a, k⟩ := h.x.mids i M hi
        exact ⟨Nat.lt_succ_of_lt a, MapR.mono hle a k⟩
    · rw [gl] at hi hj
      by_cases ei : i = g.n <;> by_cases ej : j = g.n
      · rw [ei, ej]
      · simp only [ej, if_false] at hj
        obtain ⟨L, hL⟩ := Option.isSome_iff_exists.1 hj
        rw [ei, hmu, hle.mu j (h.x.mids j L hL).1] at he
        exact absurd he.symm (ho j hj)
      · simp only [ei, if_false] at hi
        obtain ⟨L, hL⟩ := Option.isSome_iff_exists.1 hi
        rw [ej, hmu, hle.mu i (h.x.mids i L hL).1] at he
        exact absurd he (ho i hi)
      · simp only [ei, ej, if_false] at hi hj
        obtain ⟨L, hL⟩ := Option.isSome_iff_exists.1 hi
        obtain ⟨L', hL'⟩ := Option.isSome_iff_exists.1 hj
        rw [hle.mu i (h.x.mids i L hL).1, hle.mu j (h.x.mids j L' hL').1] at he
        exact h.x.minj i j hi hj he
    · have p := h.x.pn b' o hp
      refine ⟨p.base, p.here, p.kind, p.fz, fun id hi => ?_, fun id hi => ?_⟩
      · obtain ⟨o', ho'⟩ := Option.isSome_iff_exists.1 hi
        rw [hle.mu id (h.ids id o' ho')]
        exact p.obj id hi
      · rw [gl] at hi
        split at hi
        · rename_i e
          rw [e, hmu]
          intro e'
          have hp' : g.pn b' = some o := hp
          rw [show b' = b from e'.symm, hpn] at hp'
          cases hp'
        · obtain ⟨M, hM⟩ := Option.isSome_iff_exists.1 hi
          rw [hle.mu id (h.x.mids id M hM).1]
          exact p.map id hi

/-- A thing that is made. -/
inductive Cr where
  | ptr (cs : List AV)
  | sl (cs : List AV) (len k : Nat) (ag : Bool)
  | mp

def Cr.at : Cr → Mem → AV × Mem
  | .ptr cs, m => (.ptr m.next 0, m.new cs false)
  | .sl cs len k ag, m => (.sl m.next 0 len k ag (some len), m.new cs false)
  | .mp, m => (.mp m.next, m.newMap)

/-- It lies in a block; the value that names it. -/
def Made (g : G) (b : Nat) (ob : Obj) (v : Value) : Cr → Prop
  | .ptr cs => (∃ vs el, ob = .cells vs.toArray el (0, 0) ∧ Rels g cs vs ∧ ∀ u ∈ vs, u.oneCell' = true) ∧ v = .pointer (some ⟨b, 0, none⟩)
  | .sl cs len k _ => (∃ vs el, ob = .cells vs.toArray el (0, 0) ∧ Rels g cs vs ∧ (∀ u ∈ vs, u.oneCell' = true) ∧ vs.length = len * k) ∧ v = .slice (some ⟨b, 0, none⟩) len len
  | .mp => ob = .map #[] 0 ∧ v = .map (some b)

theorem Made.mono {g g' : G} (h : g.lee g') {b : Nat} {ob : Obj} {v : Value} : ∀ {c : Cr}, Made g b ob v c → Made g' b ob v c
  | .ptr _, ⟨⟨vs, el, a, b, c⟩, d⟩ => ⟨⟨vs, el, a, b.monoE h, c⟩, d⟩
  | .sl _ _ _ _, ⟨⟨vs, el, a, b, c⟩, d⟩ => ⟨⟨vs, el, a, b.monoE h, c⟩, d⟩
  | .mp, k => k
theorem Made.kind {b : Nat} {ob : Obj} {v : Value} : ∀ {c : Cr}, Made g b ob v c → ob.isCells = true ∨ ∃ es c, ob = .map es c
  | .ptr _, ⟨⟨_, _, a, _⟩, _⟩ => .inl (by rw [a]; rfl)
  | .sl _ _ _ _, ⟨⟨_, _, a, _⟩, _⟩ => .inl (by rw [a]; rfl)
  | .mp, ⟨a, _⟩ => .inr ⟨_, _, a⟩

/-- The ghost behind a block that is taken in. -/
def G.adopt (g : G) (b s l : Nat) : G := (g.pins fun i => if i = b then none else g.pn i).new b 0 s l
theorem G.lee_adopt (g : G) (b s l : Nat) : g.lee (g.adopt b s l) := by
  have h := (G.lee_pins g fun i => if i = b then none else g.pn i)
  have k := (G.le_new (g.pins fun i => if i = b then none else g.pn i) b 0 s l).lee
  exact ⟨Nat.le_trans h.n k.n, fun id hi => (k.mu id hi).trans (h.mu id hi), fun id hi => (k.sz id hi).trans (h.sz id hi), fun id hi => (k.ln id hi).trans (h.ln id hi), fun b o v hv => k.fz b o v (h.fz b o v hv)⟩

theorem WR.adopt (h : WR B W g m w) {b : Nat} {ob : Obj} {v : Value} {c : Cr} (hp : g.pn b = some ob) (hm : Made g b ob v c) : ∃ s l, WR B W (g.adopt b s l) (c.at m).2 w ∧ Rel (g.adopt b s l) (c.at m).1 v := by
  have p := h.x.pn b ob hp
  have h' : WR B W (g.pins fun i => if i = b then none else g.pn i) m w := h.repin _ fun b' o' hb => by
    split at hb
    · cases hb
    · exact h.x.pn b' o' hb
  have e := G.lee_pins g fun i => if i = b then none else g.pn i
  have hno : (g.pins fun i => if i = b then none else g.pn i).pn b = none := by simp [G.pins]
  cases c with
  | ptr cs =>
    obtain ⟨⟨vs, el, rfl, h2, h3⟩, rfl⟩ := hm
    refine ⟨vs.length, cs.length, h'.take p.base p.here p.fz p.obj hno (h2.monoE e) h3, ?_⟩
    show Rel _ (.ptr m.next 0) _
    rw [h'.n]
    exact rel_new_ptr _ b 0 _ _ 0
  | sl cs len k ag =>
    obtain ⟨⟨vs, el, rfl, h2, h3, h4⟩, rfl⟩ := hm
    refine ⟨vs.length, cs.length, h'.take p.base p.here p.fz p.obj hno (h2.monoE e) h3, ?_⟩
    show Rel _ (.sl m.next 0 len k ag (some len)) _
    rw [h'.n]
    exact rel_new_sl _ b _ _ len k ag (some len) len (Nat.le_refl _) (by rw [h4]; exact Nat.le_refl _) (by intro c' hc'; simpa using hc') (by simp)
  | mp =>
    obtain ⟨rfl, rfl⟩ := hm
    refine ⟨0, 0, h'.takeMap p.base p.here p.map hno, ?_⟩
    show Rel _ (.mp m.next) _
    rw [h'.n]
    exact rel_newMap _ b

/-- What an operation makes. -/
def crea (P : Program) (s : Sl) (o : Oper) : Option Cr :=
  match o.op with
  | .alloc T => (tzero P T).bind fun z => if z.okc then some (.ptr z.cells) else none
  | .box _ x => if (ev s x).okc then some (.ptr (ev s x).cells) else none
  | .makeMap T r => (amakeMap P T (r.map (ev s)) Mem.empty).map fun _ => .mp
  | .buildSlice T len ps => match telem P T with
    | some e => match tsize P e, tzero P e, tagg P e with
      | some k, some z, some ag =>
        if 0 < k ∧ z.okc = true ∧ z.cells.length = k ∧ len * k ≤ 2 ^ 20 then
          (fillAt (fun i => some (i * k, k)) (zeros z.cells len) ((ps.toList.map (·.1)).zip (fzx P T Mem.empty (ps.toList.map fun p => ev s p.2)).1)).map fun cs => .sl cs len k ag
        else none
      | _, _, _ => none
    | _ => none
  | _ => none

theorem fz1_quiet {m : Mem} : ∀ {v : AV}, (match v with | .sl _ _ _ _ _ _ => false | _ => true) = true → fz1 m v = ((fz1 Mem.empty v).1, m)
  | .sl _ _ _ _ _ _, h => by cases h
  | .sc _, _ | .ptr _ _, _ | .cptr _ _, _ | .emp _, _ | .lst _, _ | .fn _ _ _, _ | .mp _, _ | .yl _, _ | .iface _ _, _ | .agg _, _ | .tup _, _ => rfl
theorem fzs_quiet {m : Mem} : ∀ {l : List AV}, (l.all fun | .sl _ _ _ _ _ _ => false | _ => true) = true → fzs m l = ((fzs Mem.empty l).1, m)
  | [], _ => rfl
  | v :: l, h => by
    simp only [List.all_cons, Bool.and_eq_true] at h
    have h1 := fz1_quiet (m := m) h.1
    have h2 := fz1_quiet (m := Mem.empty) h.1
    simp only [fzs, h1, fzs_quiet (m := m) h.2]
    rw [h2, fzs_quiet (m := Mem.empty) h.2]
theorem fzv_quiet {m : Mem} {v : AV} (h : noSl v = true) : fzv m v = ((fzv Mem.empty v).1, m) := by
  cases v with
  | agg cs =>
    have := fzs_quiet (m := m) (l := cs) h
    simp only [fzv, this]
  | sl _ _ _ _ _ _ => cases h
  | _ => rfl
theorem fzvs_quiet {m : Mem} : ∀ {l : List AV}, l.all noSl = true → fzvs m l = ((fzvs Mem.empty l).1, m)
  | [], _ => rfl
  | v :: l, h => by
    simp only [List.all_cons, Bool.and_eq_true] at h
    simp only [fzvs, fzv_quiet (m := m) h.1, fzvs_quiet (m := m) h.2]
    rw [fzv_quiet (m := Mem.empty) h.1, fzvs_quiet (m := Mem.empty) h.2]

theorem fzx_quiet {P : Program} {T : TypeId} {m : Mem} {l : List AV} (h : l.all noSl = true) : fzx P T m l = ((fzx P T Mem.empty l).1, m) := by
  unfold fzx
  split
  · rfl
  · exact fzvs_quiet h

theorem crea_aop {s : Sl} {o : Oper} (hc : creator o = true) (hq : quiet s o = true) (m : Mem) : aop P s o m = (crea P s o).map fun c => c.at m := by
  obtain ⟨dst, op, type, pos, after, guard⟩ := o
  cases op <;> first | (simp [creator] at hc; done) | skip
  case alloc T =>
    simp only [aop, crea]
    cases tzero P T with
    | none => rfl
    | some z => simp only [Option.bind_some]; split <;> rfl
  case box T y =>
    simp only [aop, crea]
    split <;> rfl
  case makeMap T r =>
    simp only [aop, crea, amakeMap]
    split <;> rfl
  case buildSlice T len ps =>
    simp only [quiet, List.all_eq_true] at hq
    have hz : fzx P T m ((ps.toList.map fun p => (p.1, ev s p.2)).map (·.2)) = ((fzx P T Mem.empty (ps.toList.map fun p => ev s p.2)).1, m) := by
      have e : (ps.toList.map fun p => (p.1, ev s p.2)).map (·.2) = ps.toList.map fun p => ev s p.2 := by simp
      rw [e]
      refine fzx_quiet (List.all_eq_true.2 fun v hv => ?_)
      obtain ⟨p, hp, rfl⟩ := List.mem_map.1 hv
      exact hq p hp
    have e1 : (ps.toList.map fun p => (p.1, ev s p.2)).map (·.1) = ps.toList.map (·.1) := by simp
    simp only [aop, crea, abuildSlice, hz, e1]
    cases telem P T with
    | none => rfl
    | some e =>
      dsimp only
      cases tsize P e with
      | none => rfl
      | some k0 =>
        cases tzero P e with
        | none => rfl
        | some z =>
          cases tagg P e with
          | none => rfl
          | some ag =>
            dsimp only
            by_cases hcnd : 0 < k0 ∧ z.okc = true ∧ z.cells.length = k0 ∧ len * k0 ≤ 2 ^ 20
            · rw [if_pos hcnd, if_pos hcnd, Option.map_map]; rfl
            · rw [if_neg hcnd, if_neg hcnd]; rfl

/-- It comes up, in whatever memory. -/
theorem crea_pin (h : WR B W g m w) {s : Sl} {a : Act} {o : Oper} (hc : creator o = true) (hq : quiet s o = true) (k : OR g s a o.op.operands.toList) {c : Cr} (e : crea P s o = some c) :
    ∃ g' ob v, g.le g' ∧ (execOp a.eval o).run P w = .ok (.value v) (w.alloc ob) ∧ WR B W g' m (w.alloc ob) ∧ g'.pn w.heap.size = some ob ∧ Made g' w.heap.size ob v c := by
  have fin : ∀ {g' : G} {ob : Obj} {v : Value}, g.le g' → WR B W g' m w → (execOp a.eval o).run P w = .ok (.value v) (w.alloc ob) → Made g' w.heap.size ob v c →
      ∃ g' ob v, g.le g' ∧ (execOp a.eval o).run P w = .ok (.value v) (w.alloc ob) ∧ WR B W g' m (w.alloc ob) ∧ g'.pn w.heap.size = some ob ∧ Made g' w.heap.size ob v c :=
    fun {g' ob v} l h' hr hm => ⟨g'.pins fun b => if b = w.heap.size then some ob else g'.pn b, ob, v, l.trans ⟨Nat.le_refl _, fun _ _ => rfl, fun _ _ => rfl, fun _ _ => rfl, fun _ _ _ h => h, fun _ h => h, fun _ h => h, fun b o hb => by
      show (if b = w.heap.size then some ob else g'.pn b) = some o
      rw [if_neg (fun e => by rw [e, h'.pin_fresh] at hb; cases hb)]
      exact hb⟩, hr, h'.pin ob hm.kind, by simp [G.pins], hm.mono (G.lee_pins _ _)⟩
  have var : ∀ {x : AV} {v : Value} (T : TypeId), Rel g x v → x.okc = true → ∃ ob, (newVar T v).run P w = .ok ⟨w.heap.size, 0, none⟩ (w.alloc ob) ∧ Made g w.heap.size ob (.pointer (some ⟨w.heap.size, 0, none⟩)) (.ptr x.cells) := by
    intro x v T hr ho
    refine ⟨.cells v.cells T, ?_, ⟨v.cells.toList, T, by simp, hr.cells, hr.one ho⟩, rfl⟩
    simp only [newVar, newRow, Sem.run_bind, run_newObj, Result.andThen_ok, Sem.run_pure]; rfl
  obtain ⟨dst, op, type, pos, after, guard⟩ := o
  cases op <;> first | (simp [creator] at hc; done) | skip
  case alloc T =>
    simp only [crea] at e
    cases hz : tzero P T with
    | none => rw [hz] at e; cases e
    | some z =>
      rw [hz] at e
      simp only [Option.bind_some] at e
      split at e
      · rename_i hok
        cases e
        obtain ⟨zv, rfl, hv, _⟩ := run_tzero hz
        obtain ⟨ob, h1, h2⟩ := var T (rel_ofConst zv) hok
        exact fin (.refl g) h (by simp [execOp, Instr.alloc, hv, h1]) h2
      · cases e
  case box T y =>
    simp only [crea] at e
    split at e
    · rename_i hok
      cases e
      obtain ⟨ob, h1, h2⟩ := var T (k y (by simp [Op.operands])) hok
      exact fin (.refl g) h (by simp [execOp, Instr.box, h1]) h2
    · cases e
  case makeMap T r =>
    have run : ∀ {v : Option Value}, orel g (r.map (ev s)) v → ((amakeMap P T (r.map (ev s)) Mem.empty).map fun _ => Cr.mp) = some c → c = .mp ∧ (Instr.makeMap T v).run P w = .ok (.map (some w.heap.size)) (w.alloc (.map #[] 0)) := by
      intro v rx e
      unfold amakeMap at e
      split at e
      · rename_i ht hr
        simp only [Option.map_some, Option.some.injEq] at e
        refine ⟨e.symm, ?_⟩
        cases v with
        | some _ => rw [hr] at rx; exact rx.elim
        | none => unfold Instr.makeMap; simp [Sem.run_bind]
      · rename_i y q n ht hr
        simp only [Option.map_some, Option.some.injEq] at e
        refine ⟨e.symm, ?_⟩
        cases v with
        | none => rw [hr] at rx; exact rx.elim
        | some v =>
          have : v = .int q n := by rw [hr] at rx; simpa [orel, Rel] using rx
          subst this
          obtain ⟨a, b⟩ := y
          have hu := of_tmap ht
          unfold Instr.makeMap
          simp [Sem.run_bind, run_underlying hu, asInt, asIntOf]
      · cases e
    have rx : orel g (r.map (ev s)) (r.map a.eval) := orel_map (by simpa [Op.operands] using k)
    obtain ⟨rfl, hr⟩ := run rx (by simpa [crea] using e)
    exact fin (ob := .map #[] 0) (v := .map (some w.heap.size)) (.refl g) h (by simp [execOp, hr]) ⟨rfl, rfl⟩
  case buildSlice T len ps =>
    simp only [quiet, List.all_eq_true] at hq
    simp only [crea] at e
    split at e
    · rename_i el ht
      split at e
      · rename_i k0 z ag hs hz hag
        split at e
        · rename_i hcnd
          obtain ⟨c1, c2, c3, c4⟩ := hcnd
          obtain ⟨zv, hzv, hzr, _⟩ := run_tzero hz
          simp only [Option.map_eq_some_iff] at e
          obtain ⟨cs', hf, rfl⟩ := e
          obtain ⟨h1, h2⟩ := rels_pairs (ps := ps.toList) (by simpa [Op.operands] using k)
          have e2 : (ps.toList.map fun p => (p.1, ev s p.2)).map (·.2) = ps.toList.map fun p => ev s p.2 := by simp
          have e1 : (ps.toList.map fun p => (p.1, ev s p.2)).map (·.1) = ps.toList.map (·.1) := by simp
          rw [e2] at h2
          rw [e1] at h1
          obtain ⟨g1, l1, w1, r1⟩ := fzx_sound (P := P) T _ h h2
          have hz' : fzx P T m (ps.toList.map fun p => ev s p.2) = ((fzx P T Mem.empty (ps.toList.map fun p => ev s p.2)).1, m) := by
            refine fzx_quiet (List.all_eq_true.2 fun v hv => ?_)
            obtain ⟨p, hp, rfl⟩ := List.mem_map.1 hv
            exact hq p hp
          rw [hz'] at w1 r1
          generalize (fzx P T Mem.empty (ps.toList.map fun p => ev s p.2)).1 = ps' at *
          dsimp only at w1 r1
          have hr : Rel g1 z zv := by rw [hzv]; exact rel_ofConst zv
          have hzs : zv.cells.size = k0 := by rw [← c3, ← hr.cells.length]; simp
          have hl1 : (ps.toList.map (·.1)).length = ps'.length := by
            have a1 := h2.length; have a2 := r1.length
            simp at a1 a2 ⊢
            omega
          obtain ⟨vs', f1, f2, f3⟩ := fill_sound (fun i => some (i * k0, k0)) ((ps.toList.map (·.1)).zip ps') (zeros z.cells len) _ (ps.toList.map fun p => (p.1, a.eval p.2)) cs' (rels_zeros hr (by omega) len) (one_zeros hr c2 (by omega) len)
            (by rw [← h1, List.map_fst_zip (by omega)]) (by rw [List.map_snd_zip (by omega)]; exact r1) hf
          have hlen : vs'.length = len * k0 := by
            have key : ∀ (ps : List (Nat × AV)) (cs cs' : List AV), fillAt (fun i => some (i * k0, k0)) cs ps = some cs' → cs'.length = cs.length := by
              intro ps
              induction ps with
              | nil => intro cs cs' h; simp only [fillAt, Option.some.injEq] at h; rw [h]
              | cons p ps ih =>
                intro cs cs' h
                simp only [fillAt] at h
                split at h
                · rename_i hc'
                  rw [ih _ _ h]
                  simp [splice]
                  omega
                · cases h
            rw [f2.length, key _ _ _ hf, ← (rels_zeros hr (by omega) len).length]
            simp [hzs]
          refine fin (ob := .cells vs'.toArray el) (v := .slice (some ⟨w.heap.size, 0, none⟩) len len) l1 w1 ?_ ⟨⟨vs', el, rfl, f2, f3, hlen⟩, rfl⟩
          have hbs : (Instr.buildSlice T len (ps.toList.map fun p => (p.1, a.eval p.2)).toArray).run P w = .ok (.slice (some ⟨w.heap.size, 0, none⟩) len len) (w.alloc (.cells vs'.toArray el)) := by
            have hbig : ¬ (2 ^ 24 < len * k0) := by omega
            have hzc : zv.cells.size ≠ 0 := by omega
            simp only [Instr.buildSlice, Sem.run_bind, run_underlying (of_telem ht), Result.andThen_ok, run_tsize hs]
            rw [if_neg hbig]
            by_cases h0 : len * k0 = 0
            · have hl0 : len = 0 := by
                rcases Nat.mul_eq_zero.1 h0 with h | h
                · exact h
                · omega
              subst hl0
              rw [if_pos h0]
              simp only [Nat.zero_mul, List.range_zero, List.map_nil] at f1
              have ha : (Array.map (fun x => (#[] : Array Value)[x % (#[] : Array Value).size]!) (Array.range (0 * k0))) = ([] : List Value).toArray := by simp
              simp only [pure_bind, ha, f1, Sem.run_bind, newRow, run_newObj, Result.andThen_ok, Sem.run_pure]
              rfl
            · rw [if_neg h0]
              have ha : ((Array.range (len * k0)).map fun i => zv.cells[i % zv.cells.size]!) = ((List.range (len * zv.cells.size)).map fun i => zv.cells[i % zv.cells.size]!).toArray := by
                rw [hzs]
                apply Array.ext'
                simp
              simp only [Sem.run_bind, hzr, Result.andThen_ok, pure_bind, ha, f1, newRow, run_newObj, Sem.run_pure]
              rfl
          have hps : (ps.map fun (i, x) => (i, a.eval x)) = (ps.toList.map fun p => (p.1, a.eval p.2)).toArray := by
            apply Array.ext'
            simp
          simp only [execOp, hps, Sem.run_bind, hbs, Result.andThen_ok, Sem.run_pure]
        · cases e
      · cases e
    · cases e
end Go.V
