import Derived.Test.YtnhcmcfgemoehaaGreatVE
/- Memory that stays but for some objects; slices that grow. -/
set_option linter.unusedSimpArgs false
set_option linter.unusedVariables false
set_option linter.unusedSectionVars false
namespace Go.V
open Go.RowKit
variable {P : Program}

/-- An object's cells. -/
def has (m : Mem) (id : Nat) (cs : List AV) : Prop := id < m.next ∧ ∃ v, m.get id = some (.cells cs false v)

/-- What stays but for two objects. -/
structure KpX (X : Nat → Prop) (m m' : Mem) : Prop where
  next : m.next ≤ m'.next
  get : ∀ id, id < m.next → ¬ X id → m'.get id = m.get id
  x : XK m m'
theorem KpX.refl (X : Nat → Prop) (m : Mem) : KpX X m m := ⟨Nat.le_refl _, fun _ _ _ => rfl, .refl m⟩
theorem KpX.trans {X : Nat → Prop} {a b c : Mem} (h : KpX X a b) (k : KpX X b c) : KpX X a c := ⟨Nat.le_trans h.next k.next, fun id hi hx => (k.get id (Nat.lt_of_lt_of_le hi h.next) hx).trans (h.get id hi hx), h.x.trans h.next k.x⟩
theorem KpX.of {X : Nat → Prop} {a b : Mem} (h : Kp a b) : KpX X a b := ⟨h.next, fun id hi _ => h.get id hi, h.x⟩
theorem KpX.set {X : Nat → Prop} {a b : Mem} (h : KpX X a b) {id : Nat} (hx : X id) (cs : List AV) : KpX X a (b.set id cs) := ⟨h.next, fun j hj hn => by rw [Mem.get_set, if_neg (by rintro rfl; exact hn hx)]; exact h.get j hj hn, h.x.same rfl rfl⟩
theorem KpX.setn {X : Nat → Prop} {a b : Mem} (h : KpX X a b) {id : Nat} (hx : a.next ≤ id) (cs : List AV) : KpX X a (b.set id cs) := ⟨h.next, fun j hj hn => by rw [Mem.get_set, if_neg (by omega)]; exact h.get j hj hn, h.x.same rfl rfl⟩
theorem KpX.new {X : Nat → Prop} {a b : Mem} (h : KpX X a b) (cs : List AV) (f : Bool) : KpX X a (b.new cs f) := h.trans (.of (.new _ _ _))
theorem has.kept {X : Nat → Prop} {m m' : Mem} {id : Nat} {cs : List AV} (h : has m id cs) (k : KpX X m m') (hx : ¬ X id) : has m' id cs := ⟨Nat.lt_of_lt_of_le h.1 k.next, by rw [k.get id h.1 hx]; exact h.2⟩
theorem has.kp {m m' : Mem} {id : Nat} {cs : List AV} (h : has m id cs) (k : Kp m m') : has m' id cs := ⟨Nat.lt_of_lt_of_le h.1 k.next, by rw [k.get id h.1]; exact h.2⟩

theorem KpX.kp {X : Nat → Prop} {a b c : Mem} (h : KpX X b c) (k : Kp a b) (hx : ∀ id, id < a.next → ¬ X id) : Kp a c := ⟨Nat.le_trans k.next h.next, fun id hi => (h.get id (Nat.lt_of_lt_of_le hi k.next) (hx id hi)).trans (k.get id hi), k.x.trans k.next h.x⟩

/-- A slice's object. -/
def owns : AV → Nat → Prop
  | .sl id _ _ _ _ _, k => id = k
  | _, _ => False
theorem owns_emp {n k : Nat} : owns (.emp n) k ↔ False := Iff.rfl
theorem owns_sl {id off len q k : Nat} {ag : Bool} {c : Option Nat} : owns (.sl id off len q ag c) k ↔ id = k := Iff.rfl

theorem acc_keptX {X : Nat → Prop} {m0 m m' : Mem} {k : Nat} {ag : Bool} {ys : List AV} {v : AV} (h : Acc m0 m k ag ys v) (kx : KpX X m m') (hx : ∀ j, owns v j → ¬ X j) : Acc m0 m' k ag ys v := by
  rcases h with h | ⟨h, id, w, rfl, h2, h3, h4⟩
  · exact .inl h
  · exact .inr ⟨h, id, w, rfl, h2, Nat.lt_of_lt_of_le h3 kx.next, by rw [kx.get id h3 (hx id rfl)]; exact h4⟩
theorem acc_lt {m0 m : Mem} {k : Nat} {ag : Bool} {ys : List AV} {v : AV} (h : Acc m0 m k ag ys v) : ∀ j, owns v j → m0.next ≤ j ∧ j < m.next := by
  rcases h with ⟨_, rfl⟩ | ⟨_, id, w, rfl, h2, h3, h4⟩
  · intro j hj; exact hj.elim
  · rintro j rfl; exact ⟨h2, h3⟩
theorem KpX.mono {X Y : Nat → Prop} {a b : Mem} (h : KpX X a b) (k : ∀ j, j < a.next → X j → Y j) : KpX Y a b := ⟨h.next, fun id hi hn => h.get id hi fun hx => hn (k id hi hx), h.x⟩
theorem KpX.toKp {X : Nat → Prop} {m0 a b : Mem} (h : KpX X a b) (k : Kp m0 a) (hx : ∀ j, X j → m0.next ≤ j) : Kp m0 b := ⟨Nat.le_trans k.next h.next, fun id hi => (h.get id (Nat.lt_of_lt_of_le hi k.next) (fun x => by have := hx id x; omega)).trans (k.get id hi), k.x.trans k.next h.x⟩

theorem acc_app2 {T : TypeId} {m m' m2 : Mem} {k : Nat} {ag : Bool} {ys zs zs' : List AV} {v : AV} (h : Acc m m' k ag ys v) (hy : okAll k ys = true) (el : ElemOf P T k ag) (hz : zs ≠ []) (ho : okAll k zs = true) (hf : fzx P T m' zs = (zs', m2)) (hm2 : Kp m' m2) (hb : ys.length + zs.length ≤ 2 ^ 26) :
    ∃ m3, aappend P T v none (some zs) m' = some (.sl m2.next 0 (ys.length + zs.length) k ag none, m3) ∧ m3.next = m2.next + 1 ∧ (∃ w, m3.get m2.next = some (.cells (flat (ys ++ zs')) false w)) ∧ (∀ j, j < m2.next → ¬ owns v j → m3.get j = m2.get j) ∧ XK m' m3 := by
  rcases h with ⟨rfl, rfl⟩ | ⟨h, id, w, rfl, h2, h3, h4⟩
  · have e := aapp_emp (n := 0) (by omega) el hz ho hf (by simp at hb; omega)
    refine ⟨m2.new (flat zs') false, by simpa using e, by simp, ⟨m2.clock + 1, by simp⟩, fun j hj _ => ?_, hm2.x.same rfl rfl⟩
    rw [Mem.get_new, if_neg (by omega)]
  · have h5 : m2.get id = some (.cells (flat ys) false w) := by rw [hm2.get id h3]; exact h4
    refine ⟨_, aapp_row el hz ho hf h5 (flat_length hy) hb, by simp, ⟨m2.clock + 1, by simp [flat_append]⟩, fun j hj hn => ?_, hm2.x.same rfl rfl⟩
    rw [Mem.get_new, if_neg (by simp; omega), Mem.get_kill, if_neg (fun e => hn e.symm)]

theorem acc_fzX {m m' : Mem} {k : Nat} {ag : Bool} {ys : List AV} {v : AV} (h : Acc m m' k ag ys v) (ha : (ag || k == 1) = true) (hy : ∀ y ∈ ys, y.cells.length = k ∧ (if ag then AV.agg y.cells = y else y.cells = [y])) (ho : okAll k ys = true) : ∃ m2, fz1 m' v = (.lst ys, m2) ∧ KpX (owns v) m' m2 := by
  rcases h with ⟨rfl, rfl⟩ | ⟨h, id, w, rfl, h2, h3, h4⟩
  · exact ⟨m', rfl, KpX.refl _ _⟩
  · exact ⟨_, fz1_row ha h4 hy ho, ⟨Nat.le_of_eq (Mem.next_mark _ _ _ _).symm, fun j hj hn => by rw [Mem.get_mark, if_neg (fun e => hn e.symm)], (XK.refl _).same rfl rfl⟩⟩

structure KpC (X : Nat → Prop) (m m' : Mem) : Prop where
  next : m.next ≤ m'.next
  get : ∀ id, id < m.next → ¬ X id → m'.get id = m.get id
  x : ∀ id, id < m.next → ¬ X id → m'.loop id = m.loop id ∧ m'.map id = m.map id
theorem KpC.refl (X : Nat → Prop) (m : Mem) : KpC X m m := ⟨Nat.le_refl _, fun _ _ _ => rfl, fun _ _ _ => ⟨rfl, rfl⟩⟩
theorem KpC.trans {X : Nat → Prop} {a b c : Mem} (h : KpC X a b) (k : KpC X b c) : KpC X a c := ⟨Nat.le_trans h.next k.next, fun id hi hx => (k.get id (Nat.lt_of_lt_of_le hi h.next) hx).trans (h.get id hi hx), fun id hi hx => ⟨(k.x id (Nat.lt_of_lt_of_le hi h.next) hx).1.trans (h.x id hi hx).1, (k.x id (Nat.lt_of_lt_of_le hi h.next) hx).2.trans (h.x id hi hx).2⟩⟩
theorem KpC.of {X : Nat → Prop} {a b : Mem} (h : KpX X a b) : KpC X a b := ⟨h.next, h.get, fun id hi _ => h.x id hi⟩
theorem KpC.mono {X Y : Nat → Prop} {a b : Mem} (h : KpC X a b) (k : ∀ j, X j → Y j) : KpC Y a b := ⟨h.next, fun id hi hx => h.get id hi fun x => hx (k id x), fun id hi hx => h.x id hi fun x => hx (k id x)⟩
theorem has.kc {X : Nat → Prop} {m m' : Mem} {id : Nat} {cs : List AV} (h : has m id cs) (k : KpC X m m') (hx : ¬ X id) : has m' id cs := ⟨Nat.lt_of_lt_of_le h.1 k.next, by rw [k.get id h.1 hx]; exact h.2⟩

theorem KpC.after {X Y : Nat → Prop} {m m1 m2 : Mem} (h : Kp m m1) (k : KpC Y m1 m2) (hf : ∀ i, i < m.next → Y i → X i) : KpC X m m2 :=
  ⟨Nat.le_trans h.next k.next, fun id hi hx => (k.get id (Nat.lt_of_lt_of_le hi h.next) fun y => hx (hf id hi y)).trans (h.get id hi), fun id hi hx => ⟨(k.x id (Nat.lt_of_lt_of_le hi h.next) fun y => hx (hf id hi y)).1.trans (h.x id hi).1, (k.x id (Nat.lt_of_lt_of_le hi h.next) fun y => hx (hf id hi y)).2.trans (h.x id hi).2⟩⟩
theorem acc_keptC {X : Nat → Prop} {m0 m m' : Mem} {k : Nat} {ag : Bool} {ys : List AV} {v : AV} (h : Acc m0 m k ag ys v) (kx : KpC X m m') (hx : ∀ j, owns v j → ¬ X j) : Acc m0 m' k ag ys v := by
  rcases h with h | ⟨h, id, w, rfl, h2, h3, h4⟩
  · exact .inl h
  · exact .inr ⟨h, id, w, rfl, h2, Nat.lt_of_lt_of_le h3 kx.next, by rw [kx.get id h3 (hx id rfl)]; exact h4⟩

/-- Loops and maps that came later. -/
theorem Kp.loops {m a b : Mem} (h : Kp m a) (hn : a.next ≤ b.next) (hg : ∀ i, b.get i = a.get i) (hl : ∀ i, i < m.next → b.loop i = a.loop i) (hm : ∀ i, i < m.next → b.map i = a.map i) : Kp m b :=
  ⟨Nat.le_trans h.next hn, fun i hi => (hg i).trans (h.get i hi), fun i hi => ⟨(hl i hi).trans (h.x i hi).1, (hm i hi).trans (h.x i hi).2⟩⟩
theorem Kp.newLoop {m a : Mem} (h : Kp m a) (c : LCode) : Kp m (a.newLoop c) := h.loops (by simp) (fun i => by simp) (fun i hi => by have := h.next; simp; omega) fun i hi => by simp
theorem Kp.setLoop {m a : Mem} (h : Kp m a) {id : Nat} (hi : m.next ≤ id) (st : LoopState) (p : Option Code) (c : LCode) : Kp m (a.setLoop id st p c) := h.loops (by simp) (fun i => by simp) (fun i hj => by simp; omega) fun i hi => by simp
theorem Kp.killLoop {m a : Mem} (h : Kp m a) {id : Nat} (hi : m.next ≤ id) : Kp m (a.killLoop id) := h.loops (by simp) (fun i => by simp) (fun i hj => by simp; omega) fun i hi => by simp
theorem Mem.map_setMap {m : Mem} {id i : Nat} {es : List (Value × AV × Nat)} {ck : Nat} : (m.setMap id es ck).map i = if i = id then some ⟨es, ck, m.clock + 1⟩ else m.map i := by simp [Mem.setMap, Mem.map]
theorem Mem.map_newMap {m : Mem} {i : Nat} : m.newMap.map i = if i = m.next then some ⟨[], 0, m.clock + 1⟩ else m.map i := by simp [Mem.newMap, Mem.map]
theorem Mem.get_setMap {m : Mem} {id i : Nat} {es : List (Value × AV × Nat)} {ck : Nat} : (m.setMap id es ck).get i = m.get i := Eq.trans rfl rfl
theorem Mem.get_newMap {m : Mem} {i : Nat} : m.newMap.get i = m.get i := Eq.trans rfl rfl
theorem Mem.loop_setMap {m : Mem} {id i : Nat} {es : List (Value × AV × Nat)} {ck : Nat} : (m.setMap id es ck).loop i = m.loop i := Eq.trans rfl rfl
theorem Mem.loop_newMap {m : Mem} {i : Nat} : m.newMap.loop i = m.loop i := Eq.trans rfl rfl
theorem Mem.next_setMap {m : Mem} {id : Nat} {es : List (Value × AV × Nat)} {ck : Nat} : (m.setMap id es ck).next = m.next := Eq.trans rfl rfl
theorem Mem.next_newMap {m : Mem} : m.newMap.next = m.next + 1 := Eq.trans rfl rfl
theorem Mem.clock_setMap {m : Mem} {id : Nat} {es : List (Value × AV × Nat)} {ck : Nat} : (m.setMap id es ck).clock = m.clock + 1 := Eq.trans rfl rfl
theorem Mem.clock_newMap {m : Mem} : m.newMap.clock = m.clock + 1 := Eq.trans rfl rfl
attribute [simp] Mem.map_setMap Mem.map_newMap Mem.get_setMap Mem.get_newMap Mem.loop_setMap Mem.loop_newMap Mem.next_setMap Mem.next_newMap Mem.clock_setMap Mem.clock_newMap
theorem Kp.newMap {m a : Mem} (h : Kp m a) : Kp m a.newMap := h.loops (by simp) (fun i => by simp) (fun i hi => by simp) fun i hi => by have := h.next; simp; omega
theorem Kp.setMap {m a : Mem} (h : Kp m a) {id : Nat} (hi : m.next ≤ id) (es : List (Value × AV × Nat)) (ck : Nat) : Kp m (a.setMap id es ck) := h.loops (by simp) (fun i => by simp) (fun i hi => by simp) fun i hj => by simp; omega
theorem Kp.newLoop_eq {m a : Mem} {c : LCode} (hi : m.next ≤ a.next) : Kp m (a.newLoop c) = Kp m a := by
  refine propext ⟨fun h => ⟨hi, fun j hj => by simpa using h.get j hj, fun j hj => ?_⟩, fun h => h.newLoop c⟩
  have q := h.x j hj
  have e : j ≠ a.next := by omega
  simpa [e] using q
theorem Kp.setLoop_eq {m a : Mem} {id : Nat} {st : LoopState} {p : Option Code} {c : LCode} (hi : m.next ≤ id) : Kp m (a.setLoop id st p c) = Kp m a := by
  refine propext ⟨fun h => ⟨(by simpa using h.next), fun j hj => by simpa using h.get j hj, fun j hj => ?_⟩, fun h => h.setLoop hi st p c⟩
  have q := h.x j hj
  have e : j ≠ id := by omega
  simpa [e] using q
theorem Kp.killLoop_eq {m a : Mem} {id : Nat} (hi : m.next ≤ id) : Kp m (a.killLoop id) = Kp m a := by
  refine propext ⟨fun h => ⟨(by simpa using h.next), fun j hj => by simpa using h.get j hj, fun j hj => ?_⟩, fun h => h.killLoop hi⟩
  have q := h.x j hj
  have e : j ≠ id := by omega
  simpa [e] using q
theorem Kp.newMap_eq {m a : Mem}  (hi : m.next ≤ a.next) : Kp m (a.newMap) = Kp m a := by
  refine propext ⟨fun h => ⟨hi, fun j hj => by simpa using h.get j hj, fun j hj => ?_⟩, fun h => h.newMap⟩
  have q := h.x j hj
  have e : j ≠ a.next := by omega
  simpa [e] using q
theorem Kp.setMap_eq {m a : Mem} {id : Nat} {es : List (Value × AV × Nat)} {ck : Nat} (hi : m.next ≤ id) : Kp m (a.setMap id es ck) = Kp m a := by
  refine propext ⟨fun h => ⟨(by simpa using h.next), fun j hj => by simpa using h.get j hj, fun j hj => ?_⟩, fun h => h.setMap hi es ck⟩
  have q := h.x j hj
  have e : j ≠ id := by omega
  simpa [e] using q
attribute [simp] Kp.newLoop_eq Kp.setLoop_eq Kp.killLoop_eq Kp.newMap_eq Kp.setMap_eq
theorem KpC.toKp {X : Nat → Prop} {m0 a b : Mem} (h : KpC X a b) (k : Kp m0 a) (hx : ∀ j, X j → m0.next ≤ j) : Kp m0 b :=
  ⟨Nat.le_trans k.next h.next, fun id hi => (h.get id (Nat.lt_of_lt_of_le hi k.next) (fun x => by have := hx id x; omega)).trans (k.get id hi), fun id hi => have q := h.x id (Nat.lt_of_lt_of_le hi k.next) (fun x => by have := hx id x; omega); ⟨q.1.trans (k.x id hi).1, q.2.trans (k.x id hi).2⟩⟩
section
variable {cfg : Cfg} {N : Nat} {Q : Ex → Sl → Mem → Prop} {d : Option Tmp} {T : TypeId} {p : String} {af : Array Edge} {gd : Option (Nat × Bool)} {k : List It} {s : Sl} {m : Mem}
theorem goS_makeMap {t : TypeId} {r : Option Operand} : goS P cfg N Q ⟨d, .makeMap t r, T, p, af, gd⟩ k s m = goR P cfg N Q (amakeMap P t (r.map (ev s)) m) d k s := Eq.trans rfl rfl
theorem goS_lookup {t : TypeId} {x y : Operand} {ok : Bool} : goS P cfg N Q ⟨d, .lookup t x y ok, T, p, af, gd⟩ k s m = goR P cfg N Q ((alookup P t (ev s x) (ev s y) ok m).map (·, m)) d k s := Eq.trans rfl rfl
theorem goS_mapUpdate {t : TypeId} {x y z : Operand} : goS P cfg N Q ⟨d, .mapUpdate t x y z, T, p, af, gd⟩ k s m = goR P cfg N Q ((amapUpdate P t (ev s x) (ev s y) (ev s z) m).map (undefV, ·)) d k s := Eq.trans rfl rfl
theorem goS_insert {t : TypeId} {x y z : Operand} : goS P cfg N Q ⟨d, .insert t x y z, T, p, af, gd⟩ k s m = goR P cfg N Q ((amapUpdate P t (ev s x) (ev s y) (ev s z) m).map (undefV, ·)) d k s := Eq.trans rfl rfl
theorem goS_mapEntry {t : TypeId} {x y : Operand} : goS P cfg N Q ⟨d, .mapEntry t x y, T, p, af, gd⟩ k s m = goR P cfg N Q (amapEntry P t (ev s x) (ev s y) m) d k s := Eq.trans rfl rfl
theorem goS_entryStore {t : TypeId} {x y z : Operand} : goS P cfg N Q ⟨d, .entryStore t x y z, T, p, af, gd⟩ k s m = goR P cfg N Q ((aentryStore (ev s x) (ev s y) (ev s z) m).map (undefV, ·)) d k s := Eq.trans rfl rfl
attribute [simp] goS_makeMap goS_lookup goS_mapUpdate goS_insert goS_mapEntry goS_entryStore
end
theorem amakeMap_none {t : TypeId} {kt : TypeId × TypeId} (h : tmap P t = some kt) {m : Mem} : amakeMap P t none m = some (.mp m.next, m.newMap) := by unfold amakeMap; rw [h]
/-- Maps with texts as keys. -/
theorem findNow_str {k : List UInt8} : ∀ (ks : List (List UInt8)) (i : Nat), Instr.findNow .string (.string ⟨⟨k⟩⟩) (ks.map fun x => ⟨.string ⟨⟨x⟩⟩, undef, 0⟩) i = some ((ks.findIdx? fun x => decide (x = k)).map fun j => (j + i, undef))
  | [], i => rfl
  | x :: ks, i => by
    simp only [List.map_cons, Instr.findNow, List.findIdx?_cons]
    have h : Instr.sameNow .string (.string ⟨⟨k⟩⟩) (.string ⟨⟨x⟩⟩) = some (decide (x = k)) := by
      show some ((⟨⟨k⟩⟩ : ByteArray) == ⟨⟨x⟩⟩) = _
      have e : ((⟨⟨k⟩⟩ : ByteArray) == ⟨⟨x⟩⟩) = ((⟨k⟩ : Array UInt8) == ⟨x⟩) := rfl
      rw [e]
      congr 1
      rw [Bool.eq_iff_iff]
      simp only [beq_iff_eq, decide_eq_true_eq, Array.mk.injEq]
      exact eq_comm
    rw [h]
    by_cases e : x = k
    · simp [e]
    · simp only [e, decide_false, findNow_str ks (i + 1)]
      cases ks.findIdx? fun x => decide (x = k) with
      | none => simp
      | some j => simp; omega
theorem afind_str {T : TypeId} (hT : P.underlying T = some .string) (k : List UInt8) (ks : List (List UInt8)) : afind P T (.string ⟨⟨k⟩⟩) (ks.map fun x => .string ⟨⟨x⟩⟩) = some (ks.findIdx? fun x => decide (x = k)) := by
  have e : (ks.map fun x => Value.string ⟨⟨x⟩⟩).map (fun x => (⟨x, undef, 0⟩ : MapEntry)) = ks.map fun x => ⟨.string ⟨⟨x⟩⟩, undef, 0⟩ := by rw [List.map_map]; rfl
  unfold afind
  rw [hT]
  dsimp only
  rw [e, findNow_str]
  cases ks.findIdx? fun x => decide (x = k) <;> simp
theorem akey_str {T : TypeId} (hT : P.underlying T = some .string) (e : Bool) (k : List UInt8) : akey P T e (.sc (.string ⟨⟨k⟩⟩)) = some (.string ⟨⟨k⟩⟩) := by
  have h : pureRun P (Instr.checkKey e 10000 T (.string ⟨⟨k⟩⟩)) = some () := by
    rw [show (10000 : Nat) = 9999 + 1 from rfl]
    unfold Instr.checkKey
    rw [pureRun_bind, pureRun_underlying hT]
    rfl
  unfold akey
  simp [plain, h]
/-- A look into a map of texts. -/
theorem alookup_str {t kt et : TypeId} (h : tmap P t = some (kt, et)) (hk : P.underlying kt = some .string) {m : Mem} {id : Nat} {M : AMap} (hM : m.map id = some M) {ks : List (List UInt8)} (hs : M.es.map (·.1) = ks.map fun x => .string ⟨⟨x⟩⟩) (k : List UInt8) (ok : Bool) :
    alookup P t (.mp id) (.sc (.string ⟨⟨k⟩⟩)) ok m = (match ks.findIdx? fun x => decide (x = k) with
      | some i => (match M.es[i]? with | some (_, v, _) => some (if ok then .tup [v, .sc (.bool true)] else v) | Option.none => Option.none)
      | Option.none => (tzero P et).map fun z => if ok then .tup [z, .sc (.bool false)] else z) := by
  unfold alookup amapOf
  simp only [h, hM, Option.map_some, akey_str hk, hs, afind_str hk]
  cases ks.findIdx? fun x => decide (x = k) <;> rfl
/-- A text that was not there. -/
theorem amapUpdate_new {t kt et : TypeId} (h : tmap P t = some (kt, et)) (hk : P.underlying kt = some .string) {m : Mem} {id : Nat} {M : AMap} (hM : m.map id = some M) {ks : List (List UInt8)} (hs : M.es.map (·.1) = ks.map fun x => .string ⟨⟨x⟩⟩) {k : List UInt8} (hn : (ks.findIdx? fun x => decide (x = k)) = none) (v : AV) :
    amapUpdate P t (.mp id) (.sc (.string ⟨⟨k⟩⟩)) v m = some (m.setMap id (M.es ++ [(.string ⟨⟨k⟩⟩, v, M.ck)]) (M.ck + 1)) := by
  unfold amapUpdate
  simp only [h, hM, akey_str hk, hs, afind_str hk, hn]
/-- A struct of two plain fields, held against another one. -/
theorem equal2 {T : TypeId} {f1 f2 : Field} (hT : P.underlying T = some (.struct #[f1, f2])) (n1 : f1.name ≠ "_") (n2 : f2.name ≠ "_") (o1 : f1.offset = 0) (o2 : f2.offset = 1) (s1 : tagg P f1.type = some false) (s2 : tagg P f2.type = some false)
    (hs : P.stoodInHeld T = false) {x1 x2 y1 y2 : Value} {b1 b2 : Bool} (h1 : ∀ d, pureRun P (Op.equalIn (d + 1) f1.type x1 y1) = some b1) (h2 : ∀ d, pureRun P (Op.equalIn (d + 1) f2.type x2 y2) = some b2) :
    pureRun P (Op.equal T (.agg #[x1, x2]) (.agg #[y1, y2])) = some (b1 && b2) := by
  unfold Op.equal
  rw [show Op.maxDepth = (Op.maxDepth - 2) + 1 + 1 from rfl]
  rw [Op.equalIn]
  rw [pureRun_bind, pureRun_underlying hT]
  simp only [Option.bind_some]
  have hp : ∀ (t : TypeId) (cs : Array Value) (off : Nat) (v : Value), tagg P t = some false → cs[off]? = some v → pureRun P (part t cs off) = some v := by
    intro t cs off v ht hc
    unfold tagg at ht
    cases hu : P.underlying t with
    | none => rw [hu] at ht; cases ht
    | some d =>
      unfold part isAgg
      rw [pureRun_bind, pureRun_bind, pureRun_underlying hu]
      rw [hu] at ht
      cases d <;> simp at ht <;> simp [pureRun_pure, hc, pureRun_bind]
  have q1 := h1 (Op.maxDepth - 2)
  have q2 := h2 (Op.maxDepth - 2)
  rw [pureRun_bind, pureRun_program]
  simp only [Option.bind_some, hs, Bool.false_eq_true, if_false]
  have c1 := hp f1.type #[x1, x2] 0 x1 s1 rfl
  have c2 := hp f1.type #[y1, y2] 0 y1 s1 rfl
  have c3 := hp f2.type #[x1, x2] 1 x2 s2 rfl
  have c4 := hp f2.type #[y1, y2] 1 y2 s2 rfl
  cases b1 <;> cases b2 <;> simp [pureRun_bind, pureRun_pure, List.forIn_toArray, n1, n2, o1, o2, c1, c2, c3, c4, q1, q2]
theorem equalIn_int {T : TypeId} {k q : IntKind} (hT : P.underlying T = some (.int k)) {a b : Int} (d : Nat) : pureRun P (Op.equalIn (d + 1) T (.int q a) (.int q b)) = some (decide (a = b)) := by
  rw [Op.equalIn, pureRun_bind, pureRun_underlying hT]
  simp only [Option.bind_some]
  simp [pureRun_pure]
  rw [Bool.eq_iff_iff]; simp
theorem equalIn_str {T : TypeId} (hT : P.underlying T = some .string) {a b : List UInt8} (d : Nat) : pureRun P (Op.equalIn (d + 1) T (.string ⟨⟨a⟩⟩) (.string ⟨⟨b⟩⟩)) = some (decide (a = b)) := by
  rw [Op.equalIn, pureRun_bind, pureRun_underlying hT]
  simp only [Option.bind_some, pureRun_pure]
  have e : ((⟨⟨a⟩⟩ : ByteArray) == ⟨⟨b⟩⟩) = ((⟨a⟩ : Array UInt8) == ⟨b⟩) := rfl
  rw [e]
  congr 1
  rw [Bool.eq_iff_iff]
  simp only [beq_iff_eq, decide_eq_true_eq, Array.mk.injEq]
/-- Structs of two plain fields. -/
structure Two (P : Program) (T : TypeId) (t1 t2 : TypeId) : Prop where
  two : ∃ f1 f2 : Field, P.underlying T = some (.struct #[f1, f2]) ∧ f1.name ≠ "_" ∧ f2.name ≠ "_" ∧ f1.offset = 0 ∧ f2.offset = 1 ∧ f1.type = t1 ∧ f2.type = t2
  t1 : tagg P t1 = some false
  t2 : tagg P t2 = some false
  hs : P.stoodInHeld T = false
  hg : P.eqGuardType P.depth T = false
theorem abin_two {T t1 t2 : TypeId} (h : Two P T t1 t2) {xo yo : Operand} {x1 x2 y1 y2 : Value} {b1 b2 : Bool} (h1 : ∀ d, pureRun P (Op.equalIn (d + 1) t1 x1 y1) = some b1) (h2 : ∀ d, pureRun P (Op.equalIn (d + 1) t2 x2 y2) = some b2) :
    abin P .eql T xo yo (.agg [.sc x1, .sc x2]) (.agg [.sc y1, .sc y2]) = some (.sc (.bool (b1 && b2))) ∧ abin P .neq T xo yo (.agg [.sc x1, .sc x2]) (.agg [.sc y1, .sc y2]) = some (.sc (.bool !(b1 && b2))) := by
  obtain ⟨f1, f2, hT, n1, n2, o1, o2, e1, e2⟩ := h.two
  have h0 := equal2 hT n1 n2 o1 o2 (by rw [e1]; exact h.t1) (by rw [e2]; exact h.t2) h.hs (x1 := x1) (x2 := x2) (y1 := y1) (y2 := y2) (by rw [e1]; exact h1) (by rw [e2]; exact h2)
  constructor
  · simp [abin, plain, scals, scal, eqGuard, pureRun_bind, pureRun_program, pureRun_pure, h.hg, binOp, pureRun_map, h0]
  · simp [abin, plain, scals, scal, eqGuard, pureRun_bind, pureRun_program, pureRun_pure, h.hg, binOp, pureRun_map, h0]

/-- Another setting's run, what it is handed and its result lists that never change, all else as it was. -/
def fzH (h : List AV → Mem → Option (AV × Mem)) (args : List AV) (m : Mem) : Option (AV × Mem) :=
  match h (fzvs m args).1 (fzvs m args).2 with
  | some r => gcw 1 (fzvs m args).2 (fzr r.2 r.1)
  | none => none
theorem told_fz {f : FuncId} {h : List AV → Mem → Option (AV × Mem)} (t : ByHand P f h) : ByHand P f (fzH h) := by
  refine ⟨fun B W args m v m' e hv => ?_, fun args m v m' e => ?_⟩
  · unfold fzH at e
    split at e
    · rename_i r hr
      intro g w vals k hw
      obtain ⟨g1, l1, w1, k1⟩ := fzvs_sound args hw k
      have hv1 := (VM.fzvs args m).inv hv
      have vm := (t.ver _ _ _ _ hr).trans (VM.fzr r.2 r.1)
      have fin : ∀ (v' : Value) (g' : G) (w' : World), g1.le g' → Rel g' r.1 v' → WR B W g' r.2 w' → ∃ g4, g.le g4 ∧ Rel g4 v v' ∧ WR B W g4 m' w' := by
        intro v' g' w' l2 r2 w2
        obtain ⟨g3, l3, w3, r3⟩ := fzr_sound w2 r2
        obtain ⟨g4, l4, r4, w4⟩ := gcw_sound w1 hv1 vm (l2.trans l3) w3 r3 e
        exact ⟨g4, l1.trans l4, r4, w4⟩
      rcases t.sound B W _ _ _ _ hr hv1 g1 w vals k1 w1 with ⟨h2, h3⟩ | ⟨v', g', w', h2, h3, h4, h5⟩
      · refine .inl ⟨h2, h3.mono fun e w' ⟨v', g', h4, h5, h6, h7⟩ => ?_⟩
        obtain ⟨g4, a, b, c⟩ := fin v' g' w' h5 h6 h7
        exact ⟨v', g4, h4, a, b, c⟩
      · obtain ⟨g4, a, b, c⟩ := fin v' g' w' h3 h4 h5
        exact .inr ⟨v', g4, w', h2, a, b, c⟩
    · cases e
  · unfold fzH at e
    split at e
    · rename_i r hr
      exact (VM.fzvs args m).trans (VM.gcw ((t.ver _ _ _ _ hr).trans (VM.fzr r.2 r.1)) e)
    · cases e
end Go.V
