import Derived.Test.YtnhcmcfgemoehaaGreatYRef2
import Derived.Test.YtnhcmcfgemoehaaGreatYParts
import Derived.Test.YtnhcmcfgemoehaaGreatVK
/- What is used again and again: what stays, what is told of a call, slices of one's own. -/
set_option linter.unusedSimpArgs false
set_option linter.unusedVariables false
set_option linter.unusedSectionVars false
namespace Go.V
variable {P : Program} {cfg : Cfg}
/-- A call that leaves memory as it was: what it gives has a property. -/
theorem eh_ex {f : FuncId} {fn : Func} {c : Code} {args args1 : List AV} {R : AV → Prop} {m m1 : Mem} (hf : P.funcs[f]? = some fn) (hb : fn.body = some c) (hk : cfg.hook f = none) (hka : cfg.keepArgs f = false) (hg : cfg.gc f = 1) (hz : fzvs m args = (args1, m1)) (hr : ∀ r, R r → r.bel m1.next = true) (hn : fn.name ≠ "runtime.NumGoroutine") (hl : args.length ≤ fn.ntmps)
    (h : go P cfg fn.ntmps (leave P (cfg.keepRes f) fn.results.toList (fun v m' => R v ∧ Kp m1 m')) [.code c] (Sl.putAll .nil 0 args1) m1) : ∃ r, R r ∧ EH P cfg (.func f) args m r m1 := by
  have : wph P cfg (.func f) args m fun v m' => R v ∧ m' = m1 := by
    refine wph_func hf hb hk hn hl ?_
    rw [hka, hg]
    simp only [Bool.false_eq_true, if_false, hz]
    refine wpc_conv h ?_
    rintro e s' m' ⟨h2, vs, h3, h4, h5⟩
    exact ⟨h2, vs, h3, gcK_1 (hr _ h4) h5 ⟨h4, rfl⟩⟩
  obtain ⟨v, m', h1, h2, rfl⟩ := this
  exact ⟨v, h2, h1⟩

/-- What is handed in becomes lists that never change. -/
theorem eh_fz {f : FuncId} {fn : Func} {c : Code} {args args0 : List AV} {m0 m m' : Mem} {r : AV} (hf : P.funcs[f]? = some fn) (hb : fn.body = some c) (hk : cfg.hook f = none) (hka : cfg.keepArgs f = false) (hz0 : fzvs m0 args0 = (args, m)) (hz : fzvs m args = (args, m)) (h : EH P cfg (.func f) args m r m') : EH P cfg (.func f) args0 m0 r m' := by
  obtain ⟨n, hn⟩ := h.one
  have hlen : args.length = args0.length := by rw [← fzvs_length args0 m0, hz0]
  refine .of (n := n) ?_
  cases n with
  | zero => cases hn
  | succ n =>
    simp only [afn, hk, abody, hf, hb, hka, Bool.false_eq_true, if_false, hz0, hz, hlen] at hn ⊢
    exact hn

theorem wph_fz {f : FuncId} {fn : Func} {c : Code} {args args0 : List AV} {m0 m : Mem} {K : AV → Mem → Prop} (hf : P.funcs[f]? = some fn) (hb : fn.body = some c) (hk : cfg.hook f = none) (hka : cfg.keepArgs f = false) (hz0 : fzvs m0 args0 = (args, m)) (hz : fzvs m args = (args, m)) (h : wph P cfg (.func f) args m K) : wph P cfg (.func f) args0 m0 K := by
  obtain ⟨v, m', h1, h2⟩ := h
  exact ⟨v, m', eh_fz hf hb hk hka hz0 hz h1, h2⟩

/-- A part whose end is told by facts. -/
theorem goB_cut {P : Program} {cfg : Cfg} {N : Nat} {Q : Ex → Sl → Mem → Prop} {t : Bool} {x y : Code} {k : List It} {s : Sl} {m : Mem} (A : Sl → Mem → Prop) (h1 : t = true → ∀ k', (∀ s' m', A s' m' → go P cfg N Q k' s' m') → go P cfg N Q (.code x :: k') s m) (h2 : t = false → ∀ k', (∀ s' m', A s' m' → go P cfg N Q k' s' m') → go P cfg N Q (.code y :: k') s m) (h3 : ∀ s' m', A s' m' → go P cfg N Q k s' m') : goB P cfg N Q (.sc (.bool t)) x y k s m := by
  cases t
  · exact h2 rfl k h3
  · exact h1 rfl k h3

end Go.V
namespace Go.Proofs.YtnhcmcfgemoehaaGreat
set_option maxRecDepth 4000
open Go.V
attribute [local simp] Nat.add_assoc

structure KpC (X : Nat → Prop) (m m' : Mem) : Prop where
  next : m.next ≤ m'.next
  get : ∀ id, id < m.next → ¬ X id → m'.get id = m.get id
  x : ∀ id, id < m.next → ¬ X id → m'.loop id = m.loop id ∧ m'.map id = m.map id

theorem KpC.refl (X : Nat → Prop) (m : Mem) : KpC X m m := ⟨Nat.le_refl _, fun _ _ _ => rfl, fun _ _ _ => ⟨rfl, rfl⟩⟩

theorem KpC.trans {X : Nat → Prop} {a b c : Mem} (h : KpC X a b) (k : KpC X b c) : KpC X a c := ⟨Nat.le_trans h.next k.next, fun id hi hx => (k.get id (Nat.lt_of_lt_of_le hi h.next) hx).trans (h.get id hi hx), fun id hi hx => ⟨(k.x id (Nat.lt_of_lt_of_le hi h.next) hx).1.trans (h.x id hi hx).1, (k.x id (Nat.lt_of_lt_of_le hi h.next) hx).2.trans (h.x id hi hx).2⟩⟩

theorem KpC.of {X : Nat → Prop} {a b : Mem} (h : KpX X a b) : KpC X a b := ⟨h.next, h.get, fun id hi _ => h.x id hi⟩

theorem KpC.mono {X Y : Nat → Prop} {a b : Mem} (h : KpC X a b) (k : ∀ j, X j → Y j) : KpC Y a b := ⟨h.next, fun id hi hx => h.get id hi fun x => hx (k id x), fun id hi hx => h.x id hi fun x => hx (k id x)⟩

theorem has.kc {X : Nat → Prop} {m m' : Mem} {id : Nat} {cs : List AV} (h : has m id cs) (k : KpC X m m') (hx : ¬ X id) : has m' id cs := ⟨Nat.lt_of_lt_of_le h.1 k.next, by rw [k.get id h.1 hx]; exact h.2⟩

theorem kpc_kp {X : Nat → Prop} {m0 a b : Mem} (h : KpC X a b) (k : Kp m0 a) (hx : ∀ j, X j → m0.next ≤ j) : Kp m0 b :=
  ⟨Nat.le_trans k.next h.next, fun id hi => (h.get id (Nat.lt_of_lt_of_le hi k.next) (fun x => by have := hx id x; omega)).trans (k.get id hi), fun id hi => have q := h.x id (Nat.lt_of_lt_of_le hi k.next) (fun x => by have := hx id x; omega); ⟨q.1.trans (k.x id hi).1, q.2.trans (k.x id hi).2⟩⟩

theorem KpC.cut {Y : Nat → Prop} {m m' : Mem} (h : KpC (fun i => Y i ∨ m.next ≤ i) m m') : KpC Y m m' := ⟨h.next, fun id hi hx => h.get id hi (fun q => q.elim hx fun q => by omega), fun id hi hx => h.x id hi (fun q => q.elim hx fun q => by omega)⟩

theorem kc_set (B : Nat) (cs : List AV) (m : Mem) : KpC (fun i => i = B) m (m.set B cs) := ⟨by simp, fun id hi hx => by simp [show id ≠ B from hx], fun id hi hx => by simp⟩

theorem acc_keptC {X : Nat → Prop} {m0 m m' : Mem} {k : Nat} {ag : Bool} {ys : List AV} {v : AV} (h : Acc m0 m k ag ys v) (kx : KpC X m m') (hx : ∀ j, owns v j → ¬ X j) : Acc m0 m' k ag ys v := by
  rcases h with h | ⟨h, id, w, rfl, h2, h3, h4⟩
  · exact .inl h
  · exact .inr ⟨h, id, w, rfl, h2, Nat.lt_of_lt_of_le h3 kx.next, by rw [kx.get id h3 (hx id rfl)]; exact h4⟩

/-- An append to a slice of one's own, whatever is appended. -/
theorem acc_any {m0 m : Mem} {T : TypeId} {k : Nat} {ag : Bool} {ys zs : List AV} {v : AV} (h : Acc m0 m k ag ys v) (h0 : m0.next ≤ m.next) (hy : okAll k ys = true) (el : ElemOf Tryz.prog T k ag) (ho : okAll k zs = true) (hf : fzx Tryz.prog T m zs = (zs, m)) (hb : ys.length + zs.length ≤ 2 ^ 26) :
    ∃ v' m3, aappend Tryz.prog T v none (some zs) m = some (v', m3) ∧ Acc m0 m3 k ag (ys ++ zs) v' ∧ KpC (owns v) m m3 ∧ (∀ j, owns v' j → owns v j ∨ m.next ≤ j) := by
  cases zs with
  | nil =>
    refine ⟨v, m, aapp_none el ?_, by simpa using h, .refl _ _, fun j h => .inl h⟩
    rcases h with ⟨_, rfl⟩ | ⟨_, id, w, rfl, _⟩
    · exact .inl ⟨_, rfl⟩
    · exact .inr ⟨_, _, _, _, _, _, rfl⟩
  | cons z zs =>
    obtain ⟨m3, a1, a2, ⟨w, a3⟩, a4, a5⟩ := acc_app2 h hy el (zs := z :: zs) (zs' := z :: zs) (List.cons_ne_nil _ _) ho hf (.refl m) hb
    refine ⟨_, m3, a1, .inr ⟨by simp, m.next, w, by simp, h0, by omega, a3⟩, ⟨by omega, fun j hj hx => a4 j hj hx, fun j hj hx => a5 j hj⟩, ?_⟩
    rintro j rfl
    exact .inr (Nat.le_refl _)

/-- An append to a slice of one's own, of what is a list from then on. -/
theorem acc_appX {X : Nat → Prop} {m0 m m2 : Mem} {T : TypeId} {k : Nat} {ag : Bool} {ys zs zs' : List AV} {v : AV} (h : Acc m0 m k ag ys v) (h0 : m0.next ≤ m.next) (hy : okAll k ys = true) (el : ElemOf Tryz.prog T k ag) (hz : zs ≠ []) (ho : okAll k zs = true) (hf : fzx Tryz.prog T m zs = (zs', m2)) (kc : KpC X m m2) (hx : ∀ j, owns v j → ¬ X j) (hb : ys.length + zs.length ≤ 2 ^ 26) :
    ∃ v' m3, aappend Tryz.prog T v none (some zs) m = some (v', m3) ∧ Acc m0 m3 k ag (ys ++ zs') v' ∧ KpC (fun j => owns v j ∨ X j) m m3 := by
  have hlen : zs'.length = zs.length := by rw [← fzx_length Tryz.prog T zs m, hf]
  have hz' : zs' ≠ [] := fun e => hz (List.eq_nil_of_length_eq_zero (by rw [← hlen, e]; rfl))
  have n2 := kc.next
  rcases h with ⟨rfl, rfl⟩ | ⟨h, id, w, rfl, h2, h3, h4⟩
  · have e := aapp_emp (n := 0) (by omega) el hz ho hf (by simp at hb; omega)
    refine ⟨_, _, e, .inr ⟨by simpa using hz', m2.next, m2.clock + 1, by simp [hlen], by omega, by simp, by simp⟩, (kc.mono fun j h => .inr h).trans (.of (.of (.new _ _ _)))⟩
  · have h5 : m2.get id = some (.cells (flat ys) false w) := by rw [kc.get id h3 (hx id rfl)]; exact h4
    refine ⟨_, _, aapp_row el hz ho hf h5 (flat_length hy) hb, .inr ⟨by simp [h], m2.next, m2.clock + 1, by simp [hlen], by omega, by simp, by simp [flat_append]⟩, (kc.mono fun j h => .inr h).trans ⟨by simp, fun j hj hn => ?_, fun j hj hn => by simp⟩⟩
    have a1 : j ≠ m2.next := by omega
    have a2 : j ≠ id := fun e => hn (.inl e.symm)
    simp [a1, a2, Ne.symm a2]

theorem flat_at {k : Nat} : ∀ {ys : List AV} {j : Nat} {y : AV}, okAll k ys = true → ys[j]? = some y → j * k + k ≤ (flat ys).length ∧ ((flat ys).drop (j * k)).take k = y.cells
  | [], j, y, _, h => by simp at h
  | a :: ys, 0, y, ho, h => by
    rw [okAll_cons] at ho
    simp at ho h
    subst h
    rw [flat_cons]
    refine ⟨by simp; omega, ?_⟩
    simp only [Nat.zero_mul, List.drop_zero]
    rw [List.take_append_of_le_length (by omega), List.take_of_length_le (by omega)]
  | a :: ys, j + 1, y, ho, h => by
    rw [okAll_cons] at ho
    simp at ho h
    obtain ⟨h1, h2⟩ := flat_at ho.2 h
    rw [flat_cons]
    have e : (j + 1) * k = a.cells.length + j * k := by rw [ho.1.2, Nat.succ_mul]; omega
    rw [e]
    refine ⟨by rw [List.length_append]; omega, ?_⟩
    rw [List.drop_append, List.drop_eq_nil_of_le (by omega), List.nil_append, show a.cells.length + j * k - a.cells.length = j * k by omega, h2]

/-- A list, or a slice that was made since a memory. -/
def Lv (m0 m : Mem) (k : Nat) (ag : Bool) (ys : List AV) (v : AV) : Prop := (∃ n, n ≤ 1 ∧ ys = [] ∧ v = .emp n) ∨ v = .lst ys ∨ ∃ id w c, v = .sl id 0 ys.length k ag c ∧ m0.next ≤ id ∧ id < m.next ∧ m.get id = some (.cells (flat ys) false w)

theorem Lv.keep {X : Nat → Prop} {m0 m m' : Mem} {k : Nat} {ag : Bool} {ys : List AV} {v : AV} (h : Lv m0 m k ag ys v) (kc : KpC X m m') (hx : ∀ j, owns v j → ¬ X j) : Lv m0 m' k ag ys v := by
  rcases h with h | h | ⟨id, w, c, rfl, h2, h3, h4⟩
  · exact .inl h
  · exact .inr (.inl h)
  · exact .inr (.inr ⟨id, w, c, rfl, h2, Nat.lt_of_lt_of_le h3 kc.next, by rw [kc.get id h3 (hx id rfl)]; exact h4⟩)

theorem Lv.lt {m0 m : Mem} {k : Nat} {ag : Bool} {ys : List AV} {v : AV} (h : Lv m0 m k ag ys v) : ∀ j, owns v j → m0.next ≤ j ∧ j < m.next := by
  rcases h with ⟨n, _, _, rfl⟩ | rfl | ⟨id, w, c, rfl, h2, h3, h4⟩
  · intro j hj; exact hj.elim
  · intro j hj; exact hj.elim
  · rintro j rfl; exact ⟨h2, h3⟩

theorem Lv.back {m0 m m' : Mem} {k : Nat} {ag : Bool} {ys : List AV} {v : AV} (h : Lv m m' k ag ys v) (hk : m0.next ≤ m.next) : Lv m0 m' k ag ys v := by
  rcases h with h | h | ⟨id, w, c, h1, h2, h3⟩
  · exact .inl h
  · exact .inr (.inl h)
  · exact .inr (.inr ⟨id, w, c, h1, Nat.le_trans hk h2, h3⟩)

theorem Lv.okc {m0 m : Mem} {k : Nat} {ag : Bool} {ys : List AV} {v : AV} (h : Lv m0 m k ag ys v) : v.okc = true ∧ v.cells = [v] := by
  rcases h with ⟨n, _, _, rfl⟩ | rfl | ⟨id, w, c, rfl, _⟩ <;> exact ⟨rfl, rfl⟩

theorem Lv.fz {m0 m : Mem} {k : Nat} {ag : Bool} {ys : List AV} {v : AV} (h : Lv m0 m k ag ys v) (ha : (ag || k == 1) = true) (hy : ∀ y ∈ ys, y.cells.length = k ∧ (if ag then AV.agg y.cells = y else y.cells = [y])) (ho : okAll k ys = true) : ∃ m2, fz1 m v = (.lst ys, m2) ∧ KpC (owns v) m m2 := by
  rcases h with ⟨n, hn, rfl, rfl⟩ | rfl | ⟨id, w, c, rfl, h2, h3, h4⟩
  · have : n = 0 ∨ n = 1 := by omega
    rcases this with rfl | rfl <;> exact ⟨m, rfl, .refl _ _⟩
  · exact ⟨m, rfl, .refl _ _⟩
  · refine ⟨_, fz1_row ha h4 hy ho, ⟨Nat.le_of_eq (Mem.next_mark _ _ _ _).symm, fun j hj hn => by rw [Mem.get_mark, if_neg (fun e => hn e.symm)], fun j hj hn => by simp⟩⟩

theorem Lv.len {m0 m m' : Mem} {k T e : Nat} {ag : Bool} {ys : List AV} {v : AV} {R : TypeId} (h : Lv m0 m k ag ys v) (hT : Tryz.prog.underlying T = some (.slice e)) : abuiltin Tryz.prog .len #[T] R [v] m' = some (int ys.length, m') := by
  rcases h with ⟨n, _, rfl, rfl⟩ | rfl | ⟨id, w, c, rfl, _⟩
  · exact alen_emp hT
  · exact alen_lst hT
  · exact alen_sl hT

end Go.Proofs.YtnhcmcfgemoehaaGreat
