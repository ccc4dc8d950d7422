/- Appending, as it comes up. -/
import Derived.Test.YtipmoeclkamciaaVFrame
set_option linter.unusedSimpArgs false
set_option linter.unusedVariables false
set_option linter.unusedSectionVars false
namespace Go.V
variable {P : Program} {cfg : Cfg}

/-- A slice type: its elements have k cells, and not too many bytes. -/
structure ElemOf (P : Program) (T : TypeId) (k : Nat) (ag : Bool) : Prop where
  ex : ∃ e b z, telem P T = some e ∧ tsize P e = some k ∧ tbytes P e = some b ∧ tzero P e = some z ∧ tagg P e = some ag ∧ z.cells.length = k ∧ b ≤ 2 ^ 16 ∧ z.okc = true
  pos : 0 < k

def okAll (k : Nat) (ys : List AV) : Bool := ys.all fun v => v.okc && v.cells.length == k
theorem okAll_nil {k : Nat} : okAll k [] = true := rfl
theorem okAll_cons {k : Nat} {y : AV} {ys : List AV} : okAll k (y :: ys) = (y.okc && y.cells.length == k && okAll k ys) := by simp [okAll]
theorem flat_length {k : Nat} : ∀ {ys : List AV}, okAll k ys = true → (flat ys).length = ys.length * k
  | [], _ => by simp [flat]
  | y :: ys, h => by
    rw [okAll_cons] at h
    simp only [Bool.and_eq_true, beq_iff_eq] at h
    have := flat_length (ys := ys) h.2
    simp only [flat, List.flatMap_cons, List.length_append, List.length_cons, h.1.2, Nat.succ_mul]
    simp only [flat] at this
    omega
theorem flat_cons {x : AV} {l : List AV} : flat (x :: l) = x.cells ++ flat l := by simp [flat]
theorem flat_nil : flat [] = [] := rfl
theorem flat_append {x l : List AV} : flat (x ++ l) = flat x ++ flat l := by simp [flat]

section
variable {T : TypeId} {k : Nat} {ag ag' : Bool} {ys ys' : List AV} {m m' : Mem}
theorem aapp_none {s : AV} (h : ElemOf P T k ag) (hs : (∃ n, s = .emp n) ∨ ∃ id off len q g c, s = .sl id off len q g c) : aappend P T s none (some []) m = some (s, m) := by
  obtain ⟨⟨e, b, z, h1, h2, h3, h4, h5, h6, h7, _⟩, hk⟩ := h
  unfold aappend
  simp only [h1, h2, h3, h4, h5]
  rw [if_pos ⟨hk, h6, rfl⟩]
  rcases hs with ⟨n, rfl⟩ | ⟨id, off, len, q, g, c, rfl⟩ <;> rfl
theorem aapp_emp {n : Nat} (hn : n ≤ 1) (h : ElemOf P T k ag) (hy : ys ≠ []) (ho : okAll k ys = true) (hf : fzvs m ys = (ys', m')) (hb : ys.length ≤ 2 ^ 26) : aappend P T (.emp n) none (some ys) m = some (.sl m'.next 0 ys.length k ag none, m'.new (flat ys') false) := by
  obtain ⟨⟨e, b, z, h1, h2, h3, h4, h5, h6, h7, _⟩, hk⟩ := h
  have hlen : ys'.length = ys.length := by rw [← fzvs_length ys m, hf]
  have hm : ys.length * b ≤ 2 ^ 26 * 2 ^ 16 := Nat.mul_le_mul hb h7
  unfold aappend
  simp only [h1, h2, h3, h4, h5]
  rw [if_pos ⟨hk, h6, ho⟩]
  cases ys with
  | nil => exact absurd rfl hy
  | cons y ys =>
    simp only [hf, hlen]
    have hn' : n = 0 ∨ n = 1 := by omega
    rcases hn' with rfl | rfl
    all_goals
      simp only []
      rw [if_pos ⟨by omega, by omega⟩]
theorem aapp_row {id len v : Nat} {cs : List AV} (h : ElemOf P T k ag) (hy : ys ≠ []) (ho : okAll k ys = true) (hf : fzvs m ys = (ys', m')) (hg : m'.get id = some (.cells cs false v)) (hc : cs.length = len * k) (hb : len + ys.length ≤ 2 ^ 26) :
    aappend P T (.sl id 0 len k ag' none) none (some ys) m = some (.sl m'.next 0 (len + ys.length) k ag none, (m'.kill id).new (cs ++ flat ys') false) := by
  obtain ⟨⟨e, b, z, h1, h2, h3, h4, h5, h6, h7, _⟩, hk⟩ := h
  have hlen : ys'.length = ys.length := by rw [← fzvs_length ys m, hf]
  have hm : (len + ys.length) * b ≤ 2 ^ 26 * 2 ^ 16 := Nat.mul_le_mul hb h7
  unfold aappend
  simp only [h1, h2, h3, h4, h5]
  rw [if_pos ⟨hk, h6, ho⟩]
  cases ys with
  | nil => exact absurd rfl hy
  | cons y ys =>
    simp only [hf, hlen, hg]
    have hlt : ¬ (0 + (len + (y :: ys).length) * k ≤ cs.length) := by
      rw [hc, Nat.zero_add, Nat.add_mul]
      have : 0 < (y :: ys).length * k := Nat.mul_pos (by simp) hk
      omega
    rw [if_pos ⟨trivial, by omega, by omega, by omega⟩, if_neg (by simp [full]), if_neg hlt, if_pos (by simp)]
    have e1 : (cs.drop 0).take (len * k) = cs := by rw [List.drop_zero, List.take_of_length_le (by omega)]
    rw [e1]
theorem aapp_full {id v : Nat} (h : ElemOf P T k ag) (hy : ys ≠ []) (ho : okAll k ys = true) (hf : fzvs m ys = (ys', m')) (hg : m'.get id = some (.cells [] false v)) (hb : ys.length ≤ 2 ^ 26) :
    aappend P T (.sl id 0 0 k ag' (some 0)) none (some ys) m = some (.sl m'.next 0 ys.length k ag none, m'.new (flat ys') false) := by
  obtain ⟨⟨e, b, z, h1, h2, h3, h4, h5, h6, h7, _⟩, hk⟩ := h
  have hlen : ys'.length = ys.length := by rw [← fzvs_length ys m, hf]
  have hm : ys.length * b ≤ 2 ^ 26 * 2 ^ 16 := Nat.mul_le_mul hb h7
  unfold aappend
  simp only [h1, h2, h3, h4, h5]
  rw [if_pos ⟨hk, h6, ho⟩]
  cases ys with
  | nil => exact absurd rfl hy
  | cons y ys =>
    simp only [hf, hlen, hg, Nat.zero_add, Nat.zero_mul]
    rw [if_pos ⟨trivial, by omega, by omega, by simp⟩, if_pos (by simp [full])]
    simp
end

/-- What a slice type's text says. -/
theorem nilTest_cons {T e : TypeId} (h : P.underlying T = some (.slice e)) {x : AV} {l : List AV} : nilTest P T (.lst (x :: l)) (.emp 0) = some false := by simp [nilTest, h]
/-- Frozen, a list that is alone in its object. -/
theorem chunk_flat {k : Nat} {ag : Bool} (hk : (ag || k == 1) = true) : ∀ (ys : List AV), (∀ y ∈ ys, y.cells.length = k ∧ (if ag then AV.agg y.cells = y else y.cells = [y])) → chunk k ag ys.length (flat ys) = ys
  | [], _ => rfl
  | y :: ys, h => by
    obtain ⟨h1, h2⟩ := h y (by simp)
    have ih := chunk_flat hk ys fun y hy => h y (by simp [hy])
    simp only [List.length_cons, chunk, flat_cons]
    have e1 : (y.cells ++ flat ys).drop k = flat ys := by rw [← h1]; simp
    rw [e1, ih]
    congr 1
    cases ag with
    | true =>
      simp only [if_true] at h2 ⊢
      rw [← h1]
      simp [h2]
    | false =>
      simp only [Bool.false_eq_true, if_false] at h2 ⊢
      rw [h2]
      rfl
theorem fz1_row {m : Mem} {id k : Nat} {ag : Bool} {cap : Option Nat} {ys : List AV} {v : Nat} {f : Bool} (hk : (ag || k == 1) = true) (hg : m.get id = some (.cells (flat ys) f v)) (hy : ∀ y ∈ ys, y.cells.length = k ∧ (if ag then AV.agg y.cells = y else y.cells = [y])) (ho : okAll k ys = true) :
    fz1 m (.sl id 0 ys.length k ag cap) = (.lst ys, m.mark id (flat ys) v) := by
  simp only [fz1, hg]
  rw [if_pos ⟨by rw [flat_length ho]; omega, hk⟩, List.drop_zero, chunk_flat hk ys hy]

/-- slices.Clone of a list that never changes is it. -/
theorem clone_lst {f : FuncId} {m : Mem} {ys : List AV} (hk : cfg.hook f = some (cloneP P f)) (hb : AV.bels m.next ys = true) (h : ∀ x l, ys = x :: l → ∃ m', EH P cf0 (.func f) [.lst ys] m (.lst ys) m' ∧ Kp m m' ∨ ∃ k ag id v, EH P cf0 (.func f) [.lst ys] m (.sl id 0 ys.length k ag none) m' ∧ Kp m m' ∧ m.next ≤ id ∧ m'.get id = some (.cells (flat ys) false v) ∧ (ag || k == 1) = true ∧ (∀ y ∈ ys, y.cells.length = k ∧ (if ag then AV.agg y.cells = y else y.cells = [y])) ∧ okAll k ys = true) :
    EH P cfg (.func f) [.lst ys] m (.lst ys) m := by
  refine eh_hook hk ?_
  have hz : fzvs m [.lst ys] = ([.lst ys], m) := rfl
  unfold cloneP
  rw [hz]
  have fin : ∀ m', Kp m m' → gcw 1 m (.lst ys, m') = some (.lst ys, m) := by
    intro m' hk
    simp only [gcw]
    rw [if_pos]
    simp only [Bool.and_eq_true, List.all_eq_true, List.mem_range]
    exact ⟨by simpa [AV.bel] using hb, fun id hi => by rw [hk.get id hi]; exact sameO_refl _⟩
  cases ys with
  | nil =>
    have : cloneL P f [.lst []] m = some (.emp 1, m.skip) := rfl
    rw [this]
    exact fin _ (by unfold Mem.skip; exact (Kp.new _ _ _).kill (Nat.le_refl _))
  | cons x l =>
    obtain ⟨m', h1⟩ := h x l rfl
    have e1 : cloneL P f [.lst (x :: l)] m = lim P cf0 (.func f) [.lst (x :: l)] m := rfl
    rcases h1 with ⟨h1, h2⟩ | ⟨k, ag, id, v, h1, h2, h3, h4, h5, h6, h7⟩
    · rw [e1, lim_eq h1]
      exact fin _ h2
    · rw [e1, lim_eq h1]
      simp only [fzr_sl]
      rw [fz1_row h5 h4 h6 h7]
      exact fin _ (h2.mark h3 _ _)

theorem Mem.clock_new {m : Mem} {cs : List AV} {f : Bool} : (m.new cs f).clock = m.clock + 1 := Eq.trans rfl rfl
theorem Mem.clock_set {m : Mem} {id : Nat} {cs : List AV} : (m.set id cs).clock = m.clock + 1 := Eq.trans rfl rfl
theorem Mem.clock_kill {m : Mem} {id : Nat} : (m.kill id).clock = m.clock := Eq.trans rfl rfl
theorem Mem.clock_mark {m : Mem} {id v : Nat} {cs : List AV} : (m.mark id cs v).clock = m.clock := Eq.trans rfl rfl
attribute [simp] Mem.clock_new Mem.clock_set Mem.clock_kill Mem.clock_mark

/-- The elements of a slice that was made of one. -/
theorem src_one {m : Mem} {id k w : Nat} {ag f : Bool} {c : Option Nat} {x : AV} (hk : (ag || k == 1) = true) (hg : m.get id = some (.cells x.cells f w)) (h : x.cells.length = k) (hx : if ag then AV.agg x.cells = x else x.cells = [x]) : srcOf m (.sl id 0 1 k ag c) = some [x] := by
  simp only [srcOf, elemsOf, hg]
  rw [if_pos ⟨by omega, hk⟩]
  simp only [chunk, List.drop_zero]
  cases ag with
  | true => simp only [if_true] at hx ⊢; rw [← h]; simp [hx]
  | false => simp only [Bool.false_eq_true, if_false] at hx ⊢; rw [hx]; rfl

/-- A slice that a call fills, from nil on. -/
def Acc (m m' : Mem) (k : Nat) (ag : Bool) (ys : List AV) (v : AV) : Prop := (ys = [] ∧ v = .emp 0) ∨ (ys ≠ [] ∧ ∃ id w, v = .sl id 0 ys.length k ag none ∧ m.next ≤ id ∧ id < m'.next ∧ m'.get id = some (.cells (flat ys) false w))
theorem Acc.nil {m m' : Mem} {k : Nat} {ag : Bool} : Acc m m' k ag [] (.emp 0) := .inl ⟨rfl, rfl⟩
theorem Acc.kp {m m' m2 : Mem} {k : Nat} {ag : Bool} {ys : List AV} {v : AV} (h : Acc m m' k ag ys v) (hk : Kp m' m2) : Acc m m2 k ag ys v := by
  rcases h with h | ⟨h, id, w, h1, h2, h3, h4⟩
  · exact .inl h
  · exact .inr ⟨h, id, w, h1, h2, Nat.lt_of_lt_of_le h3 hk.next, by rw [hk.get id h3]; exact h4⟩
theorem Acc.app {T : TypeId} {m m' m2 : Mem} {k : Nat} {ag : Bool} {ys zs zs' : List AV} {v : AV} (h : Acc m m' k ag ys v) (hy : okAll k ys = true) (el : ElemOf P T k ag) (hz : zs ≠ []) (ho : okAll k zs = true) (hf : fzvs m' zs = (zs', m2)) (hm2 : Kp m' m2) (hb : ys.length + zs.length ≤ 2 ^ 26) (hk : Kp m m') (hl : zs'.length = zs.length) :
    ∃ v' m3, aappend P T v none (some zs) m' = some (v', m3) ∧ Acc m m3 k ag (ys ++ zs') v' ∧ Kp m m3 := by
  have hne : zs' ≠ [] := by intro e; rw [e] at hl; cases zs with | nil => exact hz rfl | cons a b => cases hl
  rcases h with ⟨rfl, rfl⟩ | ⟨h, id, w, rfl, h2, h3, h4⟩
  · refine ⟨_, _, aapp_emp (by omega) el hz ho hf (by simp at hb; omega), .inr ⟨by simpa using hne, m2.next, m2.clock + 1, by simp [hl], (hk.trans hm2).next, by simp, by simp⟩, (hk.trans hm2).newr _ _⟩
  · have h5 : m2.get id = some (.cells (flat ys) false w) := by rw [hm2.get id h3]; exact h4
    refine ⟨_, _, aapp_row el hz ho hf h5 (flat_length hy) hb, .inr ⟨by simp [h], m2.next, m2.clock + 1, by simp [hl], (hk.trans hm2).next, by simp, by simp [flat_append]⟩, ((hk.trans hm2).kill h2).newr _ _⟩
theorem Acc.fz {m m' : Mem} {k : Nat} {ag : Bool} {ys : List AV} {v : AV} (h : Acc m m' k ag ys v) (hk : Kp m m') (ha : (ag || k == 1) = true) (hy : ∀ y ∈ ys, y.cells.length = k ∧ (if ag then AV.agg y.cells = y else y.cells = [y])) (ho : okAll k ys = true) : ∃ m2, fz1 m' v = (.lst ys, m2) ∧ Kp m m2 := by
  rcases h with ⟨rfl, rfl⟩ | ⟨h, id, w, rfl, h2, h3, h4⟩
  · exact ⟨m', rfl, hk⟩
  · exact ⟨_, fz1_row ha h4 hy ho, hk.mark h2 _ _⟩
theorem Acc.okc {m m' : Mem} {k : Nat} {ag : Bool} {ys : List AV} {v : AV} (h : Acc m m' k ag ys v) : v.okc = true ∧ v.cells = [v] := by
  rcases h with ⟨rfl, rfl⟩ | ⟨h, id, w, rfl, h2, h3, h4⟩ <;> exact ⟨rfl, rfl⟩
theorem Acc.fzr {m m' : Mem} {k : Nat} {ag : Bool} {ys : List AV} {v : AV} (h : Acc m m' k ag ys v) : fzr m' v = fz1 m' v := by
  rcases h with ⟨rfl, rfl⟩ | ⟨h, id, w, rfl, h2, h3, h4⟩ <;> rfl

theorem goM_of {N : Nat} {Q : Ex → Sl → Mem → Prop} {all : Array Oper} {f : Nat × Nat → Bool} {k : List It} {s : Sl} {m : Mem} {l : List (Nat × Nat)} (h : metL all = l) (h1 : l.all f = true) (h2 : go P cfg N Q k s m) : goM P cfg N Q ((metL all).all f) k s m := by rw [h]; exact ⟨h1, h2⟩

theorem aresult_nil {s : Sl} {m : Mem} : aresult P s m [] = some [] := Eq.trans rfl rfl
theorem aresult_tmp {s : Sl} {m : Mem} {t : Nat} {r : List ResultVar} : aresult P s m (.tmp t :: r) = (aresult P s m r).map (s.at t :: ·) := Eq.trans rfl rfl
theorem aresult_cell {s : Sl} {m : Mem} {t : Nat} {T : TypeId} {r : List ResultVar} : aresult P s m (.cell t T :: r) = (aload P T (s.at t) m).bind fun v => (aresult P s m r).map (v :: ·) := by
  simp only [aresult]
  cases aload P T (s.at t) m <;> cases aresult P s m r <;> rfl
theorem leave_cell {t : Nat} {T : TypeId} {r : List ResultVar} {K : AV → Mem → Prop} {s : Sl} {m : Mem} : leave P false (.cell t T :: r) K .ret s m = ∃ vs, aresult P s m (.cell t T :: r) = some vs ∧ K (fzr m (oneOf vs)).1 (fzr m (oneOf vs)).2 := by simp [leave]
theorem leave_none {K : AV → Mem → Prop} {s : Sl} {m : Mem} {e : Ex} (he : e = .normal ∨ e = .ret) : leave P false [] K e s m = K (.tup []) m := by simp [leave, aresult, oneOf, fzr, fzvs, he]
theorem oneOf_one {v : AV} : oneOf [v] = v := Eq.trans rfl rfl
theorem oneOf_two {v w : AV} : oneOf [v, w] = .tup [v, w] := Eq.trans rfl rfl
theorem oneOf_three {v w x : AV} : oneOf [v, w, x] = .tup [v, w, x] := Eq.trans rfl rfl
attribute [simp] aresult_nil aresult_tmp aresult_cell leave_cell oneOf_one oneOf_two oneOf_three

section
variable {T u R e : TypeId} {s x : AV} {m : Mem}
theorem abuiltin_app (hu : P.underlying u = some (.slice e)) : abuiltin P .append #[T, u] R [s, x] m = aappend P T s none (srcOf m x) m := by
  unfold abuiltin
  simp [hu]
theorem abuiltin_apps (hu : P.underlying u = some .string) : abuiltin P .append #[T, u] R [s, x] m = aappend P T s none (srcOf m x) m := by
  unfold abuiltin
  simp [hu]
theorem abuiltin_appn {k : IntKind} (hu : P.underlying u = some (.int k)) {n : Nat} (hn : n ≤ 2 ^ 40) : abuiltin P .append #[T, u] R [s, .sc (.int .i64 n)] m = aappend P T s (some n) none m := by
  have h1 : (0 : Int) ≤ n ∧ (n : Int) ≤ 2 ^ 40 := ⟨by omega, by omega⟩
  unfold abuiltin
  simp only [List.getElem?_toArray, List.getElem?_cons_zero, List.getElem?_cons_succ, hu]
  rw [if_pos h1, Int.toNat_natCast]
theorem aappend_zeros {n : Nat} {z : AV} (h : telem P T = some e) (hz : tzero P e = some z) : aappend P T s (some n) none m = aappend P T s none (some (List.replicate n z)) m := by
  unfold aappend
  simp only [h, hz, Option.map_some]
theorem abuiltin_copy {args : List AV} {ts : Array TypeId} {d x : AV} : abuiltin P .copy #[T, u] R [d, x] m = acopy P T d x m := by
  unfold abuiltin
  simp
theorem acap_emp {b : Nat} (hu : P.underlying T = some (.slice e)) (hb : b ≤ 1) : abuiltin P .cap #[T] R [.emp b] m = some (.sc (.int .i64 0), m) := by
  show (if b ≤ 1 ∧ (telem P T).isSome then _ else _ : Option AV).map (·, m) = _
  simp [telem, hu, hb, goInt]
theorem acap_sl {id off len k c : Nat} {ag : Bool} (hu : P.underlying T = some (.slice e)) : abuiltin P .cap #[T] R [.sl id off len k ag (some c)] m = some (.sc (.int .i64 c), m) := by
  show (if (telem P T).isSome then _ else _ : Option AV).map (·, m) = _
  simp [telem, hu, goInt]
theorem aslice_sl {id off len k c : Nat} {ag : Bool} {cap : Option Nat} {lo hi : Option AV} {l h : Option Nat} (hu : P.underlying T = some (.slice e)) (hk : tsize P e = some k) (hl : obnd lo = some l) (hh : obnd hi = some h) (h1 : l.getD 0 ≤ h.getD len) (h2 : h.getD len ≤ len) : aslice P T (.sl id off len k ag cap) lo hi none = some (.sl id (off + l.getD 0 * k) (h.getD len - l.getD 0) k ag (cap.map (· - l.getD 0))) := by
  simp only [aslice, aslice1, telem, hu, hl, hh, show obnd none = some none from rfl, hk]
  rw [if_pos ⟨h1, h2, trivial⟩]
theorem aslice_emp {b : Nat} {k : Nat} {lo hi : Option AV} {l h : Option Nat} (hu : P.underlying T = some (.slice e)) (hk : tsize P e = some k) (hl : obnd lo = some l) (hh : obnd hi = some h) (h1 : l.getD 0 = 0) (h2 : h.getD 0 = 0) (hb : b ≤ 2) : aslice P T (.emp b) lo hi none = some (.emp b) := by
  simp only [aslice, aslice1, telem, hu, hl, hh, show obnd none = some none from rfl, hk]
  rw [if_pos ⟨h1, h2, hb⟩]
theorem aslice_lst {xs : List AV} {k : Nat} {lo hi : Option AV} {l h : Option Nat} (hu : P.underlying T = some (.slice e)) (hk : tsize P e = some k) (hl : obnd lo = some l) (hh : obnd hi = some h) (h1 : l.getD 0 ≤ h.getD xs.length) (h2 : h.getD xs.length ≤ xs.length) (ho : okAll k xs = true) : aslice P T (.lst xs) lo hi none = some (.lst ((xs.take (h.getD xs.length)).drop (l.getD 0))) := by
  simp only [aslice, aslice1, telem, hu, hl, hh, show obnd none = some none from rfl, hk]
  have h3 : (xs.all fun v => k == v.cells.length) = true := by
    simp only [okAll, List.all_eq_true, Bool.and_eq_true, beq_iff_eq] at ho ⊢
    exact fun x hx => (ho x hx).2.symm
  rw [if_pos ⟨h1, h2, h3⟩]
theorem obnd_none : obnd none = some none := Eq.trans rfl rfl
theorem obnd_nat {n : Nat} {q : IntKind} : obnd (some (.sc (.int q n))) = some (some n) := by simp [obnd]
end
attribute [simp] abuiltin_app abuiltin_apps acap_emp acap_sl obnd_none obnd_nat
end Go.V
