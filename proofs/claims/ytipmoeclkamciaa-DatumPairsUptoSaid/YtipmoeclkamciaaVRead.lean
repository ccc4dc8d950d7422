/- What is read of an argument, as an abstract value. -/
import Derived.Test.YtipmoeclkamciaaVTop
import Derived.DataReads
set_option linter.unusedSimpArgs false
set_option linter.unusedVariables false
set_option linter.unusedSectionVars false
namespace Go.V
variable {P : Program} {H : Type} {enc : TypeId × Value → H} {W : World}

/-- The reading of an argument. -/
abbrev rd (enc : TypeId × Value → H) (P : Program) (W : World) (fuel : Nat) (T : TypeId) (cs : List Value) : Option (DataW H × List MemPlace) := DataW.trod enc P W 0 (fun _ => true) true fuel T cs

section
variable {T : TypeId} {fuel : Nat} {cs : List Value} {d : DataW H} {ps : List MemPlace}
theorem rd_int {k : IntKind} (hu : P.underlying T = some (.int k)) (h : rd enc P W fuel T cs = some (d, ps)) : ∃ n, cs = [.int k n] ∧ d = .lit (.int k n) ∧ (Lit.int k n).wf = true := by
  cases fuel with
  | zero => cases h
  | succ fuel =>
    rcases cs with _ | ⟨v, _ | ⟨w, r⟩⟩
    · simp [rd, DataW.trod, hu] at h
    · cases v <;> simp [rd, DataW.trod, hu] at h
      rename_i k' n
      obtain ⟨⟨rfl, hw⟩, rfl, _⟩ := h
      exact ⟨n, rfl, rfl, hw⟩
    · simp [rd, DataW.trod, hu] at h
theorem rd_string (hu : P.underlying T = some .string) (h : rd enc P W fuel T cs = some (d, ps)) : ∃ l : List UInt8, cs = [.string ⟨⟨l⟩⟩] ∧ d = .lit (.string l) := by
  cases fuel with
  | zero => cases h
  | succ fuel =>
    rcases cs with _ | ⟨v, _ | ⟨w, r⟩⟩
    · simp [rd, DataW.trod, hu] at h
    · cases v <;> simp [rd, DataW.trod, hu] at h
      rename_i s
      obtain ⟨_, rfl, _⟩ := h
      exact ⟨s.data.toList, rfl, rfl⟩
    · simp [rd, DataW.trod, hu] at h
theorem rd_bool (hu : P.underlying T = some .bool) (h : rd enc P W fuel T cs = some (d, ps)) : ∃ b, cs = [.bool b] ∧ d = .lit (.bool b) := by
  cases fuel with
  | zero => cases h
  | succ fuel =>
    rcases cs with _ | ⟨v, _ | ⟨w, r⟩⟩
    · simp [rd, DataW.trod, hu] at h
    · cases v <;> simp [rd, DataW.trod, hu] at h
      rename_i b
      obtain ⟨rfl, _⟩ := h
      exact ⟨b, rfl, rfl⟩
    · simp [rd, DataW.trod, hu] at h

/-- A row of cells that lies at a place. -/
def LiesAt (W : World) (b o : Nat) (cs : List Value) : Prop := ∀ (j : Nat) (c : Value), cs[j]? = some c → W.cell? ⟨b, o + j, none⟩ = some c

theorem cells_at {a : Addr} {n : Nat} {cs : List Value} (h : W.cells? 0 a n = some cs) : cs.length = n ∧ (0 < n → a.spot = none) ∧ LiesAt W a.block a.off cs := by
  unfold World.cells? at h
  rw [if_pos (Nat.zero_le _)] at h
  have hl := mapM_some_length h
  have hg := mapM_some_get h
  simp only [List.length_range] at hl
  have at_ : ∀ j, j < n → W.cell? (a.add j) = cs[j]? := fun j hj => hg j j (by simp [hj])
  have spot : 0 < n → a.spot = none := by
    intro h0
    have := at_ 0 h0
    simp only [Addr.add, if_true] at this
    rw [List.getElem?_eq_getElem (by omega)] at this
    unfold World.cell? at this
    split at this
    · split at this
      · cases this
      · rename_i hs; simpa using hs
    · cases this
  refine ⟨hl, spot, fun j c hc => ?_⟩
  have hj : j < n := by have := (List.getElem?_eq_some_iff.1 hc).1; omega
  have e := at_ j hj
  rw [hc] at e
  rw [← e]
  congr 1
  unfold Addr.add
  have := spot (by omega)
  split
  · rename_i h0; subst h0; cases a; simp_all
  · rfl

/-- A slice: its elements, each read with less fuel, where they lie. -/
theorem rd_slice {e : TypeId} {v : Value} (hu : P.underlying T = some (.slice e)) (hk : 0 < P.cellsOf e) (h : rd enc P W fuel T [v] = some (d, ps)) :
    (v = .slice none 0 0 ∧ d = .nil) ∨ ∃ (a : Addr) (len cap : Nat) (elems rest : List (DataW H × List MemPlace)), v = .slice (some a) len cap ∧ len ≤ cap ∧ d = .slice (elems.map (·.1)) (rest.map (·.1)) ∧ elems.length = len ∧
      ∀ i x, elems[i]? = some x → ∃ cs, cs.length = P.cellsOf e ∧ rd enc P W (fuel - 1) e cs = some x ∧ a.spot = none ∧ LiesAt W a.block (a.off + i * P.cellsOf e) cs := by
  cases fuel with
  | zero => cases h
  | succ fuel =>
    cases v with
    | slice a len cap =>
      cases a with
      | none =>
        left
        match len, cap with
        | 0, 0 => simp [rd, DataW.trod, hu] at h; exact ⟨rfl, h.1.symm⟩
        | 0, c + 1 => simp [rd, DataW.trod, hu] at h
        | l + 1, c => simp [rd, DataW.trod, hu] at h
      | some a =>
        right
        simp only [rd, DataW.trod, hu] at h
        split at h
        · rename_i hc
          rw [Option.bind_eq_some_iff] at h
          obtain ⟨elems, h1, h2⟩ := h
          rw [Option.map_eq_some_iff] at h2
          obtain ⟨rest, h3, h4⟩ := h2
          cases h4
          have hl := mapM_some_length h1
          have hg := mapM_some_get h1
          simp only [List.length_range] at hl
          refine ⟨a, len, cap, elems, rest, rfl, hc.2.1, rfl, hl, fun i x hx => ?_⟩
          have hi : i < len := by have := (List.getElem?_eq_some_iff.1 hx).1; omega
          have := hg i i (by simp [hi])
          rw [hx, Option.bind_eq_some_iff] at this
          obtain ⟨cs, h5, h6⟩ := this
          obtain ⟨h7, h8, h9⟩ := cells_at h5
          refine ⟨cs, h7, h6, ?_, ?_⟩
          · have := h8 hk
            unfold Addr.add at this
            split at this
            · exact this
            · -- the first one lies at the place itself
              have h0 := hg 0 0 (by rw [List.getElem?_range (by omega)])
              rw [List.getElem?_eq_getElem (by omega), Option.bind_eq_some_iff] at h0
              obtain ⟨cs0, h10, _⟩ := h0
              have := (cells_at h10).2.1 hk
              simpa [Addr.add] using this
          · intro j c hj
            have := h9 j c hj
            unfold Addr.add at this
            split at this
            · rename_i h0; rw [h0, Nat.add_zero]; exact this
            · exact this
        · cases h
    | _ => simp [rd, DataW.trod, hu] at h
end

/-- A list that was read. -/
theorem rd_lst {α : Type} {T e : TypeId} {fuel : Nat} {v : Value} {d : DataW H} {ps : List MemPlace} (hu : P.underlying T = some (.slice e)) (hk : 0 < P.cellsOf e) (h : rd enc P W fuel T [v] = some (d, ps)) (toAV : α → AV) (C : DataW H → α → Prop)
    (conv : ∀ cs x p, (∃ l r, d = .slice l r ∧ x ∈ l) → rd enc P W (fuel - 1) e cs = some (x, p) → cs.length = P.cellsOf e → ∃ (y : α) (u : Value), Rel (G.start W) (toAV y) u ∧ u.cells.toList = cs ∧ C x y) :
    ∃ ys : List α, Rel (G.start W) (.lst (ys.map toAV)) v ∧ ((d = .nil ∧ ys = []) ∨ ∃ l r, d = .slice l r ∧ l.length = ys.length ∧ ∀ (i : Nat) (x : DataW H) (y : α), l[i]? = some x → ys[i]? = some y → C x y) := by
  rcases rd_slice hu hk h with ⟨rfl, rfl⟩ | ⟨a, len, cap, elems, rest, rfl, hlc, rfl, hlen, hel⟩
  · exact ⟨[], ⟨none, 0, [], 0, rfl, .nil, ⟨Nat.le_refl _, fun _ => rfl⟩, by simp⟩, .inl ⟨rfl, rfl⟩⟩
  · have key : ∀ n, n ≤ len → ∃ (ys : List α) (us : List Value), ys.length = n ∧ us.length = n ∧ Rels (G.start W) (ys.map toAV) us ∧ ∀ i x y u, i < n → elems[i]? = some x → ys[i]? = some y → us[i]? = some u → C x.1 y ∧ u.cells.size = P.cellsOf e ∧ a.spot = none ∧ LiesAt W a.block (a.off + i * P.cellsOf e) u.cells.toList := by
      intro n
      induction n with
      | zero => intro _; exact ⟨[], [], rfl, rfl, .nil, by omega⟩
      | succ n ih =>
        intro hn
        obtain ⟨ys, us, h1, h2, h3, h4⟩ := ih (by omega)
        obtain ⟨x, hx⟩ : ∃ x, elems[n]? = some x := ⟨_, List.getElem?_eq_getElem (by omega)⟩
        obtain ⟨cs, c1, c2, c3, c4⟩ := hel n x hx
        obtain ⟨y, u, y1, y2, y3⟩ := conv cs x.1 x.2 ⟨_, _, rfl, List.mem_map.2 ⟨x, List.mem_of_getElem? hx, rfl⟩⟩ c2 c1
        refine ⟨ys ++ [y], us ++ [u], by simp [h1], by simp [h2], ?_, fun i x' y' u' hi hx' hy' hu' => ?_⟩
        · rw [List.map_append]; exact h3.append (.one y1)
        · rcases Nat.lt_or_ge i n with hlt | hge
          · rw [List.getElem?_append_left (by omega)] at hy' hu'
            exact h4 i x' y' u' hlt hx' hy' hu'
          · obtain rfl : i = n := by omega
            rw [hx] at hx'
            cases hx'
            rw [List.getElem?_append_right (by omega), h1, Nat.sub_self] at hy'
            rw [List.getElem?_append_right (by omega), h2, Nat.sub_self] at hu'
            cases hy'
            cases hu'
            exact ⟨y3, by rw [← c1, ← y2]; simp, c3, by rw [y2]; exact c4⟩
    obtain ⟨ys, us, h1, h2, h3, h4⟩ := key len (Nat.le_refl _)
    have full : ∀ i (u : Value), us[i]? = some u → ∃ x y, elems[i]? = some x ∧ ys[i]? = some y ∧ i < len := by
      intro i u hu
      have hi : i < len := by have := (List.getElem?_eq_some_iff.1 hu).1; omega
      exact ⟨_, _, List.getElem?_eq_getElem (by omega), List.getElem?_eq_getElem (by omega), hi⟩
    refine ⟨ys, ⟨some a, cap, us, P.cellsOf e, by simp [h1], h3, ⟨by simp [h1]; exact hlc, fun e => by cases e⟩, fun i u hu => ?_⟩, .inr ⟨_, _, rfl, by simp [hlen, h1], fun i x y hx hy => ?_⟩⟩
    · obtain ⟨x, y, hx, hy, hi⟩ := full i u hu
      obtain ⟨_, c1, c2, c3⟩ := h4 i x y u hi hx hy hu
      refine ⟨c1, a.block, a.off, by rw [← c2], fun j c hc => ?_⟩
      have := c3 j c (by simpa using hc)
      exact this
    · rw [List.getElem?_map, Option.map_eq_some_iff] at hx
      obtain ⟨x', hx, rfl⟩ := hx
      have hi : i < len := by have := (List.getElem?_eq_some_iff.1 hx).1; omega
      exact (h4 i x' y _ hi hx hy (List.getElem?_eq_getElem (by omega))).1
end Go.V
