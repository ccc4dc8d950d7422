/- Slices of the memory that become lists; the elements of a slice. -/
import Derived.Test.YtipmoeclkamciaaVRel
set_option linter.unusedSimpArgs false
set_option linter.unusedVariables false
set_option linter.unusedSectionVars false
namespace Go.V
open Go.RowKit
variable {B : Nat} {W : World} {g : G} {m : Mem} {w : World}

def vchunk (k : Nat) (ag : Bool) : Nat → List Value → List Value
  | 0, _ => []
  | n + 1, us => (if ag then .agg (us.take k).toArray else us.headD undef) :: vchunk k ag n (us.drop k)

theorem length_chunk (k : Nat) (ag : Bool) : ∀ (n : Nat) (cs : List AV), (chunk k ag n cs).length = n
  | 0, _ => rfl
  | n + 1, cs => by simp [chunk, length_chunk k ag n]

theorem rels_chunk (k : Nat) (ag : Bool) (hk : (ag || k == 1) = true) : ∀ (n : Nat) (cs : List AV) (us : List Value), Rels g cs us → (∀ u ∈ us, u.oneCell' = true) → n * k ≤ cs.length →
    Rels g (chunk k ag n cs) (vchunk k ag n us)
  | 0, cs, us, h, ho, hl => .nil
  | n + 1, cs, us, h, ho, hl => by
    have hl' : n * k + k ≤ cs.length := by rw [Nat.succ_mul] at hl; exact hl
    refine .cons ?_ (rels_chunk k ag hk n (cs.drop k) (us.drop k) (h.drop k) (fun u hu => ho u (List.mem_of_mem_drop hu)) (by simp; omega))
    cases ag with
    | true =>
      simp only [if_true]
      exact ⟨us.take k, rfl, h.take k, fun u hu => ho u (List.mem_of_mem_take hu)⟩
    | false =>
      simp at hk
      subst hk
      match cs, us, h with
      | [], us, h => simp at hl'
      | x :: cs, us, h =>
        simp only [Rels] at h
        obtain ⟨v, rest, rfl, h1, _⟩ := h
        exact h1

theorem vchunk_get (k : Nat) (ag : Bool) (hk : (ag || k == 1) = true) : ∀ (n : Nat) (us : List Value), (∀ u ∈ us, u.oneCell' = true) → n * k ≤ us.length → ∀ i u, (vchunk k ag n us)[i]? = some u →
    u.cells.size = k ∧ ∀ j c, u.cells[j]? = some c → us[i * k + j]? = some c
  | 0, us, ho, hl, i, u, h => by simp [vchunk] at h
  | n + 1, us, ho, hl, i, u, h => by
    have hl' : n * k + k ≤ us.length := by rw [Nat.succ_mul] at hl; exact hl
    cases i with
    | zero =>
      simp only [vchunk, List.getElem?_cons_zero, Option.some.injEq] at h
      cases ag with
      | true =>
        simp only [if_true] at h
        subst h
        refine ⟨by simp [Value.cells]; omega, fun j c hc => ?_⟩
        simp only [Value.cells, List.getElem?_toArray, List.getElem?_take] at hc
        split at hc
        · simpa using hc
        · cases hc
      | false =>
        simp at hk
        subst hk
        match us, ho, hl' with
        | [], _, hl' => simp at hl'
        | x :: us, ho, _ =>
          simp at h
          subst h
          have hx := ho x (by simp)
          have hcx : x.cells = #[x] := by cases x <;> first | rfl | simp [Value.oneCell'] at hx
          rw [hcx]
          refine ⟨rfl, fun j c hc => ?_⟩
          cases j with
          | zero => simpa using hc
          | succ j => simp at hc
    | succ i =>
      simp only [vchunk, List.getElem?_cons_succ] at h
      obtain ⟨h1, h2⟩ := vchunk_get k ag hk n (us.drop k) (fun u hu => ho u (List.mem_of_mem_drop hu)) (by simp; omega) i u h
      refine ⟨h1, fun j c hc => ?_⟩
      have := h2 j c hc
      rw [List.getElem?_drop] at this
      rw [← this]
      congr 1
      rw [Nat.succ_mul]
      omega

theorem fz1_sound (h : WR B W g m w) {x : AV} {v : Value} (k : Rel g x v) : ∃ g', g.le g' ∧ WR B W g' (fz1 m x).2 w ∧ Rel g' (fz1 m x).1 v := by
  have same : ∃ g', g.le g' ∧ WR B W g' m w ∧ Rel g' x v := ⟨g, .refl g, h, k⟩
  cases x with
  | sl id off len kk ag cap =>
    simp only [fz1]
    split
    · rename_i cs f ver hg
      split
      · rename_i hc
        obtain ⟨hlen, hk⟩ := hc
        obtain ⟨vs, h1, h2, h3, h4⟩ := h.mark hg
        refine ⟨_, h3, h4, ?_⟩
        have k' := k
        simp only [Rel] at k
        obtain ⟨hid, a, c, rfl, hlc, ha, _, _⟩ := k
        have hvl := h1.length
        have hd := (h1.mono h3).drop off
        have hlen2 : len * kk ≤ (vs.drop off).length := by simp; omega
        refine ⟨some a, c, vchunk kk ag len (vs.drop off), kk, by rw [length_chunk], ?_, ⟨by rw [length_chunk]; exact hlc, fun e => by cases e⟩, ?_⟩
        · exact rels_chunk kk ag hk len _ _ hd (fun u hu => h2 u (List.mem_of_mem_drop hu)) (by simp; omega)
        · intro i u hu
          obtain ⟨g1, g2⟩ := vchunk_get kk ag hk len (vs.drop off) (fun u hu => h2 u (List.mem_of_mem_drop hu)) hlen2 i u hu
          have hlen0 : 0 < len := by
            rcases Nat.eq_zero_or_pos len with e | e
            · subst e; simp [vchunk] at hu
            · exact e
          obtain ⟨ea, _⟩ := ha (by omega)
          refine ⟨g1, _, _, by rw [ea], fun j c' hc' => ?_⟩
          have := g2 j c' hc'
          rw [List.getElem?_drop] at this
          have hlt : off + (i * kk + j) < vs.length := by
            rcases Nat.lt_or_ge (off + (i * kk + j)) vs.length with h' | h'
            · exact h'
            · rw [List.getElem?_eq_none h'] at this; cases this
          simp only [G.freeze]
          rw [if_pos (by simp; omega)]
          rw [← this]
          congr 1
          omega
      · exact same
    · exact same
  | emp n =>
    simp only [fz1]
    refine ⟨g, .refl g, h, ?_⟩
    match n, k with
    | 0, k => simp only [Rel] at k; subst k; exact ⟨none, 0, [], 0, rfl, .nil, ⟨Nat.le_refl _, fun _ => rfl⟩, by simp⟩
    | 1, k => simp only [Rel] at k; obtain ⟨a, rfl⟩ := k; exact ⟨a, 0, [], 0, rfl, .nil, ⟨Nat.le_refl _, fun _ => rfl⟩, by simp⟩
    | 2, k => simp only [Rel] at k; obtain ⟨a, c, rfl⟩ := k; exact ⟨some a, c, [], 0, rfl, .nil, ⟨Nat.zero_le _, fun e => by cases e⟩, by simp⟩
    | n + 3, k => exact k.elim
  | _ => exact same

theorem fzs_sound : ∀ (xs : List AV) {g : G} {m : Mem} (_ : WR B W g m w) {vs : List Value} (_ : Rels g xs vs), ∃ g', g.le g' ∧ WR B W g' (fzs m xs).2 w ∧ Rels g' (fzs m xs).1 vs
  | [], g, m, h, vs, k => ⟨g, .refl g, h, k⟩
  | x :: xs, g, m, h, vs, k => by
    simp only [Rels] at k
    obtain ⟨v, rest, rfl, h1, h2⟩ := k
    obtain ⟨g1, l1, w1, r1⟩ := fz1_sound h h1
    obtain ⟨g2, l2, w2, r2⟩ := fzs_sound xs w1 (h2.mono l1)
    exact ⟨g2, l1.trans l2, w2, .cons (r1.mono l2) r2⟩

theorem fzv_sound (h : WR B W g m w) {x : AV} {v : Value} (k : Rel g x v) : ∃ g', g.le g' ∧ WR B W g' (fzv m x).2 w ∧ Rel g' (fzv m x).1 v := by
  cases x with
  | agg cs =>
    simp only [Rel] at k
    obtain ⟨vs, rfl, h1, h2⟩ := k
    obtain ⟨g1, l1, w1, r1⟩ := fzs_sound cs h h1
    exact ⟨g1, l1, w1, vs, rfl, r1, h2⟩
  | _ => exact fz1_sound h k

theorem fzvs_sound : ∀ (xs : List AV) {g : G} {m : Mem} (_ : WR B W g m w) {vs : List Value} (_ : Rels g xs vs), ∃ g', g.le g' ∧ WR B W g' (fzvs m xs).2 w ∧ Rels g' (fzvs m xs).1 vs
  | [], g, m, h, vs, k => ⟨g, .refl g, h, k⟩
  | x :: xs, g, m, h, vs, k => by
    simp only [Rels] at k
    obtain ⟨v, rest, rfl, h1, h2⟩ := k
    obtain ⟨g1, l1, w1, r1⟩ := fzv_sound h h1
    obtain ⟨g2, l2, w2, r2⟩ := fzvs_sound xs w1 (h2.mono l1)
    exact ⟨g2, l1.trans l2, w2, .cons (r1.mono l2) r2⟩

theorem fzr_sound (h : WR B W g m w) {x : AV} {v : Value} (k : Rel g x v) : ∃ g', g.le g' ∧ WR B W g' (fzr m x).2 w ∧ Rel g' (fzr m x).1 v := by
  cases x with
  | tup cs =>
    simp only [Rel] at k
    obtain ⟨vs, rfl, h1⟩ := k
    obtain ⟨g1, l1, w1, r1⟩ := fzvs_sound cs h h1
    exact ⟨g1, l1, w1, vs, rfl, r1⟩
  | _ => exact fzv_sound h k

/-- The elements' cells, one behind the other. -/
def vflat (us : List Value) : List Value := us.flatMap fun u => u.cells.toList

theorem rels_flat : ∀ {xs : List AV} {us : List Value}, Rels g xs us → Rels g (flat xs) (vflat us)
  | [], us, h => by simp only [Rels] at h; subst h; exact .nil
  | x :: xs, us, h => by
    simp only [Rels] at h
    obtain ⟨v, rest, rfl, h1, h2⟩ := h
    exact h1.cells.append (rels_flat h2)

theorem vflat_length (k : Nat) : ∀ (us : List Value), (∀ u ∈ us, u.cells.size = k) → (vflat us).length = us.length * k
  | [], _ => by simp [vflat]
  | u :: us, h => by
    have ih := vflat_length k us fun u hu => h u (by simp [hu])
    have h1 := h u (by simp)
    simp only [vflat, List.flatMap_cons, List.length_append, Array.length_toList, List.length_cons] at ih ⊢
    rw [ih, h1, Nat.succ_mul]
    omega

/-- Which cell of a flat row is whose. -/
theorem vflat_get (k : Nat) (hk : 0 < k) : ∀ (us : List Value), (∀ u ∈ us, u.cells.size = k) → ∀ j c, (vflat us)[j]? = some c → ∃ u, us[j / k]? = some u ∧ u.cells[j % k]? = some c
  | [], _, j, c, h => by simp [vflat] at h
  | u :: us, hu, j, c, h => by
    have h1 := hu u (by simp)
    simp only [vflat, List.flatMap_cons] at h
    by_cases hj : j < k
    · rw [List.getElem?_append_left (by simp; omega)] at h
      refine ⟨u, ?_, ?_⟩
      · rw [Nat.div_eq_of_lt hj]; rfl
      · rw [Nat.mod_eq_of_lt hj]; simpa using h
    · rw [List.getElem?_append_right (by simp; omega)] at h
      have hlen : u.cells.toList.length = k := by simpa using h1
      rw [hlen] at h
      obtain ⟨u', h2, h3⟩ := vflat_get k hk us (fun x hx => hu x (by simp [hx])) (j - k) c h
      refine ⟨u', ?_, ?_⟩
      · rw [← h2]
        have : j / k = (j - k) / k + 1 := by
          rw [← Nat.sub_add_cancel (Nat.le_of_not_lt hj), Nat.add_div_right _ hk]
          simp
        rw [this]
        rfl
      · rw [← h3]
        congr 1
        rw [← Nat.sub_add_cancel (Nat.le_of_not_lt hj), Nat.add_mod_right]
        simp

/-- A slice's elements, as they stand in the world. -/
theorem elemsOf_sound (h : WR B W g m w) {x : AV} {v : Value} (k : Rel g x v) {ys : List AV} (he : elemsOf m x = some ys) :
    ∃ a c us, v = .slice a ys.length c ∧ Rels g ys us ∧ ∃ kk, ∀ i u, us[i]? = some u → u.cells.size = kk ∧ ∃ b o, a = some ⟨b, o, none⟩ ∧ ∀ j c', u.cells[j]? = some c' → w.cell? ⟨b, o + i * kk + j, none⟩ = some c' := by
  cases x with
  | emp n =>
    simp only [elemsOf, Option.some.injEq] at he
    subst he
    match n, k with
    | 0, k => simp only [Rel] at k; subst k; exact ⟨none, 0, [], rfl, .nil, 0, by simp⟩
    | 1, k => simp only [Rel] at k; obtain ⟨a, rfl⟩ := k; exact ⟨a, 0, [], rfl, .nil, 0, by simp⟩
    | 2, k => simp only [Rel] at k; obtain ⟨a, c, rfl⟩ := k; exact ⟨some a, c, [], rfl, .nil, 0, by simp⟩
    | n + 3, k => exact k.elim
  | lst xs =>
    simp only [elemsOf, Option.some.injEq] at he
    subst he
    simp only [Rel] at k
    obtain ⟨a, c, vs, q, rfl, h1, _, h2⟩ := k
    refine ⟨a, c, vs, rfl, h1, q, fun i u hu => ?_⟩
    obtain ⟨h3, b, o, h4, h5⟩ := h2 i u hu
    exact ⟨h3, b, o, h4, fun j c' hc' => h.fz _ _ _ (h5 j c' hc')⟩
  | sl id off len kk ag cap =>
    simp only [elemsOf] at he
    split at he
    · rename_i cs f ver hg
      split at he
      · rename_i hc
        obtain ⟨hlen, hk⟩ := hc
        simp only [Option.some.injEq] at he
        subst he
        obtain ⟨vs, h1, h2, h3⟩ := h.cells hg
        simp only [Rel] at k
        obtain ⟨hid, a, c, rfl, hlc, ha, _, _⟩ := k
        have hvl := h1.length
        refine ⟨some a, c, vchunk kk ag len (vs.drop off), by rw [length_chunk], rels_chunk kk ag hk len _ _ (h1.drop off) (fun u hu => h2 u (List.mem_of_mem_drop hu)) (by simp; omega), kk, fun i u hu => ?_⟩
        obtain ⟨g1, g2⟩ := vchunk_get kk ag hk len (vs.drop off) (fun u hu => h2 u (List.mem_of_mem_drop hu)) (by simp; omega) i u hu
        have hlen0 : 0 < len := by
          rcases Nat.eq_zero_or_pos len with e | e
          · subst e; simp [vchunk] at hu
          · exact e
        obtain ⟨ea, _⟩ := ha (by omega)
        refine ⟨g1, _, _, by rw [ea], fun j c' hc' => ?_⟩
        have := g2 j c' hc'
        rw [List.getElem?_drop] at this
        have := h3 _ _ this
        rw [← this]
        congr 2
        omega
      · cases he
    · cases he
  | _ => simp [elemsOf] at he

/-- What is appended, as the machine reads it. -/
theorem srcOf_sound (P : Program) (h : WR B W g m w) {x : AV} {v : Value} (k : Rel g x v) {ys : List AV} (he : srcOf m x = some ys) :
    ∃ us, Rels g ys us ∧ (Builtin.lenOf v).run P w = .ok ys.length w ∧ ∀ n kk, 0 < kk → n ≤ ys.length → (∀ u ∈ us, u.cells.size = kk) → ∀ w2 : World, (∀ a, w2.cell? a = w.cell? a) → (Builtin.firstCells kk n v).run P w2 = .ok (vflat (us.take n)).toArray w2 := by
  have gen : elemsOf m x = some ys → ∃ us, Rels g ys us ∧ (Builtin.lenOf v).run P w = .ok ys.length w ∧ ∀ n kk, 0 < kk → n ≤ ys.length → (∀ u ∈ us, u.cells.size = kk) → ∀ w2 : World, (∀ a, w2.cell? a = w.cell? a) → (Builtin.firstCells kk n v).run P w2 = .ok (vflat (us.take n)).toArray w2 := by
    intro he
    obtain ⟨a, c, us, rfl, h1, q, h2⟩ := elemsOf_sound h k he
    refine ⟨us, h1, by simp [Builtin.lenOf], fun n kk hkk hn hu w2 hw2 => ?_⟩
    have hl := h1.length
    have hut : ∀ u ∈ us.take n, u.cells.size = kk := fun u h' => hu u (List.mem_of_mem_take h')
    have hfl := vflat_length kk (us.take n) hut
    rw [List.length_take, Nat.min_eq_left (by omega)] at hfl
    cases a with
    | none =>
      have : us = [] := by
        cases us with
        | nil => rfl
        | cons u us => obtain ⟨_, b, o, hb, _⟩ := h2 0 u rfl; cases hb
      subst this
      simp [Builtin.firstCells, vflat]
    | some a =>
      simp only [Builtin.firstCells]
      rw [← hfl]
      refine run_loadCells_list w2 a _ fun j c' hc' => ?_
      rw [hw2]
      obtain ⟨u, h3, h4⟩ := vflat_get kk hkk _ hut j c' hc'
      have h3' : us[j / kk]? = some u := by
        rw [List.getElem?_take] at h3
        split at h3
        · exact h3
        · cases h3
      obtain ⟨h5, b, o, hb, h6⟩ := h2 (j / kk) u h3'
      simp only [Option.some.injEq] at hb
      subst hb
      have h7 := h6 (j % kk) c' h4
      have hq : q = kk := by rw [← h5]; exact hu u (List.mem_of_getElem? h3')
      subst hq
      have hdm : o + j / q * q + j % q = o + j := by
        have := Nat.div_add_mod j q
        rw [Nat.mul_comm] at this
        omega
      rw [hdm] at h7
      simp only [Addr.add]
      split
      · rename_i e; subst e; simpa using h7
      · exact h7
  cases x with
  | sc v' =>
    cases v' with
    | string s =>
      simp only [srcOf, Option.some.injEq] at he
      simp only [Rel] at k
      subst k
      refine ⟨s.data.toList.map fun b => .int .u8 b.toNat, ?_, ?_, ?_⟩
      · rw [← he]
        have : ∀ l : List UInt8, Rels g (l.map fun b => AV.sc (.int .u8 b.toNat)) (l.map fun b => Value.int .u8 b.toNat) := by
          intro l
          induction l with
          | nil => exact .nil
          | cons a l ih => exact .cons rfl ih
        exact this _
      · rw [← he]; simp [Builtin.lenOf]
      · intro n kk hkk hn hu w2 _
        simp only [Builtin.firstCells, Sem.run_pure]
        congr 1
        apply Array.ext'
        have hfl : ∀ l : List UInt8, vflat (l.map fun b => Value.int .u8 b.toNat) = l.map fun b => Value.int .u8 b.toNat := by
          intro l
          induction l with
          | nil => rfl
          | cons a l ih => simp only [vflat, List.map_cons, List.flatMap_cons] at ih ⊢; rw [ih]; rfl
        rw [← List.map_take, hfl]
        simp [ByteArray.data_extract]
    | _ => simp [srcOf, elemsOf] at he
  | _ => exact gen (by simpa [srcOf] using he)
end Go.V
