/- The abstract operations are sound: making and appending. -/
import Derived.Test.YtipmoeclkamciaaVOps3
set_option linter.unusedSimpArgs false
set_option linter.unusedVariables false
set_option linter.unusedSectionVars false
namespace Go.V
open Go.RowKit
variable {P : Program} {B : Nat} {W : World} {g : G} {m : Mem} {w : World}

theorem madeCells_list (z : Array Value) (n : Nat) : (madeCells z n) = ((List.range n).map fun i => z[i % z.size]!).toArray := by
  apply Array.ext'
  simp [madeCells]
theorem zeroCells_list (z : Array Value) (n : Nat) : (Builtin.zeroCells z n) = ((List.range (n * z.size)).map fun i => z[i % z.size]!).toArray := by
  apply Array.ext'
  simp [Builtin.zeroCells]

theorem info_tb {T : TypeId} {k b : Nat} {z : AV} (hs : tsize P T = some k) (hb : tbytes P T = some b) (hz : tzero P T = some z) : ∃ i v, P.info? T = some i ∧ i.size = k ∧ i.bytes = b ∧ i.zero = some v ∧ z = ofConst v := by
  obtain ⟨v, h1, _, i, h2, h3⟩ := run_tzero hz
  unfold tsize at hs
  unfold tbytes at hb
  rw [h2] at hs hb
  simp at hs hb
  exact ⟨i, v, h2, hs, hb, h3, h1⟩

theorem amakeSlice_sound (h : WR B W g m w) {T : TypeId} {l c : AV} {vl vc : Value} (kl : Rel g l vl) (kc : Rel g c vc) {x : AV} {m' : Mem} (e : amakeSlice P T l c m = some (x, m')) :
    ∃ u w' g', (Instr.makeSlice T vl vc).run P w = .ok u w' ∧ g.le g' ∧ Rel g' x u ∧ WR B W g' m' w' := by
  unfold amakeSlice at e
  split at e
  · rename_i el l c ht
    simp only [Rel] at kl kc
    subst kl; subst kc
    split at e
    · rename_i k by_ z ag hs hb hz hag
      split at e
      · rename_i hc
        obtain ⟨c1, c2, c3, c4, c5, c6, c7⟩ := hc
        cases e
        obtain ⟨i, zv, hi, hsz, hby, hzz, hzc⟩ := info_tb hs hb hz
        have hr : Rel g z zv := by rw [hzc]; exact rel_ofConst zv
        have hzs : zv.cells.size = k := by rw [← c3, ← hr.cells.length]; simp
        have hb1 : (i.bytes : Int) * c ≤ 281474976710656 := by
          have h1 : ((c.toNat * by_ : Nat) : Int) ≤ 1099511627776 := by omega
          rw [Int.natCast_mul, Int.toNat_of_nonneg (by omega), Int.mul_comm, ← hby] at h1
          omega
        have hrun := run_make (P := P) w T el i zv (of_telem ht) hi hzz .i64 .i64 l c c4 c5 hb1 (by omega)
        rw [hsz, madeCells_list, ← hzs] at hrun
        have hnew := h.new (post := []) (rels_zeros hr (by omega) c.toNat) (one_zeros hr c2 (by omega) c.toNat) false el
        simp only [List.append_nil] at hnew
        refine ⟨_, _, _, hrun, G.le_new _ _ _ _ _, ?_, hnew⟩
        rw [h.n]
        refine rel_new_sl g _ _ _ l.toNat k ag (some c.toNat) c.toNat (by omega) ?_ (by intro c' hc'; simpa using hc') (by simp)
        simp [hzs]
      · cases e
    · cases e
  · cases e

/-- What is appended, by what 'append' does with it. -/
structure Src (P : Program) (w : World) (T u e : TypeId) (k b : Nat) (z : Value) (x : Value) (n : Nat) (news : List Value) : Prop where
  here : ∀ base sLen sCap ty, sLen + n ≤ sCap → (Builtin.append_ #[T, u] ty #[.slice base sLen sCap, x]).run P w =
    ((match base with | some a => storeCells (a.add (sLen * k)) news | none => pure ()).run P w).andThen fun _ w' => .ok (.slice base (sLen + n) sCap) w'
  grow : ∀ base sLen sCap ty (olds : List Value), sCap < sLen + n → sLen + n ≤ 2 ^ 46 → (sLen + n) * b ≤ 2 ^ 46 → (Builtin.firstCells k sLen (.slice base sLen sCap)).run P w.drew = .ok olds.toArray w.drew →
    (Builtin.append_ #[T, u] ty #[.slice base sLen sCap, x]).run P w = .ok (.slice (some ⟨w.heap.size, 0, none⟩) (sLen + n) (grownCap w (sLen + n) sCap e))
      (w.drew.alloc (.cells (olds ++ news ++ (Builtin.zeroCells z.cells (grownCap w (sLen + n) sCap e - (sLen + n))).toList).toArray e))

theorem src_list {T u e : TypeId} {k b : Nat} {z x : Value} {n : Nat} {news : List Value} {d : TypeDesc} {i : TypeInfo} (ht : P.underlying T = some (.slice e)) (hu : P.underlying u = some d) (hd : ∀ q, d ≠ .int q)
    (hi : P.info? e = some i) (hs : i.size = k) (hb : i.bytes = b) (hz : i.zero = some z) (hl : (Builtin.lenOf x).run P w = .ok n w)
    (h1 : (Builtin.firstCells k n x).run P w = .ok news.toArray w) (h2 : (Builtin.firstCells k n x).run P w.drew = .ok news.toArray w.drew) : Src P w T u e k b z x n news := by
  have hm : (match d with | .int _ => true | _ => false) = false := by cases d <;> first | rfl | exact (hd _ rfl).elim
  subst hs; subst hb
  constructor
  · intro base sLen sCap ty hn
    cases base <;> simp [Builtin.append_, run_underlying ht, run_underlying hu, hm, sizeOf, typeInfo, hi, hl, hn, h1]
  · intro base sLen sCap ty olds hg h63 h46 ho
    have hn : ¬ (sLen + n ≤ sCap) := by omega
    have h63' : ¬ (9223372036854775807 < ((sLen : Int) + (n : Int))) := by omega
    have hfit := growslice_fits hg (show (sLen + n) * i.bytes ≤ 140737488355328 by omega)
    have h48' : ¬ (281474976710656 < Builtin.nextslicecap (sLen + n) sCap * i.bytes) := by omega
    simp [Builtin.append_, run_underlying ht, run_underlying hu, hm, sizeOf, typeInfo, zeroValue, hi, hz, hl, hn, h63', h48', Question.forced, h2, ho, newRow, grownCap]
    congr 2
    apply Array.ext'
    simp [List.append_assoc]

theorem src_zeros {T u e : TypeId} {k b : Nat} {z : Value} {n : Nat} {q : IntKind} {i : TypeInfo} (ht : P.underlying T = some (.slice e)) (hu : P.underlying u = some (.int q))
    (hi : P.info? e = some i) (hs : i.size = k) (hb : i.bytes = b) (hz : i.zero = some z) (hzk : z.cells.size = k) (h40 : n ≤ 2 ^ 40) (hnb : n * b ≤ 2 ^ 46) : Src P w T u e k b z (.int .i64 (n : Int)) n ((List.range (n * k)).map fun i => z.cells[i % k]!) := by
  have hw : IntKind.i64.wrap (n : Int) = n := IntWalk.i64_in _ ⟨by omega, by omega⟩
  have hneg : ¬ ((n : Int) < 0) := by omega
  subst hs; subst hb
  have hbig : ¬ (281474976710656 < (n : Int) * (i.bytes : Int)) := by
    have : ((n * i.bytes : Nat) : Int) ≤ 70368744177664 := by omega
    rw [Int.natCast_mul] at this
    omega
  have hzc : Builtin.zeroCells z.cells n = ((List.range (n * i.size)).map fun j => z.cells[j % i.size]!).toArray := by rw [zeroCells_list, hzk]
  have happ : ∀ w', (if n * i.size = 0 then (pure #[] : Sem (Array Value)) else do pure (Builtin.zeroCells (← zeroValue e).cells n)).run P w' = .ok ((List.range (n * i.size)).map fun j => z.cells[j % i.size]!).toArray w' := by
    intro w'
    by_cases h0 : n * i.size = 0
    · rw [if_pos h0, h0]; rfl
    · rw [if_neg h0]; simp [zeroValue, typeInfo, hi, hz, hzc]
  constructor
  · intro base sLen sCap ty hn
    by_cases h0 : n * i.size = 0
    · cases base <;> simp [Builtin.append_, run_underlying ht, run_underlying hu, sizeOf, typeInfo, hi, asInt, asIntOf, hw, hneg, hbig, hn, h0, storeCells]
    · cases base <;> simp [Builtin.append_, run_underlying ht, run_underlying hu, sizeOf, typeInfo, zeroValue, hz, hi, asInt, asIntOf, hw, hneg, hbig, hn, h0, hzc]
  · intro base sLen sCap ty olds hg h63 h46 ho
    have hn : ¬ (sLen + n ≤ sCap) := by omega
    have h63' : ¬ (9223372036854775807 < ((sLen : Int) + (n : Int))) := by omega
    have hfit := growslice_fits hg (show (sLen + n) * i.bytes ≤ 140737488355328 by omega)
    have h48' : ¬ (281474976710656 < Builtin.nextslicecap (sLen + n) sCap * i.bytes) := by omega
    by_cases h0 : n * i.size = 0
    · simp [Builtin.append_, run_underlying ht, run_underlying hu, sizeOf, typeInfo, zeroValue, hi, hz, asInt, asIntOf, hw, hneg, hbig, hn, h63', h48', Question.forced, h0, ho, newRow, grownCap]
      congr 2
      apply Array.ext'
      simp
    · simp [Builtin.append_, run_underlying ht, run_underlying hu, sizeOf, typeInfo, zeroValue, hi, hz, asInt, asIntOf, hw, hneg, hbig, hn, h63', h48', Question.forced, h0, ho, newRow, grownCap, hzc]
      congr 2
      apply Array.ext'
      simp [List.append_assoc]

/-- An object's slice is written on, in place: a new object in the elder one's block. -/
theorem WR.extend (h : WR B W g m w) {id : Nat} {cs : List AV} {f : Bool} {ver : Nat} (k : m.get id = some (.cells cs f ver)) (off q : Nat) (hq : off + q ≤ cs.length) (hf : f = true → off + q = cs.length)
    {xs : List AV} {us : List Value} (hx : Rels g xs us) (h1 : ∀ u ∈ us, u.oneCell' = true) (hroom : (g.mu id).2 + off + q + us.length ≤ g.sz id) (P : Program) :
    ∃ w', (storeCells ⟨(g.mu id).1, (g.mu id).2 + off + q, none⟩ us).run P w = .ok () w' ∧
      WR B W (g.new (g.mu id).1 ((g.mu id).2 + off) (g.sz id) (q + xs.length)) ((m.kill id).new ((cs.drop off).take q ++ xs) f) w' := by
  obtain ⟨hb, ⟨pre, vs, post, el, h2, h3, h4, h5, h7⟩, h6⟩ := h.objs id cs f ver k
  have hlen := h4.length
  have hus := hx.length
  have hid := h.ids id _ k
  have hst := run_storeCells_at P (g.mu id).1 ((g.mu id).2 + off + q) el us 0 (pre ++ vs ++ post).toArray w h2 (by rw [List.size_toArray]; omega) h1
  refine ⟨_, hst, ?_⟩
  have hw : ∀ b, b ≠ (g.mu id).1 → (w.setRow (g.mu id).1 ((pre ++ vs ++ post).toArray.toList.take ((g.mu id).2 + off + q + 0) ++ us ++ (pre ++ vs ++ post).toArray.toList.drop ((g.mu id).2 + off + q + 0 + us.length)).toArray).heap[b]? = w.heap[b]? := by
    intro b hb'
    simp only [World.setRow, Array.getElem?_modify]
    rw [if_neg (by omega)]
  have hw2 := setRow_heap w (g.mu id).1 (pre ++ vs ++ post).toArray ((pre ++ vs ++ post).toArray.toList.take ((g.mu id).2 + off + q + 0) ++ us ++ (pre ++ vs ++ post).toArray.toList.drop ((g.mu id).2 + off + q + 0 + us.length)).toArray el (0, 0) h2
  generalize hW : w.setRow (g.mu id).1 _ = w' at *
  have hsize : w'.heap.size = w.heap.size := by rw [← hW]; simp [World.setRow]
  have hos : w'.os = w.os ∧ w'.tape = w.tape ∧ w'.output = w.output := by rw [← hW]; exact ⟨rfl, rfl, rfl⟩
  simp only [List.toList_toArray, Nat.add_zero] at hw2
  have e1 : (pre ++ vs ++ post).take ((g.mu id).2 + off + q) = pre ++ vs.take off ++ (vs.drop off).take q := by
    have e3 : pre.take (pre.length + (off + q)) = pre := List.take_of_length_le (by omega)
    have e4 : (vs ++ post).take (off + q) = vs.take (off + q) := List.take_append_of_le_length (by omega)
    have e5 : vs.take (off + q) = vs.take off ++ (vs.drop off).take q := List.take_add
    rw [← h3, Nat.add_assoc, List.append_assoc, List.take_append, e3, Nat.add_sub_cancel_left, e4, e5, List.append_assoc]
  have hw3 : w'.heap[(g.mu id).1]? = some (.cells ((pre ++ vs.take off) ++ ((vs.drop off).take q ++ us) ++ (pre ++ vs ++ post).drop ((g.mu id).2 + off + q + us.length)).toArray el (0, 0)) := by
    rw [hw2, e1]
    simp [List.append_assoc]
  have hlow : ∀ o, o < (g.mu id).2 + off + q → w'.cell? ⟨(g.mu id).1, o, none⟩ = w.cell? ⟨(g.mu id).1, o, none⟩ := by
    intro o ho
    unfold World.cell?
    simp only [hw2, h2, Option.isSome_none, Bool.false_eq_true, if_false, List.getElem?_toArray]
    have hl : ((pre ++ vs ++ post).take ((g.mu id).2 + off + q)).length = (g.mu id).2 + off + q := by rw [List.length_take]; omega
    rw [List.append_assoc, List.getElem?_append_left (by omega), List.getElem?_take, if_pos ho]
  have hle := G.le_new g (g.mu id).1 ((g.mu id).2 + off) (g.sz id) (q + xs.length)
  have hmu : (g.new (g.mu id).1 ((g.mu id).2 + off) (g.sz id) (q + xs.length)).mu g.n = ((g.mu id).1, (g.mu id).2 + off) := by simp [G.new]
  have hold : ∀ j, j < g.n → (g.new (g.mu id).1 ((g.mu id).2 + off) (g.sz id) (q + xs.length)).mu j = g.mu j := hle.mu
  have hget : ∀ j, ((m.kill id).new ((cs.drop off).take q ++ xs) f).get j = if j = g.n then some (.cells ((cs.drop off).take q ++ xs) f (m.clock + 1)) else if j = id then none else m.get j := by
    intro j
    rw [Mem.get_new, Mem.get_kill]
    simp only [Mem.next_kill, h.n]
    rfl
  have hltb : (g.mu id).1 < w.heap.size := h.block_lt k
  refine ⟨h.below.trans ⟨hos.1, hos.2.1, hos.2.2, by omega, fun b hb' => hw b (by omega)⟩, by rw [hsize]; exact h.base, by simp [G.new, h.n], ?_, ?_, ?_, ?_⟩
  · intro j o hj
    rw [hget] at hj
    show j < g.n + 1
    split at hj
    · omega
    · split at hj
      · cases hj
      · have := h.ids j o hj; omega
  · intro j cs' f' ver' hj
    rw [hget] at hj
    split at hj
    · rename_i e
      subst e
      simp only [Option.some.injEq, AObj.cells.injEq] at hj
      obtain ⟨rfl, rfl, _⟩ := hj
      refine ⟨⟨by rw [hmu]; exact hb.1, by simp [G.new]; omega⟩, ⟨pre ++ vs.take off, (vs.drop off).take q ++ us, _, el, by rw [hmu]; exact hw3, by rw [hmu]; simp; omega, (((h4.drop off).take q).append hx).mono hle, ?_, ?_⟩, fun o v hv => ?_⟩
      · have hd : (pre ++ vs ++ post).length = pre.length + vs.length + post.length := by rw [List.length_append, List.length_append]
        simp only [G.new, if_true]
        rw [← h5]
        simp only [List.length_append, List.length_take, List.length_drop]
        omega
      · intro u hu
        rcases List.mem_append.1 hu with hu | hu
        · exact h7 u (List.mem_of_mem_drop (List.mem_of_mem_take hu))
        · exact h1 u hu
      · rw [hmu] at hv ⊢
        have := h6 o v hv
        refine ⟨this.1, ?_⟩
        have := hf this.1
        simp
        omega
    · split at hj
      · cases hj
      · rename_i e1' e2'
        have hlt := h.ids j _ hj
        refine ObjR.world (w := w) (ObjR.mono hle hlt (h.objs j cs' f' ver' hj) (fun _ _ hv => hv)) ?_
        rw [hold j hlt]
        exact hw _ fun e' => e2' (h.inj j id (by rw [hj]; rfl) (by rw [k]; rfl) e')
  · have other : ∀ j, j ≠ g.n → (((m.kill id).new ((cs.drop off).take q ++ xs) f).get j).isSome = true → (m.get j).isSome = true ∧ j ≠ id ∧ j < g.n := by
      intro j hj hs
      rw [hget, if_neg hj] at hs
      split at hs
      · cases hs
      · rename_i hne
        obtain ⟨o, ho⟩ := Option.isSome_iff_exists.1 hs
        exact ⟨hs, hne, h.ids j o ho⟩
    intro i j hi hj he
    by_cases ei : i = g.n <;> by_cases ej : j = g.n
    · rw [ei, ej]
    · obtain ⟨a1, a2, a3⟩ := other j ej hj
      rw [ei, hmu, hold j a3] at he
      exact absurd (h.inj j id a1 (by rw [k]; rfl) he.symm) a2
    · obtain ⟨a1, a2, a3⟩ := other i ei hi
      rw [ej, hmu, hold i a3] at he
      exact absurd (h.inj i id a1 (by rw [k]; rfl) he) a2
    · obtain ⟨a1, a2, a3⟩ := other i ei hi
      obtain ⟨b1, b2, b3⟩ := other j ej hj
      rw [hold i a3, hold j b3] at he
      exact h.inj i j a1 b1 he
  · intro b o v hv
    have hc := h.fz b o v hv
    by_cases hbb : b = (g.mu id).1
    · subst hbb
      have h8 := h6 o v hv
      rw [hlow o (by have := hf h8.1; omega)]
      exact hc
    · unfold World.cell? at hc ⊢
      simp only at hc ⊢
      rw [hw b hbb]
      exact hc
end Go.V
