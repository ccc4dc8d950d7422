/- A region whose order is open is sound: the theorem. -/
import Derived.Test.YtipmoeclkamciaaVDraw3
set_option linter.unusedSectionVars false
set_option linter.unusedSimpArgs false
set_option linter.unusedVariables false
set_option linter.unusedSectionVars false
namespace Go.V
open Go.RowKit
variable {P : Program} {B : Nat} {W : World} {H : Calls1}
section
variable {N : Nat} {ops : Array Oper} {S : Nat → Sl} {M : Nat → Mem} {ms : List (Sl × Mem)}

/-- What a slot holds when those are listed. -/
def SlotR (ops : Array Oper) (S : Nat → Sl) (listed : Array Bool) (t : Nat) (x : AV) : Prop :=
  (∃ i o, ops[i]? = some o ∧ o.dst = some t ∧ listed.getD i false = true ∧ x = (S (i + 1)).at t) ∨
  ((∀ i o, ops[i]? = some o → o.dst = some t → listed.getD i false = false) ∧ x = (S 0).at t)

theorem dst_one (hd : drawOk ops = true) {i j : Nat} {x y : Oper} {t : Nat} (hi : ops[i]? = some x) (hj : ops[j]? = some y) (hx : x.dst = some t) (hy : y.dst = some t) : i = j := by
  rcases Nat.lt_trichotomy i j with h | h | h
  · rcases (draw_pair hd hi hj h).2 with e | e
    · rw [hx] at e; cases e
    · exact absurd (hx.trans hy.symm) e
  · exact h
  · rcases (draw_pair hd hj hi h).2 with e | e
    · rw [hy] at e; cases e
    · exact absurd (hy.trans hx.symm) e

theorem pair_apart {x y : Oper} (h : pairOk ops x y = true) : x.apart ops y = true := by
  unfold pairOk at h
  simp only [Bool.and_eq_true] at h
  exact h.1

structure Inv (B : Nat) (W : World) (N : Nat) (ops : Array Oper) (S : Nat → Sl) (M : Nat → Mem) (D : List Deferred) (listed : Array Bool) (g : G) (a : Act) (w : World) : Prop where
  size : listed.size = ops.size
  dc : DC ops listed
  tm : a.tmps.size = N
  df : a.defers = D
  sl : ∀ t x, SlotR ops S listed t x → Rel g x (a.tmps.getD t undef)
  mm : ∃ mm, WR B W g mm w ∧ cont mm = F ops S M (fun i => listed.getD i false) ops.size

variable (R : Run P H N ops S M ms)
include R

/-- What an operation that comes up now looks at is what the text's order has there. -/
theorem slot_looks {listed : Array Bool} {j : Nat} (U : Up ops listed j) {o : Oper} (ho : ops[j]? = some o) {t : Nat} (ht : t ∈ o.looksAt ops) : SlotR ops S listed t ((S j).at t) := by
  by_cases hw : ∃ (i : Nat) (x : Oper), ops[i]? = some x ∧ x.dst = some t
  · obtain ⟨i, x, hi, hx⟩ := hw
    have hil := (Array.getElem?_eq_some_iff.1 hi).1
    cases hl : listed.getD i false with
    | true =>
      rcases Nat.lt_trichotomy i j with h | h | h
      · refine .inl ⟨i, x, hi, hx, hl, ?_⟩
        refine slot_keep R t (i + 1) j h (by have := U.lt; omega) fun k y h1 h2 hk hy => ?_
        have := dst_one R.draw hi hk hx hy
        omega
      · subst h; rw [U.not] at hl; cases hl
      · rcases (draw_pair R.draw ho hi h).1 with e | e
        · exact absurd e (up_post R U hil hl)
        · exact absurd ht ((Oper.apart_spec (pair_apart e)).2.2 t hx)
    | false =>
      refine .inr ⟨fun k y hk hy => ?_, ?_⟩
      · have := dst_one R.draw hi hk hx hy
        subst this; exact hl
      · refine slot_keep R t 0 j (by omega) (by have := U.lt; omega) fun k y h1 h2 hk hy => ?_
        have := dst_one R.draw hi hk hx hy
        subst this
        rcases (draw_pair R.draw hi ho h2).1 with e | e
        · have := up_pre R U e
          rw [hl] at this; cases this
        · exact absurd ht ((Oper.apart_spec (pair_apart e)).1 t hx)
  · refine .inr ⟨fun k y hk hy => absurd ⟨k, y, hk, hy⟩ hw, ?_⟩
    exact slot_keep R t 0 j (by omega) (by have := U.lt; omega) fun k y h1 h2 hk hy => hw ⟨k, y, hk, hy⟩

omit R in
theorem listed_set {listed : Array Bool} {j : Nat} (hj : j < listed.size) (i : Nat) : (listed.setIfInBounds j true).getD i false = add (fun i => listed.getD i false) j i := by
  unfold add
  rw [Array.getD_eq_getD_getElem?, Array.getElem?_setIfInBounds]
  by_cases e : j = i
  · subst e; simp [hj]
  · have : (i == j) = false := by simp; omega
    simp [e, this]

theorem slot_set {listed : Array Bool} {j : Nat} (hj : j < listed.size) {o : Oper} (ho : ops[j]? = some o) {t : Nat} {x : AV} (h : SlotR ops S (listed.setIfInBounds j true) t x) :
    (o.dst = some t ∧ x = (S (j + 1)).at t) ∨ (o.dst ≠ some t ∧ SlotR ops S listed t x) := by
  rcases h with ⟨i, y, hi, hy, hl, hx⟩ | ⟨hn, hx⟩
  · by_cases e : i = j
    · subst e
      rw [ho] at hi; cases hi
      exact .inl ⟨hy, hx⟩
    · refine .inr ⟨fun hd => e (dst_one R.draw hi ho hy hd), .inl ⟨i, y, hi, hy, ?_, hx⟩⟩
      rw [listed_set hj] at hl
      have : (i == j) = false := by simpa using e
      simpa [add, this] using hl
  · refine .inr ⟨fun hd => ?_, .inr ⟨fun i y hi hy => ?_, hx⟩⟩
    · have := hn j o ho hd
      rw [listed_set hj] at this
      simp [add] at this
    · have := hn i y hi hy
      rw [listed_set hj] at this
      simp only [add, Bool.or_eq_false_iff] at this
      exact this.2

theorem inv_or {D : List Deferred} {listed : Array Bool} {g : G} {a : Act} {w : World} (I : Inv B W N ops S M D listed g a w) {j : Nat} (U : Up ops listed j) {o : Oper} (ho : ops[j]? = some o) : OR g (S j) a o.op.operands.toList := by
  intro x hx
  cases x with
  | tmp t =>
    refine I.sl t _ (slot_looks R U ho ?_)
    unfold Oper.looksAt
    simp only [List.mem_append, List.mem_filterMap]
    exact .inl ⟨_, hx, rfl⟩
  | const v => exact rel_ofConst v
  | global i => rfl
  | func f => exact ⟨[], [], rfl, .nil, .nil⟩

theorem inv_wanted {D : List Deferred} {listed : Array Bool} {g : G} {a : Act} {w : World} (I : Inv B W N ops S M D listed g a w) {j : Nat} (U : Up ops listed j) {o : Oper} (ho : ops[j]? = some o) :
    Region.wanted o (ayields ops (S j)) = Region.wanted o (yielded ops a.tmps) := by
  unfold Region.wanted
  cases hg : o.guard with
  | none => rfl
  | some q =>
    obtain ⟨k, b⟩ := q
    dsimp only
    have : ayields ops (S j) k = yielded ops a.tmps k := by
      unfold ayields yielded
      cases hd : (ops[k]?).bind (·.dst) with
      | none => rfl
      | some d =>
        simp only [Option.bind_some]
        have hr := I.sl d _ (slot_looks R U ho (t := d) (by unfold Oper.looksAt; rw [hg]; simp [hd]))
        rw [bool_of_rel hr]
        cases ht : a.tmps[d]? with
        | none => simp [ht, undef, vbool]
        | some v => simp [ht]; cases v <;> rfl
    rw [this]

theorem inv_put {D : List Deferred} {listed : Array Bool} {g g' : G} {a : Act} {w w' : World} (I : Inv B W N ops S M D listed g a w) {j : Nat} (U : Up ops listed j) {o : Oper} (ho : ops[j]? = some o) {x : AV} {v : Value} (hl : g.le g') (hx : Rel g' x v)
    (hp : aput N (S j) o.dst x = some (S (j + 1))) (hm : ∃ mm, WR B W g' mm w' ∧ cont mm = F ops S M (add (fun i => listed.getD i false) j) ops.size) :
    Inv B W N ops S M D (listed.setIfInBounds j true) g' (a.put o.dst v) w' := by
  have hj : j < listed.size := by rw [I.size]; exact U.lt
  refine ⟨by simp [I.size], fun k y hk hl e he hb => ?_, ?_, ?_, fun t y hy => ?_, ?_⟩
  · unfold Li at hl ⊢
    rw [listed_set hj] at hl ⊢
    simp only [add, Bool.or_eq_true, beq_iff_eq] at hl ⊢
    rcases hl with hl | hl
    · subst hl
      exact .inr (U.pre _ hk e he hb)
    · exact .inr (I.dc k y hk hl e he hb)
  · cases o.dst <;> simp [Act.put, I.tm]
  · cases o.dst <;> simp [Act.put, I.df]
  · rcases slot_set R hj ho hy with ⟨hd, rfl⟩ | ⟨hd, hs⟩
    · rw [hd] at hp ⊢
      simp only [aput] at hp
      split at hp
      · rename_i ht
        simp only [Option.some.injEq] at hp
        rw [← hp, Sl.at_set, if_pos rfl]
        simp only [Act.put]
        rw [Array.getD_eq_getD_getElem?, Array.getElem?_setIfInBounds]
        simp only [if_true, I.tm, ht, Option.getD_some]
        exact hx
      · cases hp
    · have hr := (I.sl t y hs).mono hl _ _
      cases hdd : o.dst with
      | none => exact hr
      | some d =>
        rw [hdd] at hd
        have hne : d ≠ t := fun e => hd (by rw [e])
        simp only [Act.put]
        rw [Array.getD_eq_getD_getElem?, Array.getElem?_setIfInBounds, if_neg hne, ← Array.getD_eq_getD_getElem?]
        exact hr
  · obtain ⟨mm, h1, h2⟩ := hm
    refine ⟨mm, h1, h2.trans (F_below _ _ _ fun i _ => (listed_set hj i).symm)⟩

/-- One operation comes up. -/
theorem inv_step (hH : HSound P B W H) {D : List Deferred} {listed : Array Bool} {g : G} {a : Act} {w : World} (I : Inv B W N ops S M D listed g a w) {j : Nat} (U : Up ops listed j) {Q : Exit → Act → World → Prop} {K : Act → World → Prop}
    (hK : ∀ g' a' w', g.le g' → Inv B W N ops S M D (listed.setIfInBounds j true) g' a' w' → K a' w') : wpOp P ops Q j K a w := by
  obtain ⟨o, ho⟩ : ∃ o, ops[j]? = some o := ⟨_, Array.getElem?_eq_getElem U.lt⟩
  unfold wpOp
  rw [ho]
  dsimp only
  rw [← inv_wanted R I U ho]
  obtain ⟨mm, hmm, hc⟩ := I.mm
  have hj := U.lt
  rcases R.trace.step j o ho with ⟨hw, v, hs, hp⟩ | ⟨hw, hp, hm⟩
  · rw [if_pos hw]
    refine .inl ?_
    rcases rank_le o with hr | hr | hr | hr
    · obtain ⟨-, h2⟩ := pure_step hr hs
      refine astep_sound hH hmm (fun h => by omega) (inv_or R I U ho) (h2 mm) fun g' v' w' l1 r1 w1 => hK g' _ w' l1 (inv_put R I U ho l1 r1 hp ⟨mm, w1, ?_⟩)
      rw [hc, up_idle R (listed := listed) ho (.inl (by omega))]
    · obtain ⟨T, y, hop, hm, hld, h2⟩ := load_step hr hs
      have : aload P T (ev (S j) y) mm = some v := by
        unfold aload at hld ⊢
        cases hy : ev (S j) y with
        | ptr id off =>
          rw [hy] at hld
          dsimp only at hld ⊢
          cases hg : (M j).get id with
          | none => rw [hg] at hld; cases hld
          | some q =>
            obtain ⟨cs, f, vr⟩ := q
            rw [hg] at hld
            have hl := up_load R U ho hr hw (id := id) (cs := cs) (by simp [objOf, hop, hy]) (by unfold cc; rw [cont_get.2 ⟨vr, hg⟩]; rfl)
            rw [← hc] at hl
            unfold cc at hl
            simp only [Option.map_eq_some_iff] at hl
            obtain ⟨⟨cs', f'⟩, h3, rfl⟩ := hl
            obtain ⟨v3, h4⟩ := cont_get.1 h3
            rw [h4]
            exact hld
        | cptr q off => rw [hy] at hld; exact hld
        | _ => rw [hy] at hld; cases hld
      refine astep_sound hH hmm (fun h => by omega) (inv_or R I U ho) (h2 mm this) fun g' v' w' l1 r1 w1 => hK g' _ w' l1 (inv_put R I U ho l1 r1 hp ⟨mm, w1, ?_⟩)
      rw [hc, up_idle R (listed := listed) ho (.inl (by omega))]
    · obtain ⟨h1, h2⟩ := up_call R U ho hr
      refine astep_sound hH (hmm.congr (hc.trans h1)) (fun _ => mem_vi R j (by omega)) (inv_or R I U ho) hs fun g' v' w' l1 r1 w1 => hK g' _ w' l1 (inv_put R I U ho l1 r1 hp ⟨_, w1, h2.symm⟩)
    · obtain ⟨id, cs, ver, cs', a1, a2, a3, _, a4⟩ := store_text R j o ho hr hw
      obtain ⟨h1, h2⟩ := up_store R U ho hr hw a1 a2 a3
      rw [← hc] at h1 h2
      obtain ⟨v2, h3⟩ := cont_get.1 h1
      have h4 := a4 mm v2 h3
      obtain ⟨_, _, _, _, _, _, _, hv, _⟩ := store_step hr hs
      subst hv
      refine astep_sound hH hmm (fun h => by omega) (inv_or R I U ho) h4 fun g' v' w' l1 r1 w1 => hK g' _ w' l1 (inv_put R I U ho l1 r1 hp ⟨_, w1, ?_⟩)
      rw [h2, cont_set R]
  · rw [hw]
    simp only [Bool.false_eq_true, if_false]
    refine hK g _ w (.refl g) (inv_put R I U ho (.refl g) (x := undefV) (v := undef) (by rfl) hp ?_)
    rcases rank_le o with hr | hr | hr | hr
    · exact ⟨mm, hmm, by rw [hc, up_idle R (listed := listed) ho (.inl (by omega))]⟩
    · exact ⟨mm, hmm, by rw [hc, up_idle R (listed := listed) ho (.inl (by omega))]⟩
    · obtain ⟨h1, h2⟩ := up_call R U ho hr
      exact ⟨mm, hmm, by rw [hc, h1, h2, hm]⟩
    · exact ⟨mm, hmm, by rw [hc, up_idle R (listed := listed) ho (.inr ⟨hr, hw⟩)]⟩

omit R in
theorem ready_up {listed : Array Bool} (hs : listed.size = ops.size) (hd : DC ops listed) {j : Nat} (h : j ∈ Region.ready .any ops listed) : Up ops listed j := by
  unfold Region.ready at h
  simp only [List.mem_filter, List.mem_range, Bool.and_eq_true, Bool.not_eq_true'] at h
  obtain ⟨h1, h2, h3⟩ := h
  refine ⟨hd, ?_, h1, fun o ho e he hb => ?_⟩
  · have : j < listed.size := by omega
    simpa [this] using h2
  · rw [ho] at h3
    simp only [Option.map_some, Option.getD_some] at h3
    have := Array.all_eq_true_iff_forall_mem.1 h3 e he
    simpa [hb, Li] using this

theorem ready_nil {listed : Array Bool} (hs : listed.size = ops.size) (hr : Region.ready .any ops listed = []) : ∀ j, j < ops.size → listed.getD j false = true := by
  intro j
  induction j using Nat.strongRecOn with
  | _ j ih =>
    intro hj
    have ho := Array.getElem?_eq_getElem hj
    cases hl : listed.getD j false with
    | true => rfl
    | false =>
      have hmem : j ∈ Region.ready .any ops listed := by
        unfold Region.ready
        simp only [List.mem_filter, List.mem_range, Bool.and_eq_true, Bool.not_eq_true']
        refine ⟨hj, ?_, ?_⟩
        · have : j < listed.size := by omega
          simpa [this] using hl
        · rw [ho]
          simp only [Option.map_some, Option.getD_some]
          refine Array.all_eq_true_iff_forall_mem.2 fun e he => ?_
          cases hb : Region.binds .any e with
          | false => rfl
          | true =>
            have hlt := draw_back R.draw ho e he hb
            simpa using ih e.on hlt (by omega)
      rw [hr] at hmem
      cases hmem

theorem inv_end {D : List Deferred} {listed : Array Bool} {g : G} {a : Act} {w : World} (I : Inv B W N ops S M D listed g a w) (hall : ∀ j, j < ops.size → listed.getD j false = true) : SR g N (S ops.size) a ∧ WR B W g (M ops.size) w := by
  refine ⟨⟨I.tm, fun t => I.sl t _ ?_⟩, ?_⟩
  · by_cases hw : ∃ (i : Nat) (x : Oper), ops[i]? = some x ∧ x.dst = some t
    · obtain ⟨i, x, hi, hx⟩ := hw
      have hil := (Array.getElem?_eq_some_iff.1 hi).1
      refine .inl ⟨i, x, hi, hx, hall i hil, ?_⟩
      refine slot_keep R t (i + 1) ops.size hil (Nat.le_refl _) fun k y h1 h2 hk hy => ?_
      have := dst_one R.draw hi hk hx hy
      omega
    · refine .inr ⟨fun k y hk hy => absurd ⟨k, y, hk, hy⟩ hw, ?_⟩
      exact slot_keep R t 0 ops.size (by omega) (Nat.le_refl _) fun k y h1 h2 hk hy => hw ⟨k, y, hk, hy⟩
  · obtain ⟨mm, h1, h2⟩ := I.mm
    refine h1.congr (h2.trans ?_)
    exact F_prefix R _ ops.size (Nat.le_refl _) fun i o hi _ _ => hall i hi

theorem inv_any (hH : HSound P B W H) {D : List Deferred} {Q : Exit → Act → World → Prop} (g0 : G) (hQ : ∀ g' a' w', g0.le g' → a'.defers = D → SR g' N (S ops.size) a' → WR B W g' (M ops.size) w' → Q .normal a' w') :
    ∀ (fuel : Nat) (listed : Array Bool) (g : G) (a : Act) (w : World), g0.le g → Inv B W N ops S M D listed g a w → listed.toList.count false = fuel → wpAny P .any ops Q fuel listed a w := by
  intro fuel
  induction fuel with
  | zero =>
    intro listed g a w hg I hf
    have hall : ∀ j, j < ops.size → listed.getD j false = true := by
      intro j hj
      have hj' : j < listed.size := by rw [I.size]; exact hj
      have h1 := List.count_eq_zero.1 hf
      cases hb : listed[j] with
      | true => simp [hj', hb]
      | false => exact absurd (by rw [← hb]; simp) h1
    refine ⟨?_, ?_⟩
    · cases hr : Region.ready .any ops listed with
      | nil => rfl
      | cons j l =>
        have U := ready_up I.size I.dc (show j ∈ Region.ready .any ops listed by rw [hr]; simp)
        have := hall j U.lt
        rw [U.not] at this; cases this
    · obtain ⟨h1, h2⟩ := inv_end R I hall
      exact hQ g a w hg I.df h1 h2
  | succ fuel ih =>
    intro listed g a w hg I hf
    refine ⟨fun hr => ?_, fun j hj => ?_⟩
    · obtain ⟨h1, h2⟩ := inv_end R I (ready_nil R I.size hr)
      exact hQ g a w hg I.df h1 h2
    · have U := ready_up I.size I.dc hj
      refine inv_step R hH I U fun g' a' w' hl I' => ih _ g' a' w' (hg.trans hl) I' ?_
      have hj' : j < listed.size := by rw [I.size]; exact U.lt
      have hb : listed[j] = false := by have := U.not; simpa [hj'] using this
      rw [Array.toList_setIfInBounds, List.count_set (by simpa using hj')]
      simp [hb, hf]
end

/-- A region whose order is open. -/
theorem region_any {N : Nat} {ops : Array Oper} {s s' : Sl} {m m' : Mem} {ms : List (Sl × Mem)} (hH : HSound P B W H) (hV : HVer H) (hP : P.follows .mixedOrders = true) (hvi : VI m) (hd : drawOk ops = true) (hm : metAll ops ms = true)
    (e : aopsT P H N ops ops.toList s m = some (s', m', ms)) {g : G} {a : Act} {w : World} (k : SR g N s a) (h : WR B W g m w) {Q : Exit → Act → World → Prop}
    (hQ : ∀ g' a' w', g.le g' → a'.defers = a.defers → SR g' N s' a' → WR B W g' m' w' → Q .normal a' w') (id : Nat) : (Code.region id ops true).wp P Q a w := by
  obtain ⟨S, M, rfl, rfl, h3, h4, h5, h6⟩ := trace_of N ops ops.toList 0 s m s' m' ms e
  simp only [Nat.zero_add, Array.length_toList] at h3 h4 h5
  subst h3 h4
  have R : Run P H N ops S M ms := ⟨⟨fun i o ho => h6 i o (by omega) (by simpa using ho)⟩, hd, hm, fun k hk => by rw [h5, if_pos hk], hV, hvi⟩
  refine wp_region_any hP (inv_any R hH (D := a.defers) g hQ ops.size _ g a _ (.refl g) ⟨by simp, fun j o ho hl => ?_, k.size, rfl, fun t x hx => ?_, M 0, h.drew, ?_⟩ (by simp))
  · unfold Li at hl
    rw [Array.getD_eq_getD_getElem?, Array.getElem?_replicate] at hl
    split at hl <;> cases hl
  · rcases hx with ⟨i, o, _, _, hl, _⟩ | ⟨_, rfl⟩
    · rw [Array.getD_eq_getD_getElem?, Array.getElem?_replicate] at hl
      split at hl <;> cases hl
    · exact k.rel t
  · refine (F_tail (ops := ops) (S := S) (M := M) (fun i => (Array.replicate ops.size false).getD i false) 0 ops.size (by omega) fun i o _ _ hl => ?_).symm
    rw [Array.getD_eq_getD_getElem?, Array.getElem?_replicate] at hl
    split at hl <;> cases hl
end Go.V
