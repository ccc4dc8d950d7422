/- The abstract operations are sound: slices' bounds, lengths, new slices. -/
import Derived.Test.YtipmoeclkamciaaVOps2
set_option linter.unusedSimpArgs false
set_option linter.unusedVariables false
set_option linter.unusedSectionVars false
namespace Go.V
open Go.RowKit
variable {P : Program} {B : Nat} {W : World} {g : G} {m : Mem} {w : World}

def orel (g : G) : Option AV → Option Value → Prop
  | some x, some v => Rel g x v
  | none, none => True
  | _, _ => False

theorem obnd_rel : ∀ {lo : Option AV} {l : Option Nat} (_ : obnd lo = some l) {vlo : Option Value} (_ : orel g lo vlo), (l = none ∧ vlo = none) ∨ ∃ kk i, 0 ≤ i ∧ l = some i.toNat ∧ vlo = some (.int kk i)
  | none, l, h, none, _ => by simp only [obnd, Option.some.injEq] at h; exact .inl ⟨h.symm, rfl⟩
  | none, l, h, some v, k => k.elim
  | some x, l, h, none, k => by cases x <;> exact k.elim
  | some x, l, h, some v, k => by
    unfold obnd at h
    split at h
    · rename_i heq; cases heq
    · rename_i kk i heq
      split at h
      · rename_i hi
        cases h
        cases heq
        simp only [orel, Rel] at k
        subst k
        exact .inr ⟨kk, i, hi, rfl, rfl⟩
      · cases h
    · cases h

theorem run_bound (kk : IntKind) (i : Int) (y : Nat) (code : BoundsCode) (h0 : 0 ≤ i) (h1 : i.toNat ≤ y) (w : World) : (Instr.sliceBound (.int kk i) y code).run P w = .ok i.toNat w := by
  have : 0 ≤ i ∧ i ≤ y := ⟨h0, by omega⟩
  simp [Instr.sliceBound, asIntOf, this]

/-- The three bounds, as the machine reckons them. -/
theorem run_bounds {len cap : Nat} {l h q : Option Nat} {lo hi mx : Option Value}
    (hl : (l = none ∧ lo = none) ∨ ∃ kk i, 0 ≤ i ∧ l = some i.toNat ∧ lo = some (.int kk i))
    (hh : (h = none ∧ hi = none) ∨ ∃ kk i, 0 ≤ i ∧ h = some i.toNat ∧ hi = some (.int kk i))
    (hq : (q = none ∧ mx = none) ∨ ∃ kk i, 0 ≤ i ∧ q = some i.toNat ∧ mx = some (.int kk i))
    (c0 : q.isSome = true → h.isSome = true) (c1 : l.getD 0 ≤ h.getD len) (c2 : h.getD len ≤ q.getD cap) (c3 : q.getD cap ≤ cap) (w : World) :
    (Instr.sliceBounds true len cap lo hi mx).run P w = .ok (l.getD 0, h.getD len, q.getD cap) w := by
  rcases hq with ⟨rfl, rfl⟩ | ⟨k3, i3, h3, rfl, rfl⟩ <;> rcases hh with ⟨rfl, rfl⟩ | ⟨k2, i2, h2, rfl, rfl⟩ <;> rcases hl with ⟨rfl, rfl⟩ | ⟨k1, i1, h1, rfl, rfl⟩ <;>
    first
    | (simp at c0; done)
    | (simp only [Option.getD_some, Option.getD_none] at c1 c2 c3 ⊢
       simp only [Instr.sliceBounds]
       simp [run_bound, *])

theorem aslice_sound {T : TypeId} {a : AV} {v : Value} (k : Rel g a v) {lo hi mx : Option AV} {vlo vhi vmx : Option Value} (kl : orel g lo vlo) (kh : orel g hi vhi) (kq : orel g mx vmx)
    {x : AV} (e : aslice P T a lo hi mx = some x) (w : World) : ∃ u, (Instr.sliceAt T v vlo vhi vmx).run P w = .ok u w ∧ Rel g x u := by
  have gen : aslice1 P T a lo hi mx = some x → ∃ u, (Instr.sliceAt T v vlo vhi vmx).run P w = .ok u w ∧ Rel g x u := by
    intro e'
    unfold aslice1 at e'
    split at e'
    · rename_i el l h q ht hlo hhi hmx
      have bl := obnd_rel hlo kl
      have bh := obnd_rel hhi kh
      have bq := obnd_rel hmx kq
      have hu := of_telem ht
      split at e'
      · rename_i ks hs
        have key : ∀ (ad : Option Addr) (len cap : Nat), v = .slice ad len cap → (q.isSome = true → h.isSome = true) → l.getD 0 ≤ h.getD len → h.getD len ≤ q.getD cap → q.getD cap ≤ cap →
            (Instr.sliceAt T v vlo vhi vmx).run P w = .ok (.slice (if q.getD cap = l.getD 0 then ad else ad.map (·.add (l.getD 0 * ks))) (h.getD len - l.getD 0) (q.getD cap - l.getD 0)) w := by
          intro ad len cap hv c0 c1 c2 c3
          subst hv
          have := run_bounds (P := P) bl bh bq c0 c1 c2 c3 w
          simp [Instr.sliceAt, run_underlying hu, Instr.slice, this, run_tsize hs]
        split at e'
        · rename_i b
          split at e'
          · rename_i hc
            obtain ⟨c1, c2, c3⟩ := hc
            cases e'
            match b, k, c3 with
            | 0, k, _ =>
              simp only [Rel] at k
              refine ⟨_, key none 0 0 k (by simp) (by omega) (by simp [c2]) (by simp), ?_⟩
              simp [c1, c2, Rel]
            | 1, k, _ =>
              simp only [Rel] at k
              obtain ⟨a, k⟩ := k
              refine ⟨_, key a 0 0 k (by simp) (by omega) (by simp [c2]) (by simp), ?_⟩
              simp [c1, c2, Rel]
            | 2, k, _ =>
              simp only [Rel] at k
              obtain ⟨a, c, k⟩ := k
              refine ⟨_, key (some a) 0 c k (by simp) (by omega) (by simp [c2]) (by simp), ?_⟩
              simp only [c1, c2, Rel]
              simp [Addr.add]
            | b + 3, k, c3 => omega
          · cases e'
        · rename_i b q'
          split at e'
          · rename_i hc
            obtain ⟨c1, rfl, rfl⟩ := hc
            cases e'
            match b, k with
            | 0, k =>
              simp only [Rel] at k
              refine ⟨_, key none 0 0 k (by simp) (by simp [c1]) (by simp) (by simp), ?_⟩
              simp [c1, Rel]
            | 1, k =>
              simp only [Rel] at k
              obtain ⟨a, k⟩ := k
              refine ⟨_, key a 0 0 k (by simp) (by simp [c1]) (by simp) (by simp), ?_⟩
              simp [c1, Rel]
            | 2, k =>
              simp only [Rel] at k
              obtain ⟨a, c, k⟩ := k
              refine ⟨_, key (some a) 0 c k (by simp) (by simp [c1]) (by simp) (by simp), ?_⟩
              simp [c1, Rel]
            | b + 3, k => exact k.elim
          · cases e'
        · rename_i xs
          split at e'
          · rename_i hc
            obtain ⟨c1, c2, c3⟩ := hc
            cases e'
            simp only [Rel] at k
            obtain ⟨ad, c, vs, kz, k, h1, ⟨h2, h2n⟩, h3⟩ := k
            refine ⟨_, key ad xs.length c k (by simp) c1 (by simp; omega) (by simp), ?_⟩
            simp only [Option.getD_none]
            have hvl := h1.length
            refine ⟨if c = l.getD 0 then ad else ad.map (·.add (l.getD 0 * ks)), c - l.getD 0, (vs.take (h.getD xs.length)).drop (l.getD 0), ks, by simp [Nat.min_eq_left c2], (h1.take _).drop _, ⟨by simp [Nat.min_eq_left c2]; omega, fun e => by have : ad = none := (by split at e; exact e; simpa using e); have := h2n this; omega⟩, fun i u hu => ?_⟩
            rw [List.getElem?_drop, List.getElem?_take] at hu
            split at hu
            · rename_i hlt
              obtain ⟨g1, b, o, rfl, g2⟩ := h3 _ _ hu
              obtain ⟨y, hy, hyr⟩ := h1.get' _ _ hu
              have hks : kz = ks := by
                have := List.all_eq_true.1 c3 y (List.mem_of_getElem? hy)
                simp only [beq_iff_eq] at this
                rw [this, ← g1, ← hyr.cells.length]
                simp
              subst hks
              refine ⟨g1, b, o + l.getD 0 * kz, ?_, ?_⟩
              · rw [if_neg (by omega)]
                simp [add_mk]
              · have : o + l.getD 0 * kz + i * kz = o + (l.getD 0 + i) * kz := by rw [Nat.add_mul]; omega
                rw [this]
                exact g2
            · cases hu
          · cases e'
        · rename_i xs q'
          split at e'
          · rename_i hc
            obtain ⟨rfl, c2, c3⟩ := hc
            cases e'
            simp only [Rel] at k
            obtain ⟨ad, c, vs, kz, k, h1, ⟨h2, h2n⟩, h3⟩ := k
            refine ⟨_, key ad xs.length c k (by simp) (by simp) (by simp; omega) (by simp; omega), ?_⟩
            simp only [Option.getD_some, Rel]
            refine ⟨ad, ?_⟩
            rw [if_pos c2.symm]
            simp [c2]
          · cases e'
        · rename_i id off len k' ag cap
          split at e'
          · rename_i hc
            obtain ⟨c1, c2, rfl⟩ := hc
            cases e'
            simp only [Rel] at k
            obtain ⟨hid, ad, c, k, h1, h2, h3, h4⟩ := k
            refine ⟨_, key (some ad) len c k (by simp) c1 (by simp; omega) (by simp), ?_⟩
            simp only [Option.getD_none, Rel]
            refine ⟨hid, if c = l.getD 0 then ad else ad.add (l.getD 0 * k'), c - l.getD 0, ?_, by omega, fun hc0 => ?_, ?_, ?_⟩
            · split <;> rfl
            · obtain ⟨rfl, h6⟩ := h2 (by omega)
              rw [if_neg (by omega), add_mk]
              refine ⟨by rw [Nat.add_assoc], ?_⟩
              have : (c - l.getD 0) * k' + l.getD 0 * k' = c * k' := by rw [← Nat.add_mul]; congr 1; omega
              omega
            · intro c' hc'
              cases cap with
              | none => cases hc'
              | some c0 => simp only [Option.map_some, Option.some.injEq] at hc'; rw [h3 c0 rfl, hc']
            · intro hc'
              cases cap with
              | some c0 => cases hc'
              | none =>
                have := h4 rfl
                have h5 : (c - l.getD 0) * k' + l.getD 0 * k' = c * k' := by rw [← Nat.add_mul]; congr 1; omega
                omega
          · cases e'
        · rename_i id off len k' ag cap q'
          split at e'
          · rename_i h'
            split at e'
            · rename_i hc
              obtain ⟨c1, c2, c3, rfl⟩ := hc
              simp only [Rel] at k
              obtain ⟨hid, ad, c, k, h1, h2, h3, h4⟩ := k
              have hrun := key (some ad) len c k (by simp) (by simpa using c1) (by simpa using c2) (by simp; omega)
              simp only [Option.getD_some] at hrun
              split at e'
              · rename_i hq
                cases e'
                refine ⟨_, hrun, some ad, ?_⟩
                rw [if_pos hq.symm]
                congr 1 <;> omega
              · rename_i hq
                cases e'
                refine ⟨_, hrun, hid, ad.add (l.getD 0 * k'), q' - l.getD 0, ?_, by omega, fun hc0 => ?_, ?_, by simp⟩
                · rw [if_neg (by omega)]; rfl
                · obtain ⟨rfl, h6⟩ := h2 (by omega)
                  rw [add_mk]
                  refine ⟨by rw [Nat.add_assoc], ?_⟩
                  have : (q' - l.getD 0) * k' + l.getD 0 * k' = q' * k' := by rw [← Nat.add_mul]; congr 1; omega
                  have : q' * k' ≤ c * k' := Nat.mul_le_mul_right _ (by omega)
                  omega
                · intro c' hc'; simpa using hc'
            · cases e'
          · cases e'
        · cases e'
      · cases e'
    · cases e'
  cases a with
  | sc u =>
    cases u with
    | string s =>
      simp only [Rel] at k
      subst k
      simp only [aslice] at e
      split at e
      · rename_i l h hl hh
        have e1 : ∀ {lo : Option AV} {vlo l : Option Value}, orel g lo vlo → oscal lo = some l → vlo = l := by
          intro lo vlo l kl hl
          cases lo with
          | none => cases vlo with
            | none => simpa [oscal] using hl
            | some v => exact kl.elim
          | some y => cases vlo with
            | none => exact kl.elim
            | some v =>
              simp only [oscal, Option.map_eq_some_iff] at hl
              obtain ⟨u, h1, rfl⟩ := hl
              rw [scal_rel h1 kl]
        have e3 : vmx = none := by
          cases vmx with
          | none => rfl
          | some v => exact kq.elim
        rw [e1 kl hl, e1 kh hh, e3]
        cases hp : pureRun P (Instr.sliceAt T (.string s) l h none) with
        | none => rw [hp] at e; cases e
        | some u => rw [hp] at e; cases e; exact ⟨u, pureRun_sound _ _ hp w, rfl⟩
      · cases e
    | _ => exact gen e
  | _ => exact gen e

theorem alen_sound {T ty : TypeId} {a : AV} {v : Value} (k : Rel g a v) {x : AV} (e : alen P T a = some x) (w : World) : ∃ u, (Builtin.len_ #[T] ty #[v]).run P w = .ok u w ∧ Rel g x u := by
  have hty : Builtin.len_ #[T] ty #[v] = Builtin.len_ #[T] 0 #[v] := rfl
  rw [hty]
  have sl : ∀ (ad : Option Addr) (n c : Nat), (telem P T).isSome = true → v = .slice ad n c → (Builtin.len_ #[T] 0 #[v]).run P w = .ok (goInt n) w := by
    intro ad n c ht hv
    obtain ⟨el, hel⟩ := Option.isSome_iff_exists.1 ht
    subst hv
    simp [Builtin.len_, run_underlying (of_telem hel)]
  cases a with
  | sc u =>
    simp only [alen] at e
    simp only [Rel] at k
    subst k
    cases hp : pureRun P (Builtin.len_ #[T] 0 #[v]) with
    | none => rw [hp] at e; cases e
    | some r => rw [hp] at e; cases e; exact ⟨r, pureRun_sound _ _ hp w, rfl⟩
  | emp n =>
    simp only [alen] at e
    split at e
    · rename_i ht
      cases e
      match n, k with
      | 0, k => simp only [Rel] at k; exact ⟨_, sl _ _ _ ht k, rfl⟩
      | 1, k => simp only [Rel] at k; obtain ⟨_, k⟩ := k; exact ⟨_, sl _ _ _ ht k, rfl⟩
      | 2, k => simp only [Rel] at k; obtain ⟨_, _, k⟩ := k; exact ⟨_, sl _ _ _ ht k, rfl⟩
      | n + 3, k => exact k.elim
    · cases e
  | lst xs =>
    simp only [alen] at e
    split at e
    · rename_i ht
      cases e
      simp only [Rel] at k
      obtain ⟨a, c, vs, q, k, _⟩ := k
      exact ⟨_, sl _ _ _ ht k, rfl⟩
    · cases e
  | sl id off len q ag cap =>
    simp only [alen] at e
    split at e
    · rename_i ht
      cases e
      simp only [Rel] at k
      obtain ⟨_, a, c, k, _⟩ := k
      exact ⟨_, sl _ _ _ ht k, rfl⟩
    · cases e
  | agg cs =>
    simp only [alen] at e
    cases ht : tarr P T with
    | none => rw [ht] at e; cases e
    | some n =>
      rw [ht] at e
      cases e
      refine ⟨goInt n.1, ?_, rfl⟩
      simp [Builtin.len_, run_underlying (of_tarr ht)]
  | _ => simp [alen] at e

theorem acap_sound {T ty : TypeId} {a : AV} {v : Value} (k : Rel g a v) {x : AV} (e : acap P T a = some x) (w : World) : ∃ u, (Builtin.cap_ #[T] ty #[v]).run P w = .ok u w ∧ Rel g x u := by
  have sl : ∀ (ad : Option Addr) (n c : Nat), (telem P T).isSome = true → v = .slice ad n c → (Builtin.cap_ #[T] ty #[v]).run P w = .ok (goInt c) w := by
    intro ad n c ht hv
    obtain ⟨el, hel⟩ := Option.isSome_iff_exists.1 ht
    subst hv
    simp [Builtin.cap_, run_underlying (of_telem hel)]
  unfold acap at e
  split at e
  · split at e
    · rename_i ht
      cases e
      rename_i n
      match n, ht, k with
      | 0, ht, k => simp only [Rel] at k; exact ⟨_, sl _ _ _ ht.2 k, rfl⟩
      | 1, ht, k => simp only [Rel] at k; obtain ⟨_, k⟩ := k; exact ⟨_, sl _ _ _ ht.2 k, rfl⟩
      | n + 2, ht, k => omega
    · cases e
  · split at e
    · rename_i ht
      cases e
      simp only [Rel] at k
      obtain ⟨_, a, c, k, _, _, h, _⟩ := k
      rw [h _ rfl] at k
      exact ⟨_, sl _ _ _ ht k, rfl⟩
    · cases e
  · cases e

theorem rels_zeros {z : AV} {zv : Value} (k : Rel g z zv) (hz : 0 < zv.cells.size) : ∀ n, Rels g (zeros z.cells n) ((List.range (n * zv.cells.size)).map fun i => zv.cells[i % zv.cells.size]!)
  | 0 => by simp [zeros, Rels]
  | n + 1 => by
    have ih := rels_zeros k hz n
    have : (n + 1) * zv.cells.size = zv.cells.size + n * zv.cells.size := by rw [Nat.succ_mul]; omega
    rw [this, List.range_add, List.map_append]
    simp only [zeros]
    refine Rels.append ?_ ?_
    · have : (List.range zv.cells.size).map (fun i => zv.cells[i % zv.cells.size]!) = zv.cells.toList := by
        apply List.ext_getElem
        · simp
        · intro i h1 h2
          simp at h1
          simp [Nat.mod_eq_of_lt h1, h1]
      rw [this]
      exact k.cells
    · rw [List.map_map]
      have : ((fun i => zv.cells[i % zv.cells.size]!) ∘ fun x => zv.cells.size + x) = fun i => zv.cells[i % zv.cells.size]! := by
        funext i
        simp
      rw [this]
      exact ih

theorem one_zeros {z : AV} {zv : Value} (k : Rel g z zv) (hok : z.okc = true) (hz : 0 < zv.cells.size) (n : Nat) : ∀ u ∈ ((List.range (n * zv.cells.size)).map fun i => zv.cells[i % zv.cells.size]!), u.oneCell' = true := by
  intro u hu
  obtain ⟨i, _, rfl⟩ := List.mem_map.1 hu
  refine k.one hok _ ?_
  have : i % zv.cells.size < zv.cells.size := Nat.mod_lt _ hz
  simp [this]

/-- A slice over a new block. -/
theorem rel_new_sl (g : G) (b s l : Nat) (len k : Nat) (ag : Bool) (cap : Option Nat) (c : Nat) (h1 : len ≤ c) (h2 : c * k ≤ s) (h3 : ∀ c', cap = some c' → c = c') (h4 : cap = none → l ≤ c * k) :
    Rel (g.new b 0 s l) (.sl g.n 0 len k ag cap) (.slice (some ⟨b, 0, none⟩) len c) := by
  simp only [Rel]
  refine ⟨Nat.lt_succ_self _, ⟨b, 0, none⟩, c, rfl, h1, fun _ => ?_, h3, fun hc => ?_⟩
  · simp [G.new, h2]
  · simp [G.new, h4 hc]

theorem abuildSlice_sound (h : WR B W g m w) {T : TypeId} {len : Nat} {ps : List (Nat × AV)} {pv : List (Nat × Value)} (h1 : ps.map (·.1) = pv.map (·.1)) (h2 : Rels g (ps.map (·.2)) (pv.map (·.2)))
    {x : AV} {m' : Mem} (e : abuildSlice P T len ps m = some (x, m')) :
    ∃ u w' g', (Instr.buildSlice T len pv.toArray).run P w = .ok u w' ∧ g.le g' ∧ Rel g' x u ∧ WR B W g' m' w' := by
  unfold abuildSlice at e
  split at e
  · rename_i el ht
    split at e
    · rename_i k z ag hs hz hag
      split at e
      · rename_i hc
        obtain ⟨c1, c2, c3, c4⟩ := hc
        obtain ⟨zv, hzv, hzr, _⟩ := run_tzero hz
        dsimp only at e
        obtain ⟨g1, l1, w1, r1⟩ := fzvs_sound _ h h2
        generalize hfz : fzvs m (ps.map (·.2)) = fz at *
        obtain ⟨ps', m1⟩ := fz
        dsimp only at e w1 r1
        cases hf : fillAt (fun i => some (i * k, k)) (zeros z.cells len) ((ps.map (·.1)).zip ps') with
        | none => rw [hf] at e; cases e
        | some cs' =>
          rw [hf] at e
          simp only [Option.map_some, Option.some.injEq, Prod.mk.injEq] at e
          obtain ⟨rfl, rfl⟩ := e
          have hr : Rel g1 z zv := by rw [hzv]; exact rel_ofConst zv
          have hzs : zv.cells.size = k := by rw [← c3, ← hr.cells.length]; simp
          have hl1 : (ps.map (·.1)).length = ps'.length := by
            have a1 := h2.length; have a2 := r1.length
            simp at a1 a2 ⊢
            omega
          obtain ⟨vs', f1, f2, f3⟩ := fill_sound (fun i => some (i * k, k)) ((ps.map (·.1)).zip ps') (zeros z.cells len) _ pv cs' (rels_zeros hr (by omega) len) (one_zeros hr c2 (by omega) len)
            (by rw [← h1, List.map_fst_zip (by omega)]) (by rw [List.map_snd_zip (by omega)]; exact r1) hf
          have hnew := w1.new (post := []) f2 f3 false el
          simp only [List.append_nil] at hnew
          have hlen : vs'.length = len * k := by
            have key : ∀ (ps : List (Nat × AV)) (cs cs' : List AV), fillAt (fun i => some (i * k, k)) cs ps = some cs' → cs'.length = cs.length := by
              intro ps
              induction ps with
              | nil => intro cs cs' h; simp only [fillAt, Option.some.injEq] at h; rw [h]
              | cons p ps ih =>
                intro cs cs' h
                simp only [fillAt] at h
                split at h
                · rename_i hc'
                  rw [ih _ _ h]
                  simp [splice]
                  omega
                · cases h
            rw [f2.length, key _ _ _ hf, ← (rels_zeros hr (by omega) len).length]
            simp [hzs]
          refine ⟨.slice (some ⟨w.heap.size, 0, none⟩) len len, _, _, ?_, l1.trans (G.le_new _ _ _ _ _), ?_, hnew⟩
          · have hbig : ¬ (2 ^ 24 < len * k) := by omega
            have hzc : zv.cells.size ≠ 0 := by omega
            simp only [Instr.buildSlice, Sem.run_bind, run_underlying (of_telem ht), Result.andThen_ok, run_tsize hs]
            rw [if_neg hbig]
            by_cases h0 : len * k = 0
            · have hl0 : len = 0 := by
                rcases Nat.mul_eq_zero.1 h0 with h | h
                · exact h
                · omega
              subst hl0
              rw [if_pos h0]
              simp only [Nat.zero_mul, List.range_zero, List.map_nil] at f1
              have ha : (Array.map (fun x => (#[] : Array Value)[x % (#[] : Array Value).size]!) (Array.range (0 * k))) = ([] : List Value).toArray := by simp
              simp only [pure_bind, ha, f1, Sem.run_bind, newRow, run_newObj, Result.andThen_ok, Sem.run_pure]
              rfl
            · rw [if_neg h0]
              have ha : ((Array.range (len * k)).map fun i => zv.cells[i % zv.cells.size]!) = ((List.range (len * zv.cells.size)).map fun i => zv.cells[i % zv.cells.size]!).toArray := by
                rw [hzs]
                apply Array.ext'
                simp
              simp only [Sem.run_bind, hzr, Result.andThen_ok, pure_bind, ha, f1, newRow, run_newObj, Sem.run_pure]
              rfl
          · have := w1.n
            rw [this]
            exact rel_new_sl g1 _ _ _ len k ag (some len) len (Nat.le_refl _) (by rw [hlen]; exact Nat.le_refl _) (by intro c' hc'; simpa using hc') (by simp)
      · cases e
    · cases e
  · cases e
end Go.V
