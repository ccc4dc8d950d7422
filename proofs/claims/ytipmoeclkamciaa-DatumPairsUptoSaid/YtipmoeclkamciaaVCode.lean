/- A body's run is sound; functions, by fuel. -/
import Derived.Test.YtipmoeclkamciaaVDraw4
import Derived.Test.YtipmoeclkamciaaVGc
import Derived.LoopN
set_option linter.unusedSimpArgs false
set_option linter.unusedVariables false
set_option linter.unusedSectionVars false
namespace Go.V
open Go.RowKit
variable {P : Program} {B : Nat} {W : World} {H : Calls1}

def ex : Ex → Exit
  | .normal => .normal
  | .exit id => .exit id
  | .goto l => .goto l
  | .ret => .ret

/-- What is to be shown of a text's run. -/
def Runs (P : Program) (B : Nat) (W : World) (N : Nat) (D : List Deferred) (c : Code) (s : Sl) (m : Mem) (e : Ex) (s' : Sl) (m' : Mem) : Prop :=
  ∀ (g : G) (a : Act) (w : World) (Q : Exit → Act → World → Prop), a.defers = D → SR g N s a → WR B W g m w →
    (∀ g' a' w', g.le g' → a'.defers = D → SR g' N s' a' → WR B W g' m' w' → Q (ex e) a' w') → c.wp P Q a w

theorem aloop_sound {N : Nat} {D : List Deferred} {c : Code} {b : Sl → Mem → Option (Ex × Sl × Mem)} (hb : ∀ s m e s' m', b s m = some (e, s', m') → VI m → Runs P B W N D c s m e s' m') (hm : ∀ s m e s' m', b s m = some (e, s', m') → VM m m') :
    ∀ (n : Nat) (s : Sl) (m : Mem) (e : Ex) (s' : Sl) (m' : Mem), aloop b n s m = some (e, s', m') → VI m → ∀ (g : G) (a : Act) (w : World) (Q : Exit → Act → World → Prop), a.defers = D → SR g N s a → WR B W g m w →
    (∀ g' a' w', g.le g' → a'.defers = D → SR g' N s' a' → WR B W g' m' w' → Q (ex e) a' w') → Code.rounds P c Q n a w
  | 0, s, m, e, s', m', h, _ => by cases h
  | n + 1, s, m, e, s', m', h, hv => by
    intro g a w Q hd k hw hQ
    rw [rounds_succ]
    simp only [aloop] at h
    cases hr : b s m with
    | none => rw [hr] at h; cases h
    | some r =>
      obtain ⟨e1, s1, m1⟩ := r
      rw [hr] at h
      refine hb _ _ _ _ _ hr hv g a w _ hd k hw fun g1 a1 w1 l1 d1 k1 h1 => ?_
      cases e1 with
      | normal => exact aloop_sound hb hm n _ _ _ _ _ h ((hm _ _ _ _ _ hr).inv hv) g1 a1 w1 Q d1 k1 h1 fun g' a' w' l' => hQ g' a' w' (l1.trans l')
      | _ => cases h; exact hQ g1 a1 w1 l1 d1 k1 h1

theorem acode_sound (hP : P.follows .mixedOrders = true) (hH : HSound P B W H) (hV : HVer H) {N fuel : Nat} {D : List Deferred} : ∀ (c : Code) (s : Sl) (m : Mem) (e : Ex) (s' : Sl) (m' : Mem), acode P H N fuel c s m = some (e, s', m') → VI m → Runs P B W N D c s m e s' m' := by
  intro c
  induction c with
  | skip => intro s m e s' m' h hv g a w Q hd k hw hQ; cases h; exact wp_skip (hQ g a w (.refl g) hd k hw)
  | label l => intro s m e s' m' h hv g a w Q hd k hw hQ; cases h; exact wp_label (hQ g a w (.refl g) hd k hw)
  | exit l => intro s m e s' m' h hv g a w Q hd k hw hQ; cases h; exact wp_exit (hQ g a w (.refl g) hd k hw)
  | ret => intro s m e s' m' h hv g a w Q hd k hw hQ; cases h; exact wp_ret (hQ g a w (.refl g) hd k hw)
  | region id ops draw =>
    intro s m e s' m' h hv g a w Q hd k hw hQ
    simp only [acode] at h
    split at h
    · rename_i hdr
      split at h
      · rename_i hok
        split at h
        · rename_i h1
          split at h
          · rename_i hmet
            cases h
            rw [hdr]
            exact region_any hH hV hP hv hok hmet h1 k hw (fun g' a' w' l d => hQ g' a' w' l (d.trans hd)) id
          · cases h
        · cases h
      · cases h
    · rename_i hdr
      split at h
      · rename_i h1
        cases h
        have : draw = false := by simpa using hdr
        rw [this]
        refine wp_region ?_
        have := aops_sound hH hV ops D ops.toList 0 s m s' m' rfl h1 hv g a w hd k hw hQ
        rwa [List.range_eq_range', ← Array.length_toList]
      · cases h
  | seq x y ihx ihy =>
    intro s m e s' m' h hv g a w Q hd k hw hQ
    simp only [acode] at h
    cases hr : acode P H N fuel x s m with
    | none => rw [hr] at h; cases h
    | some r =>
      obtain ⟨e1, s1, m1⟩ := r
      rw [hr] at h
      refine wp_seq (ihx _ _ _ _ _ hr hv g a w _ hd k hw fun g1 a1 w1 l1 d1 k1 h1 => ?_)
      cases e1 with
      | normal => exact ihy _ _ _ _ _ h ((VM.acode hV _ _ _ _ _ _ hr).inv hv) g1 a1 w1 Q d1 k1 h1 fun g' a' w' l' => hQ g' a' w' (l1.trans l')
      | _ => cases h; exact hQ g1 a1 w1 l1 d1 k1 h1
  | cond c x y ihx ihy =>
    intro s m e s' m' h hv g a w Q hd k hw hQ
    simp only [acode] at h
    split at h
    · rename_i t hc
      have hr := k.ev c
      rw [hc] at hr
      simp only [Rel] at hr
      refine wp_cond hr ?_
      cases t with
      | true => exact ihx _ _ _ _ _ h hv g a w Q hd k hw hQ
      | false => exact ihy _ _ _ _ _ h hv g a w Q hd k hw hQ
    · cases h
  | block id b ih =>
    intro s m e s' m' h hv g a w Q hd k hw hQ
    simp only [acode] at h
    cases hr : acode P H N fuel b s m with
    | none => rw [hr] at h; cases h
    | some r =>
      obtain ⟨e1, s1, m1⟩ := r
      rw [hr] at h
      refine wp_block (ih _ _ _ _ _ hr hv g a w _ hd k hw fun g1 a1 w1 l1 d1 k1 h1 => ?_)
      cases e1 with
      | exit id' =>
        dsimp only at h
        simp only [ex, Exit.inBlock]
        split at h
        · rename_i e; rw [if_pos e]; cases h; exact hQ g1 a1 w1 l1 d1 k1 h1
        · rename_i e; rw [if_neg e]; cases h; exact hQ g1 a1 w1 l1 d1 k1 h1
      | _ => cases h; exact hQ g1 a1 w1 l1 d1 k1 h1
  | loop b ih =>
    intro s m e s' m' h hv g a w Q hd k hw hQ
    exact wp_loop_rounds fuel (aloop_sound (fun s m e s' m' h => ih s m e s' m' h) (fun s m e s' m' h => VM.acode hV _ _ _ _ _ _ h) fuel s m e s' m' h hv g a w Q hd k hw hQ)
  | _ => intro s m e s' m' h; cases h

/-- One result. -/
def resOf (tmps : Array Value) : ResultVar → Sem Value
  | .tmp t => pure (tmps.getD t undef)
  | .cell a t => do loadVar t (← asAddr (tmps.getD a undef))

theorem aload_addr {T : TypeId} {x : AV} {m : Mem} {v : AV} {g : G} {u : Value} (k : Rel g x u) (e : aload P T x m = some v) : ∃ a, u = .pointer (some a) := by
  cases x with
  | ptr id off => simp only [Rel] at k; exact ⟨_, k.2⟩
  | cptr y off => simp only [Rel] at k; obtain ⟨b, o, u', _, _, h⟩ := k; exact ⟨_, h⟩
  | _ => cases e

/-- The results. -/
theorem aresult_sound {g : G} {N : Nat} {s : Sl} {a : Act} {m : Mem} {w : World} (k : SR g N s a) (h : WR B W g m w) : ∀ (l : List ResultVar) (vs : List AV), aresult P s m l = some vs →
    ∃ us, Rels g vs us ∧ (l.mapM (resOf a.tmps)).run P w = .ok us w
  | [], vs, e => by
    simp only [aresult, Option.some.injEq] at e
    subst e
    exact ⟨[], .nil, rfl⟩
  | .tmp t :: l, vs, e => by
    simp only [aresult, Option.map_eq_some_iff] at e
    obtain ⟨vs', e', rfl⟩ := e
    obtain ⟨us, h1, h2⟩ := aresult_sound k h l vs' e'
    refine ⟨_, .cons (k.rel t) h1, ?_⟩
    simp only [List.mapM_cons, resOf, Sem.run_bind, Sem.run_pure, Result.andThen_ok, h2]
  | .cell q T :: l, vs, e => by
    simp only [aresult] at e
    split at e
    · rename_i v vs' h1 h2
      cases e
      obtain ⟨us, h3, h4⟩ := aresult_sound k h l vs' h2
      obtain ⟨u, h5, h6⟩ := aload_sound h (k.rel q) h1
      obtain ⟨ad, h7⟩ := aload_addr (k.rel q) h1
      refine ⟨_, .cons h6 h3, ?_⟩
      have h8 : (resOf a.tmps (.cell q T)).run P w = .ok u w := by
        rw [h7] at h5
        simp only [resOf, h7]
        simpa [Instr.loadAt, Instr.sureAddr, asAddr] using h5
      simp only [List.mapM_cons, Sem.run_bind, Sem.run_pure, Result.andThen_ok, h4, h8]
    · cases e

theorem oneOf_sound {g : G} {vs : List AV} {us : List Value} (h : Rels g vs us) : Rel g (oneOf vs) (if h : us.toArray.size = 1 then us.toArray[0] else .tuple us.toArray) := by
  have hl := h.length
  match vs, us, h with
  | [v], [u], h => simp only [Rels] at h; obtain ⟨x, y, e, h1, h2⟩ := h; cases e; exact h1
  | [], [], h => exact ⟨[], rfl, .nil⟩
  | v :: v2 :: vs, u :: u2 :: us, h => exact ⟨_, by simp, h⟩
  | [], _ :: _, _ => simp at hl
  | [_], [], _ => simp at hl
  | _ :: _ :: _, [], _ => simp at hl
  | [_], _ :: _ :: _, _ => simp at hl
  | _ :: _ :: _, [_], _ => simp at hl

theorem results_sound {g : G} {N : Nat} {s : Sl} {a : Act} {m : Mem} {w : World} (k : SR g N s a) (h : WR B W g m w) {fn : Func} {vs : List AV} (e : aresult P s m fn.results.toList = some vs) :
    ∃ v, (results fn a.tmps).run P w = .ok v w ∧ Rel g (oneOf vs) v := by
  obtain ⟨us, h1, h2⟩ := aresult_sound k h _ _ e
  refine ⟨_, ?_, oneOf_sound h1⟩
  have h3 : results fn a.tmps = (do let vs ← fn.results.mapM (resOf a.tmps); pure (if h : vs.size = 1 then vs[0] else .tuple vs)) := by
    unfold results
    congr 1
    try (funext x; cases x <;> rfl)
  rw [h3, Array.mapM_eq_mapM_toList]
  simp only [Sem.run_bind, Sem.run_map, h2, Result.andThen_ok, Sem.run_pure]

theorem putAll_at : ∀ (vs : List AV) (s : Sl) (i t : Nat), (Sl.putAll s i vs).at t = if i ≤ t ∧ t < i + vs.length then vs.getD (t - i) undefV else s.at t
  | [], s, i, t => by
    simp only [Sl.putAll, List.length_nil]
    rw [if_neg (by omega)]
  | v :: vs, s, i, t => by
    rw [Sl.putAll, putAll_at vs, Sl.at_set]
    simp only [List.length_cons]
    by_cases h1 : i + 1 ≤ t ∧ t < i + 1 + vs.length
    · rw [if_pos h1, if_pos (by omega)]
      obtain ⟨d, hd⟩ : ∃ d, t - i = d + 1 := ⟨t - i - 1, by omega⟩
      rw [hd, List.getD_cons_succ, show t - (i + 1) = d by omega]
    · rw [if_neg h1]
      by_cases h2 : t = i
      · subst h2; rw [if_pos rfl, if_pos (by omega), Nat.sub_self]; rfl
      · rw [if_neg h2, if_neg (by omega)]

theorem enter_sr {g : G} {args : List AV} {vals : List Value} (k : Rels g args vals) {N : Nat} (hN : args.length ≤ N) :
    SR g N (Sl.putAll .nil 0 args) { tmps := vals.toArray ++ Array.replicate (N - vals.toArray.size) undef, defers := [] } := by
  have hl := k.length
  refine ⟨by simp; omega, fun t => ?_⟩
  rw [putAll_at]
  dsimp only
  by_cases h : 0 ≤ t ∧ t < 0 + args.length
  · rw [if_pos h]
    obtain ⟨x, hx⟩ : ∃ x, args[t]? = some x := ⟨_, List.getElem?_eq_getElem (by omega)⟩
    obtain ⟨v, hv, hr⟩ := k.get t x hx
    have : (vals.toArray ++ Array.replicate (N - vals.toArray.size) undef).getD t undef = v := by
      rw [Array.getD_eq_getD_getElem?, Array.getElem?_append_left (by simp; omega)]
      simp [hv]
    rw [this]
    simp only [Nat.sub_zero, List.getD_eq_getElem?_getD, hx]
    exact hr
  · rw [if_neg h]
    have : (vals.toArray ++ Array.replicate (N - vals.toArray.size) undef).getD t undef = undef := by
      rw [Array.getD_eq_getD_getElem?, Array.getElem?_append_right (by simp; omega), Array.getElem?_replicate]
      split <;> rfl
    rw [this]
    rfl

theorem run_callFunc_enter {f : FuncId} {fn : Func} {c : Code} {args : Array Value} {w : World} (hf : P.funcs[f]? = some fn) (hb : fn.body = some c) (hn : fn.name ≠ "runtime.NumGoroutine") : (callFunc f args).run P w = .ok (.enter f args) w := by
  unfold callFunc
  simp [Sem.run_bind, program, Sem.run, hf, hb, hn]

theorem rels_scals {g : G} : ∀ {args : List AV} {vs vals : List Value}, scals args = some vs → Rels g args vals → vals = vs
  | [], vs, vals, e, k => by simp only [scals, Option.some.injEq] at e; subst e; exact k
  | x :: xs, vs, vals, e, k => by
    simp only [scals] at e
    split at e
    · rename_i a b h1 h2
      cases e
      simp only [Rels] at k
      obtain ⟨v, us, rfl, h3, h4⟩ := k
      cases x <;> simp [scal] at h1
      subst h1
      simp only [Rel] at h3
      rw [h3, rels_scals h2 h4]
    · cases e

variable {cfg : Cfg}

theorem abody_sound (hP : P.follows .mixedOrders = true) (hH : HSound P B W H) (hV : HVer H) {n : Nat} {f : FuncId} {args : List AV} {m : Mem} {v : AV} {m' : Mem} (e : abody P cfg H n f args m = some (v, m')) (hv : VI m) : CallOk P B W f args m v m' := by
  intro g w vals k h
  unfold abody at e
  split at e
  · rename_i fn hf
    split at e
    · rename_i c hb
      split at e
      · rename_i hc
        refine .inl ⟨run_callFunc_enter hf hb hc.1, ?_⟩
        dsimp only at e
        obtain ⟨am, ham⟩ : ∃ am, (if cfg.keepArgs f = true then (args, m) else fzvs m args) = am := ⟨_, rfl⟩
        rw [ham] at e
        obtain ⟨g1, l1, w1, k1, hv1, hlen⟩ : ∃ g1, g.le g1 ∧ WR B W g1 am.2 w ∧ Rels g1 am.1 vals ∧ VI am.2 ∧ am.1.length = args.length := by
          split at ham
          · subst ham; exact ⟨g, .refl g, h, k, hv, rfl⟩
          · subst ham
            obtain ⟨g1, l1, w1, k1⟩ := fzvs_sound args h k
            exact ⟨g1, l1, w1, k1, (VM.fzvs args m).inv hv, by rw [← k1.length, k.length]⟩
        have fin : ∀ (e1 : Ex) (s : Sl) (m2 : Mem) (vs : List AV), (e1 = .normal ∨ e1 = .ret) → acode P H fn.ntmps n c (Sl.putAll .nil 0 am.1) am.2 = some (e1, s, m2) → aresult P s m2 fn.results.toList = some vs →
            gcw (cfg.gc f) am.2 (if cfg.keepRes f = true then (oneOf vs, m2) else fzr m2 (oneOf vs)) = some (v, m') →
            Calls P f vals.toArray w fun e w' => ∃ v' g', e = .returned v' ∧ g.le g' ∧ Rel g' v v' ∧ WR B W g' m' w' := by
          intro e1 s m2 vs he ha hr hres
          refine calls_of_wp hf hb (acode_sound hP hH hV (D := []) c _ _ _ _ _ ha hv1 g1 _ w _ rfl (enter_sr k1 (by omega)) w1 fun g2 a2 w2 l2 d2 k2 h2 => ?_)
          obtain ⟨u, h3, h4⟩ := results_sound k2 h2 hr
          have : bodyPost P fn (fun e w' => ∃ v' g', e = .returned v' ∧ g.le g' ∧ Rel g' v v' ∧ WR B W g' m' w') .normal a2 w2 := by
            refine ⟨d2, u, h3, ?_⟩
            have v2 : VM am.2 m2 := VM.acode hV _ _ _ _ _ _ ha
            split at hres
            · obtain ⟨g4, l4, r4, w4⟩ := gcw_sound w1 hv1 v2 l2 h2 h4 hres
              exact ⟨u, g4, rfl, l1.trans l4, r4, w4⟩
            · obtain ⟨g3, l3, w3, r3⟩ := fzr_sound h2 h4
              obtain ⟨g4, l4, r4, w4⟩ := gcw_sound w1 hv1 (v2.trans (VM.fzr m2 (oneOf vs))) (l2.trans l3) w3 r3 hres
              exact ⟨u, g4, rfl, l1.trans l4, r4, w4⟩
          rcases he with rfl | rfl <;> exact this
        split at e
        · rename_i s m2 ha
          split at e
          · rename_i vs hr
            exact fin _ _ _ _ (.inl rfl) ha hr e
          · cases e
        · rename_i s m2 ha
          split at e
          · rename_i vs hr
            exact fin _ _ _ _ (.inr rfl) ha hr e
          · cases e
        · cases e
      · cases e
    · split at e
      · rename_i vs hs
        split at e
        · rename_i u hu
          cases e
          have := rels_scals hs k
          subst this
          exact .inr ⟨u, g, pureRun_sound _ _ hu w, .refl g, rfl, h⟩
        · cases e
      · cases e
  · cases e

theorem abody_ver (hV : HVer H) {n : Nat} {f : FuncId} {args : List AV} {m : Mem} {v : AV} {m' : Mem} (e : abody P cfg H n f args m = some (v, m')) : VM m m' := by
  unfold abody at e
  split at e
  · split at e
    · split at e
      · dsimp only at e
        obtain ⟨am, ham⟩ : ∃ am, (if cfg.keepArgs f = true then (args, m) else fzvs m args) = am := ⟨_, rfl⟩
        rw [ham] at e
        have h1 : VM m am.2 := by
          split at ham
          · subst ham; exact .refl m
          · subst ham; exact VM.fzvs args m
        have fin : ∀ (s : Sl) (m2 : Mem) (vs : List AV), VM am.2 m2 → gcw (cfg.gc f) am.2 (if cfg.keepRes f = true then (oneOf vs, m2) else fzr m2 (oneOf vs)) = some (v, m') → VM m m' := by
          intro s m2 vs h2 h3
          split at h3
          · exact h1.trans (VM.gcw (r := (oneOf vs, m2)) h2 h3)
          · exact h1.trans (VM.gcw (h2.trans (VM.fzr m2 (oneOf vs))) h3)
        split at e
        · rename_i s m2 ha
          split at e
          · exact fin s m2 _ (VM.acode hV _ _ _ _ _ _ ha) e
          · cases e
        · rename_i s m2 ha
          split at e
          · exact fin s m2 _ (VM.acode hV _ _ _ _ _ _ ha) e
          · cases e
        · cases e
      · cases e
    · split at e
      · split at e
        · cases e; exact .refl _
        · cases e
      · cases e
  · cases e

/-- What is asked of the functions that are told by hand. -/
structure Hooks (P : Program) (B : Nat) (W : World) (cfg : Cfg) : Prop where
  sound : ∀ f h, cfg.hook f = some h → ∀ args m v m', h args m = some (v, m') → VI m → CallOk P B W f args m v m'
  ver : ∀ f h, cfg.hook f = some h → ∀ args m v m', h args m = some (v, m') → VM m m'

theorem afn_ver (hk : Hooks P B W cfg) : ∀ n, HVer (afn P cfg n)
  | 0, fn, args, m, v, m', e => by cases e
  | n + 1, fn, args, m, v, m', e => by
    cases fn with
    | func f =>
      simp only [afn] at e
      split at e
      · rename_i h hh; exact hk.ver f h hh _ _ _ _ e
      · exact abody_ver (afn_ver hk n) e
    | _ => cases e

theorem afn_sound (hP : P.follows .mixedOrders = true) (hk : Hooks P B W cfg) : ∀ n, HSound P B W (afn P cfg n)
  | 0 => ⟨fun f args m v m' e => (by cases e), fun fn args m h => rfl⟩
  | n + 1 => {
    func := fun f args m v m' e hv => by
      simp only [afn] at e
      split at e
      · rename_i h hh; exact hk.sound f h hh _ _ _ _ e hv
      · exact abody_sound hP (afn_sound hP hk n) (afn_ver hk n) e hv
    other := fun fn args m h => by
      cases fn with
      | func f => exact absurd rfl (h f)
      | _ => rfl }
end Go.V
