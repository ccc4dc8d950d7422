/- Slots that a run does not write; loops told by what they carry; calls as equations. -/
import Derived.Test.YtipmoeclkamciaaVSimp
set_option linter.unusedSimpArgs false
set_option linter.unusedVariables false
set_option linter.unusedSectionVars false
namespace Go.V
variable {P : Program} {cfg : Cfg}

/-- The slots that a code writes. -/
def wr : Code → List Nat
  | .region _ ops _ => ops.toList.filterMap (·.dst)
  | .seq a b => wr a ++ wr b
  | .cond _ a b => wr a ++ wr b
  | .block _ a => wr a
  | .loop a => wr a
  | _ => []

def Same (W : List Nat) (s s' : Sl) : Prop := ∀ t, W.contains t = false → s'.at t = s.at t
theorem Same.refl (W : List Nat) (s : Sl) : Same W s s := fun _ _ => rfl
theorem Same.trans {W : List Nat} {a b c : Sl} (h : Same W a b) (k : Same W b c) : Same W a c := fun t ht => (k t ht).trans (h t ht)
theorem Same.left {W V : List Nat} {a b : Sl} (h : Same W a b) : Same (W ++ V) a b := fun t ht => h t (by simp at ht ⊢; exact ht.1)
theorem Same.right {W V : List Nat} {a b : Sl} (h : Same V a b) : Same (W ++ V) a b := fun t ht => h t (by simp at ht ⊢; exact ht.2)

theorem same_put {N : Nat} {s s' : Sl} {d : Option Tmp} {v : AV} {W : List Nat} (hd : ∀ t, d = some t → t ∈ W) (h : aput N s d v = some s') : Same W s s' := by
  unfold aput at h
  split at h
  · cases h; exact .refl _ _
  · split at h
    · rename_i t _ ht
      cases h
      intro u hu
      rw [Sl.at_set, if_neg]
      rintro rfl
      have := hd _ rfl
      simp at hu
      exact hu this
    · cases h

theorem wpP_same {N : Nat} {s : Sl} {d : Option Tmp} {v : AV} {W : List Nat} {K K' : Sl → Prop} (hd : ∀ t, d = some t → t ∈ W) (h : wpP (aput N s d v) K) (k : ∀ s', Same W s s' → K s' → K' s') : wpP (aput N s d v) K' := by
  unfold wpP at h ⊢
  split at h
  · rename_i s' hs; exact k s' (same_put hd hs) h
  · exact h.elim

theorem wpo_same {N : Nat} {all : Array Oper} {W : List Nat} : ∀ (l : List Oper), (∀ o ∈ l, ∀ t, o.dst = some t → t ∈ W) → ∀ (s : Sl) (m : Mem) (K : Sl → Mem → Prop), wpo P cfg N all l s m K → wpo P cfg N all l s m fun s' m' => K s' m' ∧ Same W s s'
  | [], hl, s, m, K, h => ⟨h, .refl _ _⟩
  | o :: l, hl, s, m, K, h => by
    simp only [wpo] at h ⊢
    have ho := hl o (by simp)
    have hl' : ∀ o ∈ l, ∀ t, o.dst = some t → t ∈ W := fun o ho => hl o (by simp [ho])
    exact wpIf_mono h (fun h => wps_mono h fun v m1 h => wpP_same ho h fun s1 e h => wpo_mono l s1 m1 _ _ (wpo_same l hl' s1 m1 K h) fun s' m' h => ⟨h.1, e.trans h.2⟩)
      (fun h => wpP_same ho h fun s1 e h => wpo_mono l s1 m _ _ (wpo_same l hl' s1 m K h) fun s' m' h => ⟨h.1, e.trans h.2⟩)
theorem wpt_same {N : Nat} {all : Array Oper} {W : List Nat} : ∀ (l : List Oper), (∀ o ∈ l, ∀ t, o.dst = some t → t ∈ W) → ∀ (s : Sl) (m : Mem) (acc : List (Sl × Mem)) (K : List (Sl × Mem) → Sl → Mem → Prop), wpt P cfg N all l s m acc K → wpt P cfg N all l s m acc fun a s' m' => K a s' m' ∧ Same W s s'
  | [], hl, s, m, acc, K, h => ⟨h, .refl _ _⟩
  | o :: l, hl, s, m, acc, K, h => by
    simp only [wpt] at h ⊢
    have ho := hl o (by simp)
    have hl' : ∀ o ∈ l, ∀ t, o.dst = some t → t ∈ W := fun o ho => hl o (by simp [ho])
    exact wpIf_mono h (fun h => wps_mono h fun v m1 h => wpP_same ho h fun s1 e h => wpt_mono l s1 m1 _ _ _ (wpt_same l hl' s1 m1 _ K h) fun a s' m' h => ⟨h.1, e.trans h.2⟩)
      (fun h => wpP_same ho h fun s1 e h => wpt_mono l s1 m _ _ _ (wpt_same l hl' s1 m _ K h) fun a s' m' h => ⟨h.1, e.trans h.2⟩)

theorem wpc_same {N : Nat} : ∀ {c : Code} {s : Sl} {m : Mem} {Q : Ex → Sl → Mem → Prop}, wpc P cfg N c s m Q → wpc P cfg N c s m fun e s' m' => Q e s' m' ∧ Same (wr c) s s' := by
  intro c
  induction c with
  | skip => intro s m Q h; exact ⟨h, .refl _ _⟩
  | label l => intro s m Q h; exact ⟨h, .refl _ _⟩
  | exit l => intro s m Q h; exact ⟨h, .refl _ _⟩
  | ret => intro s m Q h; exact ⟨h, .refl _ _⟩
  | region id ops draw =>
    intro s m Q h
    have hw : ∀ o ∈ ops.toList, ∀ t, o.dst = some t → t ∈ wr (.region id ops draw) := fun o ho t ht => by
      simp only [wr, List.mem_filterMap]; exact ⟨o, ho, ht⟩
    simp only [wpc] at h ⊢
    split at h
    · rename_i hd
      rw [if_pos hd]
      exact ⟨h.1, wpt_mono _ _ _ _ _ _ (wpt_same _ hw _ _ _ _ h.2) fun a s m h => ⟨h.1.1, h.1.2, h.2⟩⟩
    · rename_i hd
      rw [if_neg hd]
      exact wpo_same _ hw _ _ _ h
  | seq a b iha ihb =>
    intro s m Q h
    simp only [wpc] at h ⊢
    refine wpc_conv (iha h) fun e s1 m1 h => ?_
    obtain ⟨h, e1⟩ := h
    cases e with
    | normal => exact wpc_conv (ihb h) fun e s2 m2 h => ⟨h.1, e1.left.trans h.2.right⟩
    | _ => exact ⟨h, e1.left⟩
  | cond c x y ihx ihy =>
    intro s m Q h
    simp only [wpc] at h ⊢
    unfold wpB at h ⊢
    split at h
    · exact wpIf_mono h (fun h => wpc_conv (ihx h) fun e s m h => ⟨h.1, h.2.left⟩) (fun h => wpc_conv (ihy h) fun e s m h => ⟨h.1, h.2.right⟩)
    · exact h.elim
  | block id b ih =>
    intro s m Q h
    simp only [wpc] at h ⊢
    refine wpc_conv (ih h) fun e s m h => ?_
    obtain ⟨h, e1⟩ := h
    cases e with
    | exit id' =>
      simp only [blk] at h ⊢
      split at h
      · rename_i e; rw [if_pos e]; exact ⟨h, e1⟩
      · rename_i e; rw [if_neg e]; exact ⟨h, e1⟩
    | _ => exact ⟨h, e1⟩
  | loop b ih =>
    intro s m Q h
    simp only [wpc] at h ⊢
    obtain ⟨I, n, h1, h2⟩ := h
    refine ⟨fun n s' m' => I n s' m' ∧ Same (wr b) s s', n, ⟨h1, .refl _ _⟩, fun n s1 m1 hI => wpc_conv (ih (h2 n s1 m1 hI.1)) fun e s2 m2 h => ?_⟩
    obtain ⟨h, e1⟩ := h
    cases e with
    | normal => obtain ⟨n', hn, hI'⟩ := h; exact ⟨n', hn, hI', hI.2.trans e1⟩
    | _ => exact ⟨h, hI.2.trans e1⟩
  | _ => intro s m Q h; exact h.elim

section
variable {N : Nat} {Q : Ex → Sl → Mem → Prop} {k : List It}
/-- A loop: its invariant speaks of what it writes alone. -/
theorem go_loopF {b : Code} {s0 : Sl} {m0 : Mem} (I : Nat → Sl → Mem → Prop) (n : Nat) (h : I n s0 m0)
    (hb : ∀ n s m, I n s m → Same (wr b) s0 s → ∀ Q' : Ex → Sl → Mem → Prop, (∀ n' s' m', n' < n → I n' s' m' → Q' .normal s' m') → (∀ e s' m', e ≠ .normal → goE P cfg N Q k e s' m' → Q' e s' m') → go P cfg N Q' [.code b] s m) : go P cfg N Q (.code (.loop b) :: k) s0 m0 := by
  refine ⟨fun n s m => I n s m ∧ Same (wr b) s0 s, n, ⟨h, .refl _ _⟩, fun n s m hI => ?_⟩
  have := hb n s m hI.1 hI.2 (thn (fun s m => ∃ n', n' < n ∧ I n' s m) (goE P cfg N Q k)) (fun n' s' m' hn hI' => ⟨n', hn, hI'⟩) fun e s' m' hne he => by
    cases e with
    | normal => exact absurd rfl hne
    | _ => exact he
  refine wpc_conv (wpc_same this) fun e s' m' h => ?_
  obtain ⟨h, e1⟩ := h
  cases e with
  | normal => obtain ⟨n', hn, hI'⟩ := h; exact ⟨n', hn, hI', hI.2.trans e1⟩
  | _ => exact h

/-- A loop that counts from nought up. -/
theorem go_count {b : Code} {s0 : Sl} {m0 : Mem} (ti n : Nat) (A : Nat → Sl → Mem → Prop) (h0 : s0.at ti = .sc (.int .i64 0)) (hn : n ≤ 2 ^ 60) (hA : A 0 s0 m0)
    (hb : ∀ i s m, i ≤ n → s.at ti = .sc (.int .i64 i) → A i s m → Same (wr b) s0 s → IntKind.i64.wrap ((i : Int) + 1) = (i : Int) + 1 → ∀ Q' : Ex → Sl → Mem → Prop, (∀ s' m', i < n → s'.at ti = .sc (.int .i64 ((i : Int) + 1)) → A (i + 1) s' m' → Q' .normal s' m') → (∀ e s' m', e ≠ .normal → goE P cfg N Q k e s' m' → Q' e s' m') → go P cfg N Q' [.code b] s m) : go P cfg N Q (.code (.loop b) :: k) s0 m0 := by
  refine go_loopF (fun j s m => ∃ i, j = n - i ∧ i ≤ n ∧ s.at ti = .sc (.int .i64 i) ∧ A i s m) n ⟨0, rfl, Nat.zero_le _, h0, hA⟩ ?_
  rintro j s m ⟨i, rfl, hi, e, hA⟩ hs Q' hq he
  refine hb i s m hi e hA hs (IntWalk.i64_in _ (by omega)) Q' (fun s' m' hlt e' hA' => hq (n - (i + 1)) s' m' (by omega) ⟨i + 1, rfl, hlt, by rw [e']; rfl, hA'⟩) he
end

/-- A call, as an equation. -/
theorem EH.go {N : Nat} {Q : Ex → Sl → Mem → Prop} {f : Fn} {args : List AV} {r : AV} {d : Option Tmp} {k : List It} {s : Sl} {m m1 : Mem} (h1 : EH P cfg f args m r m1) : goH P cfg N Q f args d k s m = goP P cfg N Q (aput N s d r) k m1 := by
  apply propext
  constructor
  · rintro ⟨v, m1, h2, h3⟩
    obtain ⟨rfl, rfl⟩ := EH.unique h1 h2
    exact h3
  · exact fun h3 => ⟨r, m1, h1, h3⟩
theorem eh_run {f : FuncId} {fn : Func} {c : Code} {args args1 : List AV} {r : AV} {m m1 : Mem} (hf : P.funcs[f]? = some fn) (hb : fn.body = some c) (hk : cfg.hook f = none) (hka : cfg.keepArgs f = false) (hg : cfg.gc f = 1) (hz : fzvs m args = (args1, m1)) (hr : r.bel m1.next = true) (hn : fn.name ≠ "runtime.NumGoroutine") (hl : args.length ≤ fn.ntmps)
    (h : go P cfg fn.ntmps (leave P (cfg.keepRes f) fn.results.toList (fun v m' => v = r ∧ Kp m1 m')) [.code c] (Sl.putAll .nil 0 args1) m1) : EH P cfg (.func f) args m r m1 := by
  have : wph P cfg (.func f) args m fun v m' => v = r ∧ m' = m1 := by
    refine wph_func hf hb hk hn hl ?_
    rw [hka, hg]
    simp only [Bool.false_eq_true, if_false, hz]
    refine wpc_conv h ?_
    rintro e s' m' ⟨h2, vs, h3, h4, h5⟩
    exact ⟨h2, vs, h3, gcK_1 (by rw [h4]; exact hr) h5 ⟨h4, rfl⟩⟩
  obtain ⟨v, m', h1, rfl, rfl⟩ := this
  exact h1
theorem eh_hook {f : FuncId} {h : List AV → Mem → Option (AV × Mem)} {args : List AV} {m m' : Mem} {v : AV} (hk : cfg.hook f = some h) (e : h args m = some (v, m')) : EH P cfg (.func f) args m v m' := .of (n := 1) (by simp only [afn, hk, e])
theorem eh_of {fn : Fn} {args : List AV} {m m' : Mem} {r : AV} (h : wph P cfg fn args m fun v m1 => v = r ∧ m1 = m') : EH P cfg fn args m r m' := by
  obtain ⟨v, m1, h1, rfl, rfl⟩ := h
  exact h1
end Go.V
