/- More fuel changes nothing. -/
import Derived.Test.YtipmoeclkamciaaVWp
set_option linter.unusedSimpArgs false
set_option linter.unusedVariables false
set_option linter.unusedSectionVars false
namespace Go.V
variable {P : Program} {cfg : Cfg}

def HLe (H H' : Calls1) : Prop := ∀ fn args m r, H fn args m = some r → H' fn args m = some r

theorem astep_mono {H H' : Calls1} (h : HLe H H') {s : Sl} {o : Oper} {m : Mem} {r : AV × Mem} (e : astep P H s o m = some r) : astep P H' s o m = some r := by
  unfold astep at e ⊢
  split at e
  · split at e
    · exact h _ _ _ _ e
    · cases e
  · exact e

theorem aops_mono {H H' : Calls1} (h : HLe H H') {N : Nat} {all : Array Oper} : ∀ (l : List Oper) (s : Sl) (m : Mem) (r : Sl × Mem), aops P H N all l s m = some r → aops P H' N all l s m = some r
  | [], s, m, r, e => e
  | o :: l, s, m, r, e => by
    simp only [aops] at e ⊢
    split at e
    · rename_i hw
      rw [if_pos hw]
      split at e
      · rename_i v m' he
        rw [astep_mono h he]
        dsimp only at e ⊢
        split at e
        · exact aops_mono h l _ _ _ e
        · cases e
      · cases e
    · rename_i hw
      rw [if_neg hw]
      split at e
      · exact aops_mono h l _ _ _ e
      · cases e
theorem aopsT_mono {H H' : Calls1} (h : HLe H H') {N : Nat} {all : Array Oper} : ∀ (l : List Oper) (s : Sl) (m : Mem) (r : Sl × Mem × List (Sl × Mem)), aopsT P H N all l s m = some r → aopsT P H' N all l s m = some r
  | [], s, m, r, e => e
  | o :: l, s, m, r, e => by
    simp only [aopsT] at e ⊢
    split at e
    · rename_i hw
      rw [if_pos hw]
      split at e
      · rename_i v m' he
        rw [astep_mono h he]
        dsimp only at e ⊢
        split at e
        · rw [Option.map_eq_some_iff] at e
          obtain ⟨x, h1, h2⟩ := e
          rw [aopsT_mono h l _ _ _ h1, ← h2]
          rfl
        · cases e
      · cases e
    · rename_i hw
      rw [if_neg hw]
      split at e
      · rw [Option.map_eq_some_iff] at e
        obtain ⟨x, h1, h2⟩ := e
        rw [aopsT_mono h l _ _ _ h1, ← h2]
        rfl
      · cases e

theorem aloop_mono {b b' : Sl → Mem → Option (Ex × Sl × Mem)} (hb : ∀ s m r, b s m = some r → b' s m = some r) : ∀ (n n' : Nat), n ≤ n' → ∀ (s : Sl) (m : Mem) (r : Ex × Sl × Mem), aloop b n s m = some r → aloop b' n' s m = some r
  | 0, n', hn, s, m, r, e => by cases e
  | n + 1, n', hn, s, m, r, e => by
    obtain ⟨n', rfl⟩ : ∃ k, n' = k + 1 := ⟨n' - 1, by omega⟩
    simp only [aloop] at e ⊢
    split at e
    · rename_i s' m' h1
      rw [hb _ _ _ h1]
      exact aloop_mono hb n n' (by omega) _ _ _ e
    · rename_i h1
      rw [hb _ _ _ e]
      split
      · rename_i s' m' h2
        cases h2
        exact absurd e (h1 s' m')
      · rfl

theorem acode_mono {H H' : Calls1} (h : HLe H H') {N n n' : Nat} (hn : n ≤ n') : ∀ (c : Code) (s : Sl) (m : Mem) (r : Ex × Sl × Mem), acode P H N n c s m = some r → acode P H' N n' c s m = some r := by
  intro c
  induction c with
  | skip => intro s m r e; exact e
  | label l => intro s m r e; exact e
  | exit l => intro s m r e; exact e
  | ret => intro s m r e; exact e
  | region id ops draw =>
    intro s m r e
    simp only [acode] at e ⊢
    split at e
    · rename_i hd
      rw [if_pos hd]
      split at e
      · rename_i hk
        rw [if_pos hk]
        split at e
        · rename_i s' m' ms he
          rw [aopsT_mono h _ _ _ _ he]
          exact e
        · cases e
      · cases e
    · rename_i hd
      rw [if_neg hd]
      split at e
      · rename_i s' m' he
        rw [aops_mono h _ _ _ _ he]
        exact e
      · cases e
  | seq a b iha ihb =>
    intro s m r e
    simp only [acode] at e ⊢
    split at e
    · rename_i s' m' h1
      rw [iha _ _ _ h1]
      exact ihb _ _ _ e
    · rename_i h1
      rw [iha _ _ _ e]
      split
      · rename_i s' m' h2
        cases h2
        exact absurd e (h1 s' m')
      · rfl
  | cond c x y ihx ihy =>
    intro s m r e
    simp only [acode] at e ⊢
    split at e
    · rename_i t ht
      cases t
      · exact ihy _ _ _ e
      · exact ihx _ _ _ e
    · cases e
  | block id b ih =>
    intro s m r e
    simp only [acode] at e ⊢
    split at e
    · rename_i id' s' m' h1
      rw [ih _ _ _ h1]
      exact e
    · rename_i h1
      rw [ih _ _ _ e]
      split
      · rename_i id' s' m' h2
        cases h2
        exact absurd e (h1 id' s' m')
      · rfl
  | loop b ih =>
    intro s m r e
    simp only [acode] at e ⊢
    exact aloop_mono ih n n' hn s m r e
  | _ => intro s m r e; simp [acode] at e

theorem afn_mono1 : ∀ (n : Nat), HLe (afn P cfg n) (afn P cfg (n + 1))
  | 0, fn, args, m, r, e => by cases e
  | n + 1, fn, args, m, r, e => by
    cases fn with
    | func f =>
      simp only [afn] at e ⊢
      split at e
      · exact e
      · unfold abody at e ⊢
        split at e
        · rename_i fn hf
          split at e
          · rename_i c hb
            split at e
            · rename_i hc
              rw [if_pos hc]
              dsimp only at e ⊢
              obtain ⟨am, ham⟩ : ∃ am, (if cfg.keepArgs f = true then (args, m) else fzvs m args) = am := ⟨_, rfl⟩
              rw [ham] at e ⊢
              split at e
              · rename_i s m2 ha
                rw [acode_mono (afn_mono1 n) (Nat.le_succ n) _ _ _ _ ha]
                exact e
              · rename_i s m2 ha
                rw [acode_mono (afn_mono1 n) (Nat.le_succ n) _ _ _ _ ha]
                exact e
              · cases e
            · cases e
          · exact e
        · cases e
    | _ => cases e
theorem afn_mono {n n' : Nat} (h : n ≤ n') : HLe (afn P cfg n) (afn P cfg n') := by
  induction h with
  | refl => exact fun _ _ _ _ e => e
  | step _ ih => exact fun fn args m r e => afn_mono1 _ fn args m r (ih fn args m r e)
theorem EH.of {n : Nat} {fn : Fn} {args : List AV} {m m' : Mem} {r : AV} (h : afn P cfg n fn args m = some (r, m')) : EH P cfg fn args m r m' := ⟨n, fun _ hk => afn_mono hk _ _ _ _ h⟩
end Go.V
