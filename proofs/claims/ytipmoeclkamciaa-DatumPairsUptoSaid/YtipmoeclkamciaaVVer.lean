/- What is written gets a new number: an object whose number is the same has the same cells. -/
import Derived.Test.YtipmoeclkamciaaVRel
set_option linter.unusedSimpArgs false
set_option linter.unusedVariables false
set_option linter.unusedSectionVars false
namespace Go.V
variable {P : Program}

/-- Each number is at most the clock's; each object's, below the next. -/
def VI (m : Mem) : Prop := ∀ id cs f v, m.get id = some (.cells cs f v) → v ≤ m.clock ∧ id < m.next

structure VM (m m' : Mem) : Prop where
  clock : m.clock ≤ m'.clock
  next : m.next ≤ m'.next
  inv : VI m → VI m'
  gone : ∀ id, id < m.next → m.get id = none → m'.get id = none
  kept : VI m → ∀ id cs f v cs' f' v', m.get id = some (.cells cs f v) → m'.get id = some (.cells cs' f' v') → (v' = v ∧ cs' = cs) ∨ m.clock < v'

theorem VM.refl (m : Mem) : VM m m := ⟨Nat.le_refl _, Nat.le_refl _, id, fun _ _ h => h, fun _ id cs f v cs' f' v' h h' => by rw [h] at h'; cases h'; exact .inl ⟨rfl, rfl⟩⟩

theorem VM.trans {a b c : Mem} (h : VM a b) (k : VM b c) : VM a c := by
  refine ⟨Nat.le_trans h.clock k.clock, Nat.le_trans h.next k.next, fun i => k.inv (h.inv i), fun id hi hg => k.gone id (Nat.lt_of_lt_of_le hi h.next) (h.gone id hi hg), fun i id cs f v cs' f' v' h1 h2 => ?_⟩
  cases hb : b.get id with
  | none => rw [k.gone id (Nat.lt_of_lt_of_le (i id cs f v h1).2 h.next) hb] at h2; cases h2
  | some o =>
    obtain ⟨c1, f1, v1⟩ := o
    rcases h.kept i id cs f v c1 f1 v1 h1 hb with ⟨rfl, rfl⟩ | h3
    · rcases k.kept (h.inv i) id _ _ _ _ _ _ hb h2 with h4 | h4
      · exact .inl h4
      · exact .inr (Nat.lt_of_le_of_lt h.clock h4)
    · rcases k.kept (h.inv i) id _ _ _ _ _ _ hb h2 with ⟨rfl, rfl⟩ | h4
      · exact .inr h3
      · exact .inr (Nat.lt_of_le_of_lt h.clock h4)

theorem VM.set (m : Mem) (id : Nat) (cs : List AV) (hs : (m.get id).isSome = true) : VM m (m.set id cs) := by
  refine ⟨Nat.le_succ _, Nat.le_refl _, fun i j c f v h => ?_, fun j hj hg => ?_, fun i j c f v c' f' v' h1 h2 => ?_⟩
  · rw [Mem.get_set] at h
    split at h
    · rename_i e
      subst e
      simp only [Option.some.injEq, AObj.cells.injEq] at h
      obtain ⟨o, ho⟩ := Option.isSome_iff_exists.1 hs
      obtain ⟨c1, f1, v1⟩ := o
      exact ⟨by rw [← h.2.2]; exact Nat.le_refl _, (i _ _ _ _ ho).2⟩
    · have := i j c f v h
      exact ⟨Nat.le_succ_of_le this.1, this.2⟩
  · rw [Mem.get_set]
    split
    · rename_i e; subst e; rw [hg] at hs; cases hs
    · exact hg
  · rw [Mem.get_set] at h2
    split at h2
    · simp only [Option.some.injEq, AObj.cells.injEq] at h2
      exact .inr (by rw [← h2.2.2]; exact Nat.lt_succ_self _)
    · rw [h1] at h2; cases h2; exact .inl ⟨rfl, rfl⟩

theorem VM.new (m : Mem) (cs : List AV) (f : Bool) : VM m (m.new cs f) := by
  refine ⟨Nat.le_succ _, Nat.le_succ _, fun i j c f v h => ?_, fun j hj hg => ?_, fun i j c f v c' f' v' h1 h2 => ?_⟩
  · rw [Mem.get_new] at h
    split at h
    · rename_i e
      subst e
      simp only [Option.some.injEq, AObj.cells.injEq] at h
      exact ⟨by rw [← h.2.2]; exact Nat.le_refl _, Nat.lt_succ_self _⟩
    · have := i j c f v h
      exact ⟨Nat.le_succ_of_le this.1, Nat.lt_succ_of_lt this.2⟩
  · rw [Mem.get_new, if_neg (Nat.ne_of_lt hj)]; exact hg
  · rw [Mem.get_new, if_neg (Nat.ne_of_lt (i j c f v h1).2)] at h2
    rw [h1] at h2; cases h2; exact .inl ⟨rfl, rfl⟩

theorem VM.mark (m : Mem) (id : Nat) (cs : List AV) (f : Bool) (v : Nat) (hg : m.get id = some (.cells cs f v)) : VM m (m.mark id cs v) := by
  refine ⟨Nat.le_refl _, Nat.le_refl _, fun i j c f' v' h => ?_, fun j hj hj' => ?_, fun i j c f' v' c'' f'' v'' h1 h2 => ?_⟩
  · rw [Mem.get_mark] at h
    split at h
    · rename_i e
      subst e
      simp only [Option.some.injEq, AObj.cells.injEq] at h
      rw [← h.2.2]
      exact i _ _ _ _ hg
    · exact i j c f' v' h
  · rw [Mem.get_mark]
    split
    · rename_i e; subst e; rw [hg] at hj'; cases hj'
    · exact hj'
  · rw [Mem.get_mark] at h2
    split at h2
    · rename_i e
      subst e
      rw [hg] at h1
      cases h1
      simp only [Option.some.injEq, AObj.cells.injEq] at h2
      exact .inl ⟨h2.2.2.symm, h2.1.symm⟩
    · rw [h1] at h2; cases h2; exact .inl ⟨rfl, rfl⟩

theorem VM.kill (m : Mem) (id : Nat) : VM m (m.kill id) := by
  refine ⟨Nat.le_refl _, Nat.le_refl _, fun i j c f' v' h => ?_, fun j hj hj' => ?_, fun i j c f' v' c'' f'' v'' h1 h2 => ?_⟩
  · rw [Mem.get_kill] at h
    split at h
    · cases h
    · exact i j c f' v' h
  · rw [Mem.get_kill]
    split
    · rfl
    · exact hj'
  · rw [Mem.get_kill] at h2
    split at h2
    · cases h2
    · rw [h1] at h2; cases h2; exact .inl ⟨rfl, rfl⟩

theorem VM.fz1 (m : Mem) (x : AV) : VM m (fz1 m x).2 := by
  unfold Go.V.fz1
  split
  · split
    · rename_i cs f v hg
      split
      · exact VM.mark m _ _ _ _ hg
      · exact .refl m
    · exact .refl m
  · exact .refl m
  · exact .refl m
theorem VM.fzs : ∀ (l : List AV) (m : Mem), VM m (fzs m l).2
  | [], m => .refl m
  | x :: l, m => (VM.fz1 m x).trans (VM.fzs l _)
theorem VM.fzv (m : Mem) (x : AV) : VM m (fzv m x).2 := by
  unfold Go.V.fzv
  split
  · exact VM.fzs _ _
  · exact VM.fz1 m x
theorem VM.fzvs : ∀ (l : List AV) (m : Mem), VM m (fzvs m l).2
  | [], m => .refl m
  | x :: l, m => (VM.fzv m x).trans (VM.fzvs l _)
theorem VM.fzr (m : Mem) (x : AV) : VM m (fzr m x).2 := by
  unfold Go.V.fzr
  split
  · exact VM.fzvs _ _
  · exact VM.fzv m x

theorem VM.astore {T : TypeId} {a x : AV} {m m' : Mem} (e : astore P T a x m = some m') : VM m m' := by
  unfold Go.V.astore at e
  split at e
  · split at e
    · rename_i hg
      split at e
      · cases e; exact VM.set _ _ _ (by rw [hg]; rfl)
      · cases e
    · cases e
  · cases e

theorem VM.aappend {T : TypeId} {s : AV} {zs : Option Nat} {src : Option (List AV)} {m m' : Mem} {r : AV} (e : aappend P T s zs src m = some (r, m')) : VM m m' := by
  unfold Go.V.aappend at e
  split at e
  · split at e
    · split at e
      · split at e
        · split at e <;> (try cases e) <;> exact .refl m
        · dsimp only at e
          have h0 := fun l => VM.fzvs l m
          split at e
          · split at e
            · cases e; exact (h0 _).trans (.new _ _ _)
            · cases e
          · split at e
            · cases e; exact (h0 _).trans (.new _ _ _)
            · cases e
          · split at e
            · rename_i hg
              split at e
              · split at e
                · cases e; exact (h0 _).trans (.new _ _ _)
                · split at e
                  · split at e
                    · cases e
                    · cases e; exact (h0 _).trans (.set _ _ _ (by rw [hg]; rfl))
                  · split at e
                    · cases e; exact (h0 _).trans ((VM.kill _ _).trans (.new _ _ _))
                    · cases e
              · cases e
            · cases e
          · cases e
      · cases e
    · cases e
  · cases e

theorem VM.acopy {T : TypeId} {d x : AV} {m m' : Mem} {r : AV} (e : acopy P T d x m = some (r, m')) : VM m m' := by
  unfold Go.V.acopy at e
  split at e
  · split at e
    · rename_i ys0 id off len _ _ _ _ _
      dsimp only at e
      split at e
      · rename_i hg
        split at e
        · cases e; exact (VM.fzvs _ _).trans (.set _ _ _ (by rw [hg]; rfl))
        · cases e
      · cases e
    · split at e
      · cases e; exact .refl m
      · cases e
    · cases e
  · cases e

theorem VM.abuiltin {b : Builtin} {ts : Array TypeId} {T : TypeId} {args : List AV} {m m' : Mem} {r : AV} (e : abuiltin P b ts T args m = some (r, m')) : VM m m' := by
  unfold Go.V.abuiltin at e
  split at e
  · split at e
    · split at e
      · exact VM.aappend e
      · cases e
      · exact VM.aappend e
      · cases e
    · cases e
  · split at e
    · exact VM.acopy e
    · cases e
  · simp only [Option.map_eq_some_iff, Prod.mk.injEq] at e
    obtain ⟨_, _, _, rfl⟩ := e; exact .refl _

theorem VM.aop {s : Sl} {o : Oper} {m m' : Mem} {r : AV} (e : aop P s o m = some (r, m')) : VM m m' := by
  obtain ⟨dst, op, type, pos, after, guard⟩ := o
  cases op <;> simp only [Go.V.aop] at e
  case move y => cases e; exact .refl _
  case assign y => cases e; exact .refl _
  case pick c y z => split at e <;> cases e; exact .refl _
  case alloc T =>
    simp only [Option.bind_eq_some_iff] at e
    obtain ⟨_, _, e⟩ := e
    split at e <;> cases e
    exact .new _ _ _
  case box T y => split at e <;> cases e; exact .new _ _ _
  case buildSlice T n ps =>
    unfold abuildSlice at e
    split at e
    · split at e
      · split at e
        · dsimp only at e
          simp only [Option.map_eq_some_iff, Prod.mk.injEq] at e
          obtain ⟨_, _, _, rfl⟩ := e
          exact (VM.fzvs _ _).trans (.new _ _ _)
        · cases e
      · cases e
    · cases e
  case store T y z =>
    simp only [Option.map_eq_some_iff, Prod.mk.injEq] at e
    obtain ⟨_, h, _, rfl⟩ := e
    exact VM.astore h
  case nilCheck y =>
    split at e
    · cases e; exact .refl _
    · cases e; exact .refl _
    · split at e <;> cases e; exact .refl _
    · cases e
  case unOp op T y =>
    simp only [Option.bind_eq_some_iff, Option.map_eq_some_iff, Prod.mk.injEq] at e
    obtain ⟨_, _, _, _, _, rfl⟩ := e; exact .refl _
  case convert T T' y =>
    simp only [Option.bind_eq_some_iff, Option.map_eq_some_iff, Prod.mk.injEq] at e
    obtain ⟨_, _, _, _, _, rfl⟩ := e; exact .refl _
  case makeFunc f fi ca => cases e; exact .refl _
  case makeSlice T l c =>
    unfold amakeSlice at e
    split at e
    · split at e
      · split at e <;> cases e; exact .new _ _ _
      · cases e
    · cases e
  case extract y i =>
    split at e
    · simp only [Option.map_eq_some_iff, Prod.mk.injEq] at e
      obtain ⟨_, _, _, rfl⟩ := e; exact .refl _
    · cases e
  case call c =>
    split at e
    · exact VM.abuiltin e
    · cases e
  all_goals first
    | (simp only [Option.map_eq_some_iff, Prod.mk.injEq] at e
       obtain ⟨_, _, _, rfl⟩ := e; exact .refl _)
    | cases e

/-- Calls keep it. -/
def HVer (H : Calls1) : Prop := ∀ fn args m v m', H fn args m = some (v, m') → VM m m'

theorem VM.astep {H : Calls1} (hH : HVer H) {s : Sl} {o : Oper} {m m' : Mem} {r : AV} (e : astep P H s o m = some (r, m')) : VM m m' := by
  unfold Go.V.astep at e
  split at e
  · split at e
    · exact hH _ _ _ _ _ e
    · cases e
  · exact VM.aop e

theorem VM.aops {H : Calls1} (hH : HVer H) {N : Nat} {all : Array Oper} : ∀ (l : List Oper) (s : Sl) (m : Mem) (s' : Sl) (m' : Mem), aops P H N all l s m = some (s', m') → VM m m'
  | [], s, m, s', m', e => by simp only [Go.V.aops, Option.some.injEq, Prod.mk.injEq] at e; obtain ⟨_, rfl⟩ := e; exact .refl _
  | o :: l, s, m, s', m', e => by
    simp only [Go.V.aops] at e
    split at e
    · split at e
      · rename_i h
        split at e
        · exact (VM.astep hH h).trans (VM.aops hH l _ _ _ _ e)
        · cases e
      · cases e
    · split at e
      · exact VM.aops hH l _ _ _ _ e
      · cases e

theorem aopsT_aops {H : Calls1} {N : Nat} {all : Array Oper} : ∀ (l : List Oper) (s : Sl) (m : Mem) (s' : Sl) (m' : Mem) (ms : List (Sl × Mem)), aopsT P H N all l s m = some (s', m', ms) → aops P H N all l s m = some (s', m')
  | [], s, m, s', m', ms, e => by simp only [aopsT, Option.some.injEq, Prod.mk.injEq] at e; obtain ⟨rfl, rfl, _⟩ := e; rfl
  | o :: l, s, m, s', m', ms, e => by
    simp only [aopsT] at e
    simp only [Go.V.aops]
    split at e
    · rename_i hw
      rw [if_pos hw]
      split at e
      · split at e
        · simp only [Option.map_eq_some_iff, Prod.mk.injEq] at e
          obtain ⟨⟨a, b, c⟩, h, rfl, rfl, _⟩ := e
          exact aopsT_aops l _ _ _ _ _ h
        · cases e
      · cases e
    · rename_i hw
      rw [if_neg hw]
      split at e
      · simp only [Option.map_eq_some_iff, Prod.mk.injEq] at e
        obtain ⟨⟨a, b, c⟩, h, rfl, rfl, _⟩ := e
        exact aopsT_aops l _ _ _ _ _ h
      · cases e

theorem VM.aloop {b : Sl → Mem → Option (Ex × Sl × Mem)} (hb : ∀ s m e s' m', b s m = some (e, s', m') → VM m m') : ∀ (n : Nat) (s : Sl) (m : Mem) (e : Ex) (s' : Sl) (m' : Mem), aloop b n s m = some (e, s', m') → VM m m'
  | 0, s, m, e, s', m', h => by cases h
  | n + 1, s, m, e, s', m', h => by
    simp only [Go.V.aloop] at h
    split at h
    · rename_i s1 m1 h1
      exact (hb _ _ _ _ _ h1).trans (VM.aloop hb n _ _ _ _ _ h)
    · exact hb _ _ _ _ _ h

theorem VM.acode {H : Calls1} (hH : HVer H) {N fuel : Nat} : ∀ (c : Code) (s : Sl) (m : Mem) (e : Ex) (s' : Sl) (m' : Mem), acode P H N fuel c s m = some (e, s', m') → VM m m' := by
  intro c
  induction c with
  | skip => intro s m e s' m' h; simp only [Go.V.acode, Option.some.injEq, Prod.mk.injEq] at h; obtain ⟨_, _, rfl⟩ := h; exact .refl _
  | label l => intro s m e s' m' h; simp only [Go.V.acode, Option.some.injEq, Prod.mk.injEq] at h; obtain ⟨_, _, rfl⟩ := h; exact .refl _
  | exit l => intro s m e s' m' h; simp only [Go.V.acode, Option.some.injEq, Prod.mk.injEq] at h; obtain ⟨_, _, rfl⟩ := h; exact .refl _
  | ret => intro s m e s' m' h; simp only [Go.V.acode, Option.some.injEq, Prod.mk.injEq] at h; obtain ⟨_, _, rfl⟩ := h; exact .refl _
  | region id ops draw =>
    intro s m e s' m' h
    simp only [Go.V.acode] at h
    split at h
    · split at h
      · split at h
        · rename_i h1
          split at h
          · cases h; exact VM.aops hH _ _ _ _ _ (aopsT_aops _ _ _ _ _ _ h1)
          · cases h
        · cases h
      · cases h
    · split at h
      · rename_i h1; cases h; exact VM.aops hH _ _ _ _ _ h1
      · cases h
  | seq a b iha ihb =>
    intro s m e s' m' h
    simp only [Go.V.acode] at h
    split at h
    · rename_i h1; exact (iha _ _ _ _ _ h1).trans (ihb _ _ _ _ _ h)
    · exact iha _ _ _ _ _ h
  | cond c x y ihx ihy =>
    intro s m e s' m' h
    simp only [Go.V.acode] at h
    split at h
    · split at h
      · exact ihx _ _ _ _ _ h
      · exact ihy _ _ _ _ _ h
    · cases h
  | block id b ih =>
    intro s m e s' m' h
    simp only [Go.V.acode] at h
    split at h
    · rename_i h1
      split at h <;> cases h <;> exact ih _ _ _ _ _ h1
    · exact ih _ _ _ _ _ h
  | loop b ih =>
    intro s m e s' m' h
    simp only [Go.V.acode] at h
    exact VM.aloop (fun s m e s' m' h => ih s m e s' m' h) _ _ _ _ _ _ h
  | _ => intro s m e s' m' h; cases h
end Go.V
