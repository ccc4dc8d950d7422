/- slices.Clone, told by hand at an empty slice, is sound. -/
import Derived.Test.YtipmoeclkamciaaVMono
set_option linter.unusedSimpArgs false
set_option linter.unusedVariables false
set_option linter.unusedSectionVars false
namespace Go.V
variable {P : Program} {B : Nat} {W : World} {g : G} {m : Mem} {w : World}

theorem Mem.get_skip (m : Mem) (i : Nat) : m.skip.get i = if i = m.next then none else m.get i := by
  unfold Mem.skip
  rw [Mem.get_kill, Mem.get_new]
  by_cases h : i = m.next <;> simp [h]
theorem Mem.next_skip (m : Mem) : m.skip.next = m.next + 1 := rfl

theorem WR.skip (h : WR B W g m w) : WR B W (g.new 0 0 0 0) m.skip w := by
  have hle := G.le_new g 0 0 0 0
  have lt : ∀ id o, m.skip.get id = some o → m.get id = some o ∧ id < g.n := by
    intro id o hg
    rw [Mem.get_skip] at hg
    split at hg
    · cases hg
    · exact ⟨hg, h.ids id o hg⟩
  refine ⟨h.below, h.base, ?_, ?_, ?_, ?_, h.fz⟩
  · rw [Mem.next_skip, h.n]; rfl
  · intro id o hg
    have := (lt id o hg).2
    show id < g.n + 1
    omega
  · intro id cs f ver hg
    obtain ⟨h1, h2⟩ := lt id _ hg
    exact (h.objs id cs f ver h1).mono hle h2 fun _ _ hv => hv
  · intro i j hi hj he
    obtain ⟨o, ho⟩ := Option.isSome_iff_exists.1 hi
    obtain ⟨o', ho'⟩ := Option.isSome_iff_exists.1 hj
    obtain ⟨a1, a2⟩ := lt i o ho
    obtain ⟨b1, b2⟩ := lt j o' ho'
    rw [hle.mu i a2, hle.mu j b2] at he
    exact h.inj i j (by rw [a1]; rfl) (by rw [b1]; rfl) he

theorem VM.skip (m : Mem) : VM m m.skip := (VM.new m [] false).trans (.kill _ _)

theorem hooks0 : Hooks P B W cf0 := ⟨fun f h e => (by cases e), fun f h e => (by cases e)⟩

theorem cloneH_ver (W : World) {f : FuncId} {args : List AV} {m m' : Mem} {v : AV} (e : cloneH P f args m = some (v, m')) : VM m m' := by
  unfold cloneH at e
  split at e
  · split at e
    · cases e; exact .skip _
    · exact afn_ver (B := 0) (W := W) hooks0 _ _ _ _ _ _ e
    · cases e
  · cases e

/-- What it does at no slice, and at an empty one. -/
structure CloneAt (P : Program) (f : FuncId) : Prop where
  nil : ∀ m, afn P cf0 4 (.func f) [.emp 0] m = some (.emp 0, m)
  empty : ∀ m, ∃ k ag, afn P cf0 4 (.func f) [.emp 2] m = some (.sl m.next 0 0 k ag (some 0), m.new [] false)

theorem cloneH_sound (hP : P.follows .mixedOrders = true) {f : FuncId} (hf : CloneAt P f) {args : List AV} {m m' : Mem} {v : AV} (e : cloneH P f args m = some (v, m')) (hv : VI m) : CallOk P B W f args m v m' := by
  unfold cloneH at e
  split at e
  · rename_i x
    split at e
    · rename_i he
      cases e
      have snd := (afn_sound (B := B) (W := W) hP hooks0 4).func f
      intro g w vals k h
      simp only [Rels] at k
      obtain ⟨u, _, rfl, hr, rfl⟩ := k
      have cases3 : (u = .slice none 0 0) ∨ ∃ a c, u = .slice (some a) 0 c := by
        cases x with
        | emp n =>
          match n, hr with
          | 0, hr => exact .inl hr
          | 1, hr =>
            simp only [Rel] at hr
            obtain ⟨a, rfl⟩ := hr
            cases a with
            | none => exact .inl rfl
            | some a => exact .inr ⟨a, 0, rfl⟩
          | 2, hr => exact .inr hr
          | n + 3, hr => exact hr.elim
        | lst xs =>
          simp only [elemsOf, Option.some.injEq] at he
          subst he
          simp only [Rel] at hr
          obtain ⟨a, c, vs, q, rfl, _, ⟨_, hn⟩, _⟩ := hr
          cases a with
          | none => rw [hn rfl]; exact .inl rfl
          | some a => exact .inr ⟨a, c, rfl⟩
        | sl id off len q ag cap =>
          simp only [Rel] at hr
          obtain ⟨_, a, c, rfl, _⟩ := hr
          simp only [elemsOf] at he
          split at he
          · split at he
            · cases len with
              | zero => exact .inr ⟨a, c, rfl⟩
              | succ n => simp [chunk] at he
            · cases he
          · cases he
        | _ => cases he
      rcases cases3 with rfl | ⟨a, c, rfl⟩
      · have h1 := snd [.emp 0] m _ _ (hf.nil m) hv g w [.slice none 0 0] (.one rfl) h
        rcases h1 with ⟨h2, h3⟩ | ⟨v', g', h2, h3, h4, h5⟩
        · refine .inl ⟨h2, h3.mono fun e w' ⟨v', g', h4, h5, h6, h7⟩ => ⟨v', _, h4, h5.trans (G.le_new g' 0 0 0 0), ?_, h7.skip⟩⟩
          simp only [Rel] at h6 ⊢
          exact ⟨none, h6⟩
        · refine .inr ⟨v', _, h2, h3.trans (G.le_new g' 0 0 0 0), ?_, h5.skip⟩
          simp only [Rel] at h4 ⊢
          exact ⟨none, h4⟩
      · obtain ⟨kk, ag, ha⟩ := hf.empty m
        have h1 := snd [.emp 2] m _ _ ha hv g w [.slice (some a) 0 c] (.one ⟨a, c, rfl⟩) h
        have res : ∀ {g' : G} {v' : Value}, Rel g' (.sl m.next 0 0 kk ag (some 0)) v' → Rel g' (.emp 1) v' := by
          intro g' v' hr
          simp only [Rel] at hr ⊢
          obtain ⟨_, b, d, rfl, _, _, hd, _⟩ := hr
          rw [hd 0 rfl]
          exact ⟨_, rfl⟩
        rcases h1 with ⟨h2, h3⟩ | ⟨v', g', h2, h3, h4, h5⟩
        · exact .inl ⟨h2, h3.mono fun e w' ⟨v', g', h4, h5, h6, h7⟩ => ⟨v', g', h4, h5, res h6, h7.kill _⟩⟩
        · exact .inr ⟨v', g', h2, h3, res h4, h5.kill _⟩
    · exact (afn_sound hP hooks0 4).func f _ _ _ _ e hv
    · cases e
  · cases e

open Classical in
/-- What a call comes to, with whatever fuel. -/
noncomputable def lim (P : Program) (cfg : Cfg) (fn : Fn) (args : List AV) (m : Mem) : Option (AV × Mem) := if h : ∃ r : AV × Mem, EH P cfg fn args m r.1 r.2 then some (Classical.choose h) else none
theorem EH.unique {cfg : Cfg} {fn : Fn} {args : List AV} {m : Mem} {v v' : AV} {m1 m2 : Mem} (h : EH P cfg fn args m v m1) (k : EH P cfg fn args m v' m2) : v' = v ∧ m2 = m1 := by
  obtain ⟨n, h1, h2⟩ := (Evt.and h k).one
  rw [h1] at h2
  cases h2
  exact ⟨rfl, rfl⟩
theorem lim_eq {cfg : Cfg} {fn : Fn} {args : List AV} {m m' : Mem} {v : AV} (h : EH P cfg fn args m v m') : lim P cfg fn args m = some (v, m') := by
  have hx : ∃ r : AV × Mem, EH P cfg fn args m r.1 r.2 := ⟨(v, m'), h⟩
  unfold lim
  rw [dif_pos hx]
  obtain ⟨h1, h2⟩ := EH.unique h (Classical.choose_spec hx)
  rw [Option.some.injEq]
  exact Prod.ext h1 h2
theorem lim_eh {cfg : Cfg} {fn : Fn} {args : List AV} {m : Mem} {r : AV × Mem} (h : lim P cfg fn args m = some r) : EH P cfg fn args m r.1 r.2 := by
  unfold lim at h
  split at h
  · rename_i hx
    cases h
    exact Classical.choose_spec hx
  · cases h

/-- The same, with whatever fuel. -/
noncomputable def cloneL (P : Program) (f : FuncId) (args : List AV) (m : Mem) : Option (AV × Mem) :=
  match args with
  | [x] => match elemsOf m x with
    | some [] => some (.emp 1, m.skip)
    | some _ => lim P cf0 (.func f) [x] m
    | _ => none
  | _ => none

theorem cloneL_ver (W : World) {f : FuncId} {args : List AV} {m m' : Mem} {v : AV} (e : cloneL P f args m = some (v, m')) : VM m m' := by
  unfold cloneL at e
  split at e
  · split at e
    · cases e; exact .skip _
    · obtain ⟨n, hn⟩ := (lim_eh e).one
      exact afn_ver (B := 0) (W := W) hooks0 _ _ _ _ _ _ hn
    · cases e
  · cases e
theorem cloneL_sound (hP : P.follows .mixedOrders = true) {f : FuncId} (hf : CloneAt P f) {args : List AV} {m m' : Mem} {v : AV} (e : cloneL P f args m = some (v, m')) (hv : VI m) : CallOk P B W f args m v m' := by
  unfold cloneL at e
  split at e
  · rename_i x
    split at e
    · rename_i he
      refine cloneH_sound hP hf (args := [x]) ?_ hv
      simp only [cloneH, he]
      exact e
    · obtain ⟨n, hn⟩ := (lim_eh e).one
      exact (afn_sound hP hooks0 n).func f _ _ _ _ hn hv
    · cases e
  · cases e

/-- slices.Clone, its result a list that never changes. -/
noncomputable def cloneP (P : Program) (f : FuncId) (args : List AV) (m : Mem) : Option (AV × Mem) :=
  match cloneL P f (fzvs m args).1 (fzvs m args).2 with
  | some r => gcw 1 (fzvs m args).2 (fzr r.2 r.1)
  | none => none

theorem cloneP_ver (W : World) {f : FuncId} {args : List AV} {m m' : Mem} {v : AV} (e : cloneP P f args m = some (v, m')) : VM m m' := by
  unfold cloneP at e
  split at e
  · rename_i r hr
    exact (VM.fzvs args m).trans (VM.gcw ((cloneL_ver W hr).trans (VM.fzr r.2 r.1)) e)
  · cases e
theorem cloneP_sound (hP : P.follows .mixedOrders = true) {f : FuncId} (hf : CloneAt P f) {args : List AV} {m m' : Mem} {v : AV} (e : cloneP P f args m = some (v, m')) (hv : VI m) : CallOk P B W f args m v m' := by
  unfold cloneP at e
  split at e
  · rename_i r hr
    intro g w vals k h
    obtain ⟨g1, l1, w1, k1⟩ := fzvs_sound args h k
    have hv1 := (VM.fzvs args m).inv hv
    have vm := (cloneL_ver W hr).trans (VM.fzr r.2 r.1)
    have fin : ∀ (v' : Value) (g' : G) (w' : World), g1.le g' → Rel g' r.1 v' → WR B W g' r.2 w' → ∃ g4, g.le g4 ∧ Rel g4 v v' ∧ WR B W g4 m' w' := by
      intro v' g' w' l2 r2 w2
      obtain ⟨g3, l3, w3, r3⟩ := fzr_sound w2 r2
      obtain ⟨g4, l4, r4, w4⟩ := gcw_sound w1 hv1 vm (l2.trans l3) w3 r3 e
      exact ⟨g4, l1.trans l4, r4, w4⟩
    rcases cloneL_sound hP hf hr hv1 g1 w vals k1 w1 with ⟨h2, h3⟩ | ⟨v', g', h2, h3, h4, h5⟩
    · refine .inl ⟨h2, h3.mono fun e w' ⟨v', g', h4, h5, h6, h7⟩ => ?_⟩
      obtain ⟨g4, a, b, c⟩ := fin v' g' w' h5 h6 h7
      exact ⟨v', g4, h4, a, b, c⟩
    · obtain ⟨g4, a, b, c⟩ := fin v' g' w h3 h4 h5
      exact .inr ⟨v', g4, h2, a, b, c⟩
  · cases e
end Go.V
