/- A calculus for the abstract interpreter's runs: fuel is out of sight. -/
import Derived.Test.YtipmoeclkamciaaVCode
set_option linter.unusedSimpArgs false
set_option linter.unusedVariables false
set_option linter.unusedSectionVars false
namespace Go.V
variable {P : Program} {cfg : Cfg}

/-- From some number on. -/
def Evt (p : Nat → Prop) : Prop := ∃ n0, ∀ n, n0 ≤ n → p n

theorem Evt.all {p : Nat → Prop} (h : ∀ n, p n) : Evt p := ⟨0, fun n _ => h n⟩
theorem Evt.mono {p q : Nat → Prop} (h : Evt p) (k : ∀ n, p n → q n) : Evt q := let ⟨n0, hn⟩ := h; ⟨n0, fun n l => k n (hn n l)⟩
theorem Evt.and {p q : Nat → Prop} (h : Evt p) (k : Evt q) : Evt fun n => p n ∧ q n :=
  let ⟨a, ha⟩ := h; let ⟨b, hb⟩ := k
  ⟨a + b, fun n l => ⟨ha n (by omega), hb n (by omega)⟩⟩
theorem Evt.both {p q r : Nat → Prop} (h : Evt p) (k : Evt q) (f : ∀ n, p n → q n → r n) : Evt r := (h.and k).mono fun n x => f n x.1 x.2
theorem Evt.one {p : Nat → Prop} (h : Evt p) : ∃ n, p n := let ⟨n0, hn⟩ := h; ⟨n0, hn n0 (Nat.le_refl _)⟩

/-- A call comes to this. -/
def EH (P : Program) (cfg : Cfg) (fn : Fn) (args : List AV) (m : Mem) (r : AV) (m' : Mem) : Prop := Evt fun n => afn P cfg n fn args m = some (r, m')

/-- A call, and what holds then. -/
def wph (P : Program) (cfg : Cfg) (fn : Fn) (args : List AV) (m : Mem) (K : AV → Mem → Prop) : Prop := ∃ v m1, EH P cfg fn args m v m1 ∧ K v m1

def wpR (r : Option (AV × Mem)) (K : AV → Mem → Prop) : Prop := match r with | some (v, m) => K v m | none => False
def wpP (r : Option Sl) (K : Sl → Prop) : Prop := match r with | some s => K s | none => False
def wpIf (t : Bool) (A B : Prop) : Prop := match t with | true => A | false => B
def wpB (v : AV) (K : Bool → Prop) : Prop := match v with | .sc (.bool t) => K t | _ => False
/-- A function value is called. -/
def wpF (v : AV) (K : Fn → List AV → List AV → Prop) : Prop := match v with | .fn f a b => K f a b | _ => False

theorem wpR_some {v : AV} {m : Mem} {K : AV → Mem → Prop} : wpR (some (v, m)) K = K v m := rfl
theorem wpP_some {s : Sl} {K : Sl → Prop} : wpP (some s) K = K s := rfl
theorem wpIf_true {A B : Prop} : wpIf true A B = A := rfl
theorem wpIf_false {A B : Prop} : wpIf false A B = B := rfl
theorem wpB_bool {t : Bool} {K : Bool → Prop} : wpB (.sc (.bool t)) K = K t := rfl
theorem wpF_fn {f : Fn} {a b : List AV} {K : Fn → List AV → List AV → Prop} : wpF (.fn f a b) K = K f a b := rfl
theorem wpIf_split {t : Bool} {A B : Prop} (h1 : t = true → A) (h2 : t = false → B) : wpIf t A B := by cases t; exact h2 rfl; exact h1 rfl

@[congr] theorem wpR_congr {r r' : Option (AV × Mem)} {K : AV → Mem → Prop} (h : r = r') : wpR r K = wpR r' K := by rw [h]
@[congr] theorem wpP_congr {r r' : Option Sl} {K : Sl → Prop} (h : r = r') : wpP r K = wpP r' K := by rw [h]
@[congr] theorem wpIf_congr {t t' : Bool} {A B : Prop} (h : t = t') : wpIf t A B = wpIf t' A B := by rw [h]
@[congr] theorem wpB_congr {t t' : AV} {K : Bool → Prop} (h : t = t') : wpB t K = wpB t' K := by rw [h]
@[congr] theorem wpF_congr {t t' : AV} {K : Fn → List AV → List AV → Prop} (h : t = t') : wpF t K = wpF t' K := by rw [h]
@[congr] theorem wph_congr {fn : Fn} {args args' : List AV} {m : Mem} {K : AV → Mem → Prop} (h : args = args') : wph P cfg fn args m K = wph P cfg fn args' m K := by rw [h]

def wps (P : Program) (cfg : Cfg) (s : Sl) (o : Oper) (m : Mem) (K : AV → Mem → Prop) : Prop :=
  match o.op with
  | .call { callee := .value f, args, .. } => wpF (ev s f) fun fn first captured => wph P cfg fn (first ++ args.toList.map (ev s) ++ captured) m K
  | _ => wpR (aop P s o m) K

theorem wps_sound {s : Sl} {o : Oper} {m : Mem} {K : AV → Mem → Prop} (h : wps P cfg s o m K) : ∃ v m1, Evt (fun n => astep P (afn P cfg n) s o m = some (v, m1)) ∧ K v m1 := by
  unfold wps at h
  split at h
  · rename_i f args ts ho
    unfold wpF at h
    split at h
    · rename_i fn a b hf
      obtain ⟨v, m1, h1, h2⟩ := h
      exact ⟨v, m1, h1.mono fun n hn => by unfold astep; rw [ho]; dsimp only; rw [hf]; exact hn, h2⟩
    · exact h.elim
  · rename_i ho
    unfold wpR at h
    split at h
    · rename_i v m1 hr
      refine ⟨v, m1, .all fun n => ?_, h⟩
      unfold astep
      split
      · rename_i f args ts hc; exact absurd hc (ho f args ts)
      · exact hr
    · exact h.elim

/-- Operations in the text's order. -/
def wpo (P : Program) (cfg : Cfg) (N : Nat) (all : Array Oper) : List Oper → Sl → Mem → (Sl → Mem → Prop) → Prop
  | [], s, m, K => K s m
  | o :: rest, s, m, K => wpIf (Region.wanted o (ayields all s)) (wps P cfg s o m fun v m1 => wpP (aput N s o.dst v) fun s1 => wpo P cfg N all rest s1 m1 K) (wpP (aput N s o.dst undefV) fun s1 => wpo P cfg N all rest s1 m K)

theorem wpo_sound {N : Nat} {all : Array Oper} : ∀ (l : List Oper) (s : Sl) (m : Mem) (K : Sl → Mem → Prop), wpo P cfg N all l s m K → ∃ s' m', Evt (fun n => aops P (afn P cfg n) N all l s m = some (s', m')) ∧ K s' m'
  | [], s, m, K, h => ⟨s, m, .all fun n => rfl, h⟩
  | o :: rest, s, m, K, h => by
    simp only [wpo] at h
    cases hw : Region.wanted o (ayields all s) with
    | true =>
      rw [hw] at h
      obtain ⟨v, m1, h1, h2⟩ := wps_sound h
      unfold wpP at h2
      split at h2
      · rename_i s1 hs
        obtain ⟨s', m', h3, h4⟩ := wpo_sound rest s1 m1 K h2
        exact ⟨s', m', h1.both h3 fun n a b => by simp only [aops]; rw [if_pos hw, a]; dsimp only; rw [hs]; exact b, h4⟩
      · exact h2.elim
    | false =>
      rw [hw] at h
      unfold wpIf wpP at h
      dsimp only at h
      split at h
      · rename_i s1 hs
        obtain ⟨s', m', h3, h4⟩ := wpo_sound rest s1 m K h
        exact ⟨s', m', h3.mono fun n b => by simp only [aops]; rw [if_neg (by rw [hw]; simp), hs]; exact b, h4⟩
      · exact h.elim

/-- Operations in the text's order, with what they found. -/
def wpt (P : Program) (cfg : Cfg) (N : Nat) (all : Array Oper) : List Oper → Sl → Mem → List (Sl × Mem) → (List (Sl × Mem) → Sl → Mem → Prop) → Prop
  | [], s, m, acc, K => K (acc ++ [(s, m)]) s m
  | o :: rest, s, m, acc, K => wpIf (Region.wanted o (ayields all s)) (wps P cfg s o m fun v m1 => wpP (aput N s o.dst v) fun s1 => wpt P cfg N all rest s1 m1 (acc ++ [(s, m)]) K) (wpP (aput N s o.dst undefV) fun s1 => wpt P cfg N all rest s1 m (acc ++ [(s, m)]) K)

theorem wpt_sound {N : Nat} {all : Array Oper} : ∀ (l : List Oper) (s : Sl) (m : Mem) (acc : List (Sl × Mem)) (K : List (Sl × Mem) → Sl → Mem → Prop), wpt P cfg N all l s m acc K → ∃ s' m' ms, Evt (fun n => aopsT P (afn P cfg n) N all l s m = some (s', m', ms)) ∧ ms.length = l.length + 1 ∧ K (acc ++ ms) s' m'
  | [], s, m, acc, K, h => ⟨s, m, [(s, m)], .all fun n => rfl, rfl, h⟩
  | o :: rest, s, m, acc, K, h => by
    simp only [wpt] at h
    cases hw : Region.wanted o (ayields all s) with
    | true =>
      rw [hw] at h
      obtain ⟨v, m1, h1, h2⟩ := wps_sound h
      unfold wpP at h2
      split at h2
      · rename_i s1 hs
        obtain ⟨s', m', ms, h3, hl, h4⟩ := wpt_sound rest s1 m1 _ K h2
        exact ⟨s', m', (s, m) :: ms, h1.both h3 fun n a b => by simp only [aopsT]; rw [if_pos hw, a]; dsimp only; rw [hs]; dsimp only; rw [b]; rfl, by simp [hl], by simpa using h4⟩
      · exact h2.elim
    | false =>
      rw [hw] at h
      unfold wpIf wpP at h
      dsimp only at h
      split at h
      · rename_i s1 hs
        obtain ⟨s', m', ms, h3, hl, h4⟩ := wpt_sound rest s1 m _ K h
        exact ⟨s', m', (s, m) :: ms, h3.mono fun n b => by simp only [aopsT]; rw [if_neg (by rw [hw]; simp), hs]; dsimp only; rw [b]; rfl, by simp [hl], by simpa using h4⟩
      · exact h.elim

/-- The pairs that are to be looked at. -/
def metL (ops : Array Oper) : List (Nat × Nat) :=
  let b := Region.before ops
  (List.range ops.size).flatMap fun j => (List.range j).filterMap fun i =>
    if (b.getD j 0).testBit i then none else
    match ops[i]?, ops[j]? with
    | some x, some y => if (rank x == 1 && decide (2 ≤ rank y)) || (decide (2 ≤ rank x) && rank y == 1) || (rank x == 3 && rank y == 3) then some (i, j) else none
    | _, _ => some (i, j)

def metAt (ops : Array Oper) (ms : List (Sl × Mem)) (p : Nat × Nat) : Bool :=
  match ops[p.1]?, ops[p.2]? with
  | some x, some y => metOk ops ms p.1 p.2 x y
  | _, _ => false

theorem metAll_of {ops : Array Oper} {ms : List (Sl × Mem)} (hl : ms.length = ops.size + 1) (h : (metL ops).all (metAt ops ms) = true) : metAll ops ms = true := by
  unfold metAll
  refine List.all_eq_true.2 fun j hj => List.all_eq_true.2 fun i hi => ?_
  simp only [List.mem_range] at hj hi
  have hx := Array.getElem?_eq_getElem (show i < ops.size by omega)
  have hy := Array.getElem?_eq_getElem hj
  cases hb : ((Region.before ops).getD j 0).testBit i with
  | true => simp
  | false =>
    simp only [Bool.false_or, hx, hy]
    cases hr : ((rank ops[i] == 1 && decide (2 ≤ rank ops[j])) || (decide (2 ≤ rank ops[i]) && rank ops[j] == 1) || (rank ops[i] == 3 && rank ops[j] == 3)) with
    | true =>
      have hm : (i, j) ∈ metL ops := by
        unfold metL
        refine List.mem_flatMap.2 ⟨j, List.mem_range.2 hj, List.mem_filterMap.2 ⟨i, List.mem_range.2 hi, ?_⟩⟩
        simp only [hb, hx, hy, hr, if_true, Bool.false_eq_true, if_false]
      have := List.all_eq_true.1 h _ hm
      simpa [metAt, hx, hy] using this
    | false =>
      simp only [Bool.or_eq_false_iff, Bool.and_eq_false_iff] at hr
      obtain ⟨⟨h1, h2⟩, h3⟩ := hr
      unfold metOk
      have hi' : ms[i]? = some ms[i] := List.getElem?_eq_getElem (by omega)
      have hj' : ms[j]? = some ms[j] := List.getElem?_eq_getElem (by omega)
      rw [hi', hj']
      dsimp only
      split
      · rfl
      · rw [if_neg, if_neg, if_neg]
        · intro h; simp only [Bool.and_eq_true] at h; rcases h3 with h3 | h3 <;> simp_all
        · intro h; simp only [Bool.and_eq_true] at h; rcases h2 with h2 | h2 <;> simp_all
        · intro h; simp only [Bool.and_eq_true] at h; rcases h1 with h1 | h1 <;> simp_all

/-- Where a run goes on. -/
def thn (A : Sl → Mem → Prop) (Q : Ex → Sl → Mem → Prop) (e : Ex) (s : Sl) (m : Mem) : Prop := match e with | .normal => A s m | e => Q e s m
def blk (id : Nat) (Q : Ex → Sl → Mem → Prop) (e : Ex) (s : Sl) (m : Mem) : Prop := match e with | .exit id' => if id' = id then Q .normal s m else Q (.exit id') s m | e => Q e s m

def wpc (P : Program) (cfg : Cfg) (N : Nat) : Code → Sl → Mem → (Ex → Sl → Mem → Prop) → Prop
  | .skip, s, m, Q | .label _, s, m, Q => Q .normal s m
  | .exit id, s, m, Q => Q (.exit id) s m
  | .ret, s, m, Q => Q .ret s m
  | .region _ ops draw, s, m, Q => if draw then drawOk ops = true ∧ wpt P cfg N ops ops.toList s m [] (fun ms s m => (metL ops).all (metAt ops ms) = true ∧ Q .normal s m) else wpo P cfg N ops ops.toList s m (Q .normal)
  | .seq a b, s, m, Q => wpc P cfg N a s m (thn (fun s m => wpc P cfg N b s m Q) Q)
  | .cond c x y, s, m, Q => wpB (ev s c) fun t => wpIf t (wpc P cfg N x s m Q) (wpc P cfg N y s m Q)
  | .block id b, s, m, Q => wpc P cfg N b s m (blk id Q)
  | .loop b, s, m, Q => ∃ (I : Nat → Sl → Mem → Prop) (k : Nat), I k s m ∧ ∀ k s m, I k s m → wpc P cfg N b s m (thn (fun s m => ∃ k', k' < k ∧ I k' s m) Q)
  | _, _, _, _ => False

theorem wpc_sound {N : Nat} : ∀ (c : Code) (s : Sl) (m : Mem) (Q : Ex → Sl → Mem → Prop), wpc P cfg N c s m Q → ∃ e s' m', Evt (fun n => acode P (afn P cfg n) N n c s m = some (e, s', m')) ∧ Q e s' m' := by
  intro c
  induction c with
  | skip => intro s m Q h; exact ⟨.normal, s, m, .all fun n => rfl, h⟩
  | label l => intro s m Q h; exact ⟨.normal, s, m, .all fun n => rfl, h⟩
  | exit l => intro s m Q h; exact ⟨.exit l, s, m, .all fun n => rfl, h⟩
  | ret => intro s m Q h; exact ⟨.ret, s, m, .all fun n => rfl, h⟩
  | region id ops draw =>
    intro s m Q h
    simp only [wpc] at h
    split at h
    · rename_i hd
      obtain ⟨h1, h2⟩ := h
      obtain ⟨s', m', ms, h3, hl, h4, h5⟩ := wpt_sound _ _ _ _ _ h2
      refine ⟨.normal, s', m', h3.mono fun n hn => ?_, h5⟩
      simp only [acode]
      rw [if_pos hd, if_pos h1, hn]
      dsimp only
      rw [if_pos (metAll_of (by simpa using hl) (by simpa using h4))]
    · rename_i hd
      obtain ⟨s', m', h3, h5⟩ := wpo_sound _ _ _ _ h
      refine ⟨.normal, s', m', h3.mono fun n hn => ?_, h5⟩
      simp only [acode]
      rw [if_neg hd, hn]
  | seq a b iha ihb =>
    intro s m Q h
    obtain ⟨e, s1, m1, h1, h2⟩ := iha _ _ _ h
    cases e with
    | normal =>
      obtain ⟨e, s2, m2, h3, h4⟩ := ihb _ _ _ h2
      exact ⟨e, s2, m2, h1.both h3 fun n a b => by simp only [acode]; rw [a]; exact b, h4⟩
    | _ => exact ⟨_, s1, m1, h1.mono fun n a => by simp only [acode]; rw [a], h2⟩
  | cond c x y ihx ihy =>
    intro s m Q h
    simp only [wpc] at h
    unfold wpB at h
    split at h
    · rename_i t ht
      cases t with
      | true =>
        obtain ⟨e, s2, m2, h3, h4⟩ := ihx _ _ _ h
        exact ⟨e, s2, m2, h3.mono fun n a => by simp only [acode]; rw [ht]; exact a, h4⟩
      | false =>
        obtain ⟨e, s2, m2, h3, h4⟩ := ihy _ _ _ h
        exact ⟨e, s2, m2, h3.mono fun n a => by simp only [acode]; rw [ht]; exact a, h4⟩
    · exact h.elim
  | block id b ih =>
    intro s m Q h
    obtain ⟨e, s1, m1, h1, h2⟩ := ih _ _ _ h
    cases e with
    | exit id' =>
      simp only [blk] at h2
      split at h2
      · rename_i hid
        exact ⟨.normal, s1, m1, h1.mono fun n a => by simp only [acode]; rw [a]; dsimp only; rw [if_pos hid], h2⟩
      · rename_i hid
        exact ⟨.exit id', s1, m1, h1.mono fun n a => by simp only [acode]; rw [a]; dsimp only; rw [if_neg hid], h2⟩
    | _ => exact ⟨_, s1, m1, h1.mono fun n a => by simp only [acode]; rw [a], h2⟩
  | loop b ih =>
    intro s m Q h
    simp only [wpc] at h
    obtain ⟨I, k, hI, hr⟩ := h
    have key : ∀ k s m, I k s m → ∃ e s' m', (∃ n0, ∀ n f, n0 ≤ n → n0 ≤ f → aloop (acode P (afn P cfg n) N n b) f s m = some (e, s', m')) ∧ Q e s' m' := by
      intro k
      induction k using Nat.strongRecOn with
      | _ k ihk =>
        intro s m hI
        obtain ⟨e, s1, m1, ⟨n1, h1⟩, h2⟩ := ih _ _ _ (hr k s m hI)
        cases e with
        | normal =>
          obtain ⟨k', hk, hI'⟩ := h2
          obtain ⟨e, s2, m2, ⟨n2, h3⟩, h4⟩ := ihk k' hk _ _ hI'
          refine ⟨e, s2, m2, ⟨n1 + n2 + 1, fun n f hn hf => ?_⟩, h4⟩
          obtain ⟨f, rfl⟩ : ∃ f', f = f' + 1 := ⟨f - 1, by omega⟩
          simp only [aloop]
          rw [h1 n (by omega)]
          exact h3 n f (by omega) (by omega)
        | _ =>
          refine ⟨_, s1, m1, ⟨n1 + 1, fun n f hn hf => ?_⟩, h2⟩
          obtain ⟨f, rfl⟩ : ∃ f', f = f' + 1 := ⟨f - 1, by omega⟩
          simp only [aloop]
          rw [h1 n (by omega)]
    obtain ⟨e, s', m', ⟨n0, h1⟩, h2⟩ := key k s m hI
    exact ⟨e, s', m', ⟨n0, fun n hn => h1 n n hn hn⟩, h2⟩
  | _ => intro s m Q h; exact h.elim

theorem wpR_mono {r : Option (AV × Mem)} {K K' : AV → Mem → Prop} (h : wpR r K) (k : ∀ v m, K v m → K' v m) : wpR r K' := by
  unfold wpR at h ⊢
  split at h
  · exact k _ _ h
  · exact h.elim
theorem wpP_mono {r : Option Sl} {K K' : Sl → Prop} (h : wpP r K) (k : ∀ s, K s → K' s) : wpP r K' := by
  unfold wpP at h ⊢
  split at h
  · exact k _ h
  · exact h.elim
theorem wpIf_mono {t : Bool} {A B A' B' : Prop} (h : wpIf t A B) (a : A → A') (b : B → B') : wpIf t A' B' := by
  cases t
  · exact b h
  · exact a h
theorem wps_mono {s : Sl} {o : Oper} {m : Mem} {K K' : AV → Mem → Prop} (h : wps P cfg s o m K) (k : ∀ v m, K v m → K' v m) : wps P cfg s o m K' := by
  unfold wps at h ⊢
  split at h
  · unfold wpF at h ⊢
    split at h
    · obtain ⟨v, m1, h1, h2⟩ := h; exact ⟨v, m1, h1, k _ _ h2⟩
    · exact h.elim
  · exact wpR_mono h k
theorem wpo_mono {N : Nat} {all : Array Oper} : ∀ (l : List Oper) (s : Sl) (m : Mem) (K K' : Sl → Mem → Prop), wpo P cfg N all l s m K → (∀ s m, K s m → K' s m) → wpo P cfg N all l s m K'
  | [], s, m, K, K', h, k => k _ _ h
  | o :: l, s, m, K, K', h, k => by
    simp only [wpo] at h ⊢
    exact wpIf_mono h (fun h => wps_mono h fun v m1 h => wpP_mono h fun s1 h => wpo_mono l s1 m1 K K' h k) (fun h => wpP_mono h fun s1 h => wpo_mono l s1 m K K' h k)
theorem wpt_mono {N : Nat} {all : Array Oper} : ∀ (l : List Oper) (s : Sl) (m : Mem) (acc : List (Sl × Mem)) (K K' : List (Sl × Mem) → Sl → Mem → Prop), wpt P cfg N all l s m acc K → (∀ a s m, K a s m → K' a s m) → wpt P cfg N all l s m acc K'
  | [], s, m, acc, K, K', h, k => k _ _ _ h
  | o :: l, s, m, acc, K, K', h, k => by
    simp only [wpt] at h ⊢
    exact wpIf_mono h (fun h => wps_mono h fun v m1 h => wpP_mono h fun s1 h => wpt_mono l s1 m1 _ K K' h k) (fun h => wpP_mono h fun s1 h => wpt_mono l s1 m _ K K' h k)
theorem wpc_conv {N : Nat} : ∀ {c : Code} {s : Sl} {m : Mem} {Q Q' : Ex → Sl → Mem → Prop}, wpc P cfg N c s m Q → (∀ e s m, Q e s m → Q' e s m) → wpc P cfg N c s m Q' := by
  intro c
  induction c with
  | skip => intro s m Q Q' h k; exact k _ _ _ h
  | label l => intro s m Q Q' h k; exact k _ _ _ h
  | exit l => intro s m Q Q' h k; exact k _ _ _ h
  | ret => intro s m Q Q' h k; exact k _ _ _ h
  | region id ops draw =>
    intro s m Q Q' h k
    simp only [wpc] at h ⊢
    split at h
    · rename_i hd
      rw [if_pos hd]
      exact ⟨h.1, wpt_mono _ _ _ _ _ _ h.2 fun a s m h => ⟨h.1, k _ _ _ h.2⟩⟩
    · rename_i hd
      rw [if_neg hd]
      exact wpo_mono _ _ _ _ _ h fun s m h => k _ _ _ h
  | seq a b iha ihb =>
    intro s m Q Q' h k
    refine iha h fun e s m h => ?_
    cases e with
    | normal => exact ihb h k
    | _ => exact k _ _ _ h
  | cond c x y ihx ihy =>
    intro s m Q Q' h k
    simp only [wpc] at h ⊢
    unfold wpB at h ⊢
    split at h
    · exact wpIf_mono h (fun h => ihx h k) (fun h => ihy h k)
    · exact h.elim
  | block id b ih =>
    intro s m Q Q' h k
    refine ih h fun e s m h => ?_
    cases e with
    | exit id' =>
      simp only [blk] at h ⊢
      split at h
      · rename_i e; rw [if_pos e]; exact k _ _ _ h
      · rename_i e; rw [if_neg e]; exact k _ _ _ h
    | _ => exact k _ _ _ h
  | loop b ih =>
    intro s m Q Q' h k
    simp only [wpc] at h ⊢
    obtain ⟨I, n, h1, h2⟩ := h
    refine ⟨I, n, h1, fun n s m hI => ih (h2 n s m hI) fun e s m h => ?_⟩
    cases e with
    | normal => exact h
    | _ => exact k _ _ _ h
  | _ => intro s m Q Q' h; exact h.elim

theorem wpc_mono {N : Nat} {Q Q' : Ex → Sl → Mem → Prop} {c : Code} {s : Sl} {m : Mem} (h : wpc P cfg N c s m Q) (k : ∀ e s m, Q e s m → Q' e s m) : ∃ e s' m', Evt (fun n => acode P (afn P cfg n) N n c s m = some (e, s', m')) ∧ Q' e s' m' := by
  obtain ⟨e, s', m', h1, h2⟩ := wpc_sound _ _ _ _ h
  exact ⟨e, s', m', h1, k _ _ _ h2⟩

/-- What a body leaves. -/
def leave (P : Program) (keep : Bool) (rs : List ResultVar) (K : AV → Mem → Prop) (e : Ex) (s : Sl) (m : Mem) : Prop :=
  (e = .normal ∨ e = .ret) ∧ ∃ vs, aresult P s m rs = some vs ∧ K (if keep then (oneOf vs, m) else fzr m (oneOf vs)).1 (if keep then (oneOf vs, m) else fzr m (oneOf vs)).2

/-- Memory that was there is there as it was. -/
structure Kp (m m' : Mem) : Prop where
  next : m.next ≤ m'.next
  get : ∀ id, id < m.next → m'.get id = m.get id
theorem Kp.refl (m : Mem) : Kp m m := ⟨Nat.le_refl _, fun _ _ => rfl⟩
theorem Kp.trans {a b c : Mem} (h : Kp a b) (k : Kp b c) : Kp a c := ⟨Nat.le_trans h.next k.next, fun id hi => (k.get id (Nat.lt_of_lt_of_le hi h.next)).trans (h.get id hi)⟩
theorem Kp.new (m : Mem) (cs : List AV) (f : Bool) : Kp m (m.new cs f) := ⟨by simp [Mem.next_new], fun id hi => by rw [Mem.get_new, if_neg (by omega)]⟩

theorem sameO_refl (o : Option AObj) : sameO o o = true := by
  unfold sameO
  cases o with
  | none => rfl
  | some o => obtain ⟨cs, f, v⟩ := o; simp

/-- What a call leaves, told of a result and a memory. -/
def gcK (k : Nat) (m : Mem) (K : AV → Mem → Prop) (v : AV) (m' : Mem) : Prop := ∃ r, gcw k m (v, m') = some r ∧ K r.1 r.2

theorem gcK_0 {m m' : Mem} {K : AV → Mem → Prop} {v : AV} (h : K v m') : gcK 0 m K v m' := ⟨(v, m'), rfl, h⟩
theorem gcK_1 {m m' : Mem} {K : AV → Mem → Prop} {v : AV} (hb : v.bel m.next = true) (hk : Kp m m') (h : K v m) : gcK 1 m K v m' := by
  refine ⟨(v, m), ?_, h⟩
  simp only [gcw]
  rw [if_pos]
  simp only [Bool.and_eq_true, List.all_eq_true, List.mem_range]
  exact ⟨hb, fun id hi => by rw [hk.get id hi]; exact sameO_refl _⟩
theorem gcK_2 {m m' : Mem} {K : AV → Mem → Prop} {v : AV} (hb : v.bel m.next = true) (hk : ∀ id, id < m.next → m'.get id = m.get id ∨ keptO m.next (m'.get id) = true) (h : K v (m'.cut m.next)) : gcK 2 m K v m' := by
  refine ⟨(v, m'.cut m.next), ?_, h⟩
  simp only [gcw]
  rw [if_pos]
  simp only [Bool.and_eq_true, List.all_eq_true, List.mem_range, Bool.or_eq_true]
  refine ⟨hb, fun id hi => ?_⟩
  rcases hk id hi with e | h
  · rw [e]; exact .inl (sameO_refl _)
  · exact .inr h

/-- A Go function with a body is called. -/
theorem wph_func {f : FuncId} {fn : Func} {c : Code} {args : List AV} {m : Mem} {K : AV → Mem → Prop} (hf : P.funcs[f]? = some fn) (hb : fn.body = some c) (hk : cfg.hook f = none) (hn : fn.name ≠ "runtime.NumGoroutine") (hl : args.length ≤ fn.ntmps)
    (h : wpc P cfg fn.ntmps c (Sl.putAll .nil 0 (if cfg.keepArgs f then (args, m) else fzvs m args).1) (if cfg.keepArgs f then (args, m) else fzvs m args).2 (leave P (cfg.keepRes f) fn.results.toList (gcK (cfg.gc f) (if cfg.keepArgs f then (args, m) else fzvs m args).2 K))) : wph P cfg (.func f) args m K := by
  obtain ⟨e, s', m', h1, he, vs, h2, r, h4, h3⟩ := wpc_sound _ _ _ _ h
  refine ⟨r.1, r.2, ?_, h3⟩
  obtain ⟨n0, hn0⟩ := h1
  refine ⟨n0 + 1, fun n hle => ?_⟩
  obtain ⟨k, rfl⟩ : ∃ k, n = k + 1 := ⟨n - 1, by omega⟩
  simp only [afn, hk, abody, hf, hb]
  rw [if_pos ⟨hn, hl⟩, hn0 k (by omega)]
  rcases he with rfl | rfl
  · simp only [h2]; exact h4
  · simp only [h2]; exact h4

theorem wph_mono {fn : Fn} {args : List AV} {m : Mem} {K K' : AV → Mem → Prop} (h : wph P cfg fn args m K) (k : ∀ v m, K v m → K' v m) : wph P cfg fn args m K' := let ⟨v, m1, a, b⟩ := h; ⟨v, m1, a, k _ _ b⟩

/-- A function that is told by hand is called. -/
theorem wph_hook {f : FuncId} {hk : List AV → Mem → Option (AV × Mem)} {args : List AV} {m : Mem} {K : AV → Mem → Prop} (h : cfg.hook f = some hk) (hr : wpR (hk args m) K) : wph P cfg (.func f) args m K := by
  unfold wpR at hr
  split at hr
  · rename_i v m1 he
    refine ⟨v, m1, ⟨1, fun n hn => ?_⟩, hr⟩
    obtain ⟨k, rfl⟩ : ∃ k, n = k + 1 := ⟨n - 1, by omega⟩
    simp only [afn, h, he]
  · exact hr.elim

/-- A function without a body. -/
theorem wph_extern {f : FuncId} {fn : Func} {args : List AV} {vs : List Value} {r : Value} {m : Mem} {K : AV → Mem → Prop} (hf : P.funcs[f]? = some fn) (hb : fn.body = none) (hk : cfg.hook f = none) (hs : scals args = some vs)
    (hr : pureRun P (callFunc f vs.toArray) = some (.value r)) (h : K (.sc r) m) : wph P cfg (.func f) args m K := by
  refine ⟨.sc r, m, ⟨1, fun n hn => ?_⟩, h⟩
  obtain ⟨k, rfl⟩ : ∃ k, n = k + 1 := ⟨n - 1, by omega⟩
  simp only [afn, hk, abody, hf, hb, hs, hr]
end Go.V
