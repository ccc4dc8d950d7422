/- Runs as a list of what is left to do: no function stands in the goal, so the simplifier reckons step by step. -/
import Derived.Test.YtipmoeclkamciaaVClone
set_option linter.unusedSimpArgs false
set_option linter.unusedVariables false
set_option linter.unusedSectionVars false
namespace Go.V
variable {P : Program} {cfg : Cfg}

inductive It where
  | code (c : Code)
  | ops (all : Array Oper) (l : List Oper)
  | opt (all : Array Oper) (l : List Oper) (acc : List (Sl × Mem))
  | blk (id : Nat)

/-- What is left to do, after an end of that kind. -/
def goE (P : Program) (cfg : Cfg) (N : Nat) (Q : Ex → Sl → Mem → Prop) : List It → Ex → Sl → Mem → Prop
  | [] => Q
  | .code c :: k => thn (fun s m => wpc P cfg N c s m (goE P cfg N Q k)) (goE P cfg N Q k)
  | .ops all l :: k => thn (fun s m => wpo P cfg N all l s m (goE P cfg N Q k .normal)) (goE P cfg N Q k)
  | .opt all l acc :: k => thn (fun s m => wpt P cfg N all l s m acc (fun ms s m => (metL all).all (metAt all ms) = true ∧ goE P cfg N Q k .normal s m)) (goE P cfg N Q k)
  | .blk id :: k => V.blk id (goE P cfg N Q k)

def go (P : Program) (cfg : Cfg) (N : Nat) (Q : Ex → Sl → Mem → Prop) (k : List It) (s : Sl) (m : Mem) : Prop := goE P cfg N Q k .normal s m
/-- An operation's result, and what is left. -/
def goR (P : Program) (cfg : Cfg) (N : Nat) (Q : Ex → Sl → Mem → Prop) (r : Option (AV × Mem)) (d : Option Tmp) (k : List It) (s : Sl) : Prop := wpR r fun v m => wpP (aput N s d v) fun s => go P cfg N Q k s m
def goP (P : Program) (cfg : Cfg) (N : Nat) (Q : Ex → Sl → Mem → Prop) (r : Option Sl) (k : List It) (m : Mem) : Prop := wpP r fun s => go P cfg N Q k s m
def goB (P : Program) (cfg : Cfg) (N : Nat) (Q : Ex → Sl → Mem → Prop) (v : AV) (x y : Code) (k : List It) (s : Sl) (m : Mem) : Prop := wpB v fun t => go P cfg N Q (.code (if t then x else y) :: k) s m
/-- Is the operation wanted? -/
def goW (P : Program) (cfg : Cfg) (N : Nat) (Q : Ex → Sl → Mem → Prop) (t : Bool) (o : Oper) (k : List It) (s : Sl) (m : Mem) : Prop := wpIf t (wps P cfg s o m fun v m => wpP (aput N s o.dst v) fun s => go P cfg N Q k s m) (wpP (aput N s o.dst undefV) fun s => go P cfg N Q k s m)
def goS (P : Program) (cfg : Cfg) (N : Nat) (Q : Ex → Sl → Mem → Prop) (o : Oper) (k : List It) (s : Sl) (m : Mem) : Prop := wps P cfg s o m fun v m => wpP (aput N s o.dst v) fun s => go P cfg N Q k s m
def goF (P : Program) (cfg : Cfg) (N : Nat) (Q : Ex → Sl → Mem → Prop) (f : AV) (args : List AV) (d : Option Tmp) (k : List It) (s : Sl) (m : Mem) : Prop := wpF f fun fn a b => wph P cfg fn (a ++ args ++ b) m fun v m => wpP (aput N s d v) fun s => go P cfg N Q k s m
/-- A call. -/
def goH (P : Program) (cfg : Cfg) (N : Nat) (Q : Ex → Sl → Mem → Prop) (fn : Fn) (args : List AV) (d : Option Tmp) (k : List It) (s : Sl) (m : Mem) : Prop := wph P cfg fn args m fun v m => wpP (aput N s d v) fun s => go P cfg N Q k s m
/-- The pairs that are looked at, one by one. -/
def goM (P : Program) (cfg : Cfg) (N : Nat) (Q : Ex → Sl → Mem → Prop) (t : Bool) (k : List It) (s : Sl) (m : Mem) : Prop := t = true ∧ go P cfg N Q k s m

section
variable {N : Nat} {all : Array Oper} {s : Sl} {m : Mem} {Q : Ex → Sl → Mem → Prop} {o : Oper} {rest : List Oper} {k : List It} {acc : List (Sl × Mem)}
@[congr] theorem goR_congr {r r' : Option (AV × Mem)} {d : Option Tmp} (h : r = r') : goR P cfg N Q r d k s = goR P cfg N Q r' d k s := by rw [h]
@[congr] theorem goP_congr {r r' : Option Sl} (h : r = r') : goP P cfg N Q r k m = goP P cfg N Q r' k m := by rw [h]
@[congr] theorem goB_congr {r r' : AV} {x y : Code} (h : r = r') : goB P cfg N Q r x y k s m = goB P cfg N Q r' x y k s m := by rw [h]
@[congr] theorem goW_congr {r r' : Bool} (h : r = r') : goW P cfg N Q r o k s m = goW P cfg N Q r' o k s m := by rw [h]
@[congr] theorem goM_congr {r r' : Bool} (h : r = r') : goM P cfg N Q r k s m = goM P cfg N Q r' k s m := by rw [h]
@[congr] theorem goF_congr {r r' : AV} {a a' : List AV} {d : Option Tmp} (h : r = r') (h2 : a = a') : goF P cfg N Q r a d k s m = goF P cfg N Q r' a' d k s m := by rw [h, h2]
@[congr] theorem goH_congr {r : Fn} {a a' : List AV} {d : Option Tmp} (h2 : a = a') : goH P cfg N Q r a d k s m = goH P cfg N Q r a' d k s m := by rw [h2]

theorem go_nil : go P cfg N Q [] s m = Q .normal s m := Eq.trans rfl rfl
theorem go_skip : go P cfg N Q (.code .skip :: k) s m = go P cfg N Q k s m := Eq.trans rfl rfl
theorem go_label {l : Nat} : go P cfg N Q (.code (.label l) :: k) s m = go P cfg N Q k s m := Eq.trans rfl rfl
theorem go_exit {l : Nat} : go P cfg N Q (.code (.exit l) :: k) s m = goE P cfg N Q k (.exit l) s m := Eq.trans rfl rfl
theorem go_ret : go P cfg N Q (.code .ret :: k) s m = goE P cfg N Q k .ret s m := Eq.trans rfl rfl
theorem go_seq {a b : Code} : go P cfg N Q (.code (.seq a b) :: k) s m = go P cfg N Q (.code a :: .code b :: k) s m := Eq.trans rfl rfl
theorem go_cond {c : Operand} {x y : Code} : go P cfg N Q (.code (.cond c x y) :: k) s m = goB P cfg N Q (ev s c) x y k s m := by
  show wpc P cfg N (.cond c x y) s m (goE P cfg N Q k) = _
  simp only [wpc, goB]
  congr 1
  funext t
  cases t <;> rfl
theorem go_block {id : Nat} {b : Code} : go P cfg N Q (.code (.block id b) :: k) s m = go P cfg N Q (.code b :: .blk id :: k) s m := Eq.trans rfl rfl
theorem go_region {id : Nat} {ops : List Oper} : go P cfg N Q (.code (.region id ⟨ops⟩ false) :: k) s m = go P cfg N Q (.ops ⟨ops⟩ ops :: k) s m := Eq.trans rfl rfl
theorem go_draw {id : Nat} {ops : List Oper} (h : drawOk ⟨ops⟩ = true) : go P cfg N Q (.code (.region id ⟨ops⟩ true) :: k) s m = go P cfg N Q (.opt ⟨ops⟩ ops [] :: k) s m := by
  show (drawOk ⟨ops⟩ = true ∧ _) = _
  rw [eq_true h, true_and]
  rfl
theorem go_ops_nil : go P cfg N Q (.ops all [] :: k) s m = go P cfg N Q k s m := Eq.trans rfl rfl
theorem go_ops {op : Op} {d : Option Tmp} {T : TypeId} {p : String} {af : Array Edge} : go P cfg N Q (.ops all (⟨d, op, T, p, af, none⟩ :: rest) :: k) s m = goS P cfg N Q ⟨d, op, T, p, af, none⟩ (.ops all rest :: k) s m := Eq.trans rfl rfl
theorem go_ops_guard {op : Op} {d : Option Tmp} {T : TypeId} {p : String} {af : Array Edge} {j : Nat} {b : Bool} : go P cfg N Q (.ops all (⟨d, op, T, p, af, some (j, b)⟩ :: rest) :: k) s m = goW P cfg N Q (ayields all s j == some b) ⟨d, op, T, p, af, none⟩ (.ops all rest :: k) s m := Eq.trans rfl rfl
theorem go_opt_nil : go P cfg N Q (.opt all [] acc :: k) s m = goM P cfg N Q ((metL all).all (metAt all (acc ++ [(s, m)]))) k s m := Eq.trans rfl rfl
theorem go_opt {op : Op} {d : Option Tmp} {T : TypeId} {p : String} {af : Array Edge} : go P cfg N Q (.opt all (⟨d, op, T, p, af, none⟩ :: rest) acc :: k) s m = goS P cfg N Q ⟨d, op, T, p, af, none⟩ (.opt all rest (acc ++ [(s, m)]) :: k) s m := Eq.trans rfl rfl
theorem go_opt_guard {op : Op} {d : Option Tmp} {T : TypeId} {p : String} {af : Array Edge} {j : Nat} {b : Bool} : go P cfg N Q (.opt all (⟨d, op, T, p, af, some (j, b)⟩ :: rest) acc :: k) s m = goW P cfg N Q (ayields all s j == some b) ⟨d, op, T, p, af, none⟩ (.opt all rest (acc ++ [(s, m)]) :: k) s m := Eq.trans rfl rfl
theorem go_blk {id : Nat} : go P cfg N Q (.blk id :: k) s m = go P cfg N Q k s m := Eq.trans rfl rfl
theorem goE_nil {e : Ex} : goE P cfg N Q [] e s m = Q e s m := Eq.trans rfl rfl
theorem goE_code_exit {id : Nat} {c : Code} : goE P cfg N Q (.code c :: k) (.exit id) s m = goE P cfg N Q k (.exit id) s m := Eq.trans rfl rfl
theorem goE_code_ret {c : Code} : goE P cfg N Q (.code c :: k) .ret s m = goE P cfg N Q k .ret s m := Eq.trans rfl rfl
theorem goE_blk_ret {id : Nat} : goE P cfg N Q (.blk id :: k) .ret s m = goE P cfg N Q k .ret s m := Eq.trans rfl rfl
theorem goE_blk_same {id : Nat} : goE P cfg N Q (.blk id :: k) (.exit id) s m = go P cfg N Q k s m := by simp [goE, V.blk, go]
theorem goE_blk_other {id id' : Nat} (h : id' ≠ id) : goE P cfg N Q (.blk id :: k) (.exit id') s m = goE P cfg N Q k (.exit id') s m := by simp [goE, V.blk, h]

theorem goW_true : goW P cfg N Q true o k s m = goS P cfg N Q o k s m := Eq.trans rfl rfl
theorem goW_false : goW P cfg N Q false o k s m = goP P cfg N Q (aput N s o.dst undefV) k m := Eq.trans rfl rfl
theorem goM_true : goM P cfg N Q true k s m = go P cfg N Q k s m := by simp [goM]
theorem goR_some {d : Option Tmp} {v : AV} : goR P cfg N Q (some (v, m)) d k s = goP P cfg N Q (aput N s d v) k m := Eq.trans rfl rfl
theorem goP_some : goP P cfg N Q (some s) k m = go P cfg N Q k s m := Eq.trans rfl rfl
theorem goB_true {x y : Code} : goB P cfg N Q (.sc (.bool true)) x y k s m = go P cfg N Q (.code x :: k) s m := Eq.trans rfl rfl
theorem goB_false {x y : Code} : goB P cfg N Q (.sc (.bool false)) x y k s m = go P cfg N Q (.code y :: k) s m := Eq.trans rfl rfl
theorem goB_split {t : Bool} {x y : Code} (h1 : t = true → go P cfg N Q (.code x :: k) s m) (h2 : t = false → go P cfg N Q (.code y :: k) s m) : goB P cfg N Q (.sc (.bool t)) x y k s m := by cases t; exact h2 rfl; exact h1 rfl
theorem goF_fn {fn : Fn} {a b args : List AV} {d : Option Tmp} : goF P cfg N Q (.fn fn a b) args d k s m = goH P cfg N Q fn (a ++ args ++ b) d k s m := Eq.trans rfl rfl

theorem goH_of {fn : Fn} {args : List AV} {d : Option Tmp} {K : AV → Mem → Prop} (h : wph P cfg fn args m K) (hk : ∀ v m, K v m → goP P cfg N Q (aput N s d v) k m) : goH P cfg N Q fn args d k s m := wph_mono h hk

theorem go_loop {b : Code} (I : Nat → Sl → Mem → Prop) (n : Nat) (h : I n s m) (hb : ∀ n s m, I n s m → ∀ Q' : Ex → Sl → Mem → Prop, (∀ n' s m, n' < n → I n' s m → Q' .normal s m) → (∀ e s m, e ≠ .normal → goE P cfg N Q k e s m → Q' e s m) → go P cfg N Q' [.code b] s m) : go P cfg N Q (.code (.loop b) :: k) s m := by
  refine ⟨I, n, h, fun n s m hI => ?_⟩
  refine hb n s m hI _ (fun n' s m hn hI' => ⟨n', hn, hI'⟩) fun e s m hne he => ?_
  cases e with
  | normal => exact absurd rfl hne
  | _ => exact he

theorem leave_conv {keep : Bool} {rs : List ResultVar} {K K' : AV → Mem → Prop} {e : Ex} (h : leave P keep rs K e s m) (k : ∀ v m, K v m → K' v m) : leave P keep rs K' e s m := by
  obtain ⟨h1, vs, h2, h3⟩ := h
  exact ⟨h1, vs, h2, k _ _ h3⟩
theorem wph_goK {f : FuncId} {fn : Func} {c : Code} {args : List AV} {K : AV → Mem → Prop} (hf : P.funcs[f]? = some fn) (hb : fn.body = some c) (hk : cfg.hook f = none) (hn : fn.name ≠ "runtime.NumGoroutine") (hl : args.length ≤ fn.ntmps)
    (h : ∀ Q, (∀ e s m', leave P (cfg.keepRes f) fn.results.toList (gcK (cfg.gc f) (if cfg.keepArgs f then (args, m) else fzvs m args).2 K) e s m' → Q e s m') → go P cfg fn.ntmps Q [.code c] (Sl.putAll .nil 0 (if cfg.keepArgs f then (args, m) else fzvs m args).1) (if cfg.keepArgs f then (args, m) else fzvs m args).2) : wph P cfg (.func f) args m K := by
  refine wph_func hf hb hk hn hl ?_
  have := h _ fun e s m x => x
  exact this
theorem wph_go {f : FuncId} {fn : Func} {c : Code} {args : List AV} {K : AV → Mem → Prop} (hf : P.funcs[f]? = some fn) (hb : fn.body = some c) (hk : cfg.hook f = none) (hn : fn.name ≠ "runtime.NumGoroutine") (hl : args.length ≤ fn.ntmps)
    (h : ∀ Q, (∀ e s m, leave P (cfg.keepRes f) fn.results.toList K e s m → Q e s m) → go P cfg fn.ntmps Q [.code c] (Sl.putAll .nil 0 (if cfg.keepArgs f then (args, m) else fzvs m args).1) (if cfg.keepArgs f then (args, m) else fzvs m args).2) (hg : cfg.gc f = 0 := by rfl) : wph P cfg (.func f) args m K :=
  wph_goK hf hb hk hn hl fun Q hQ => h Q fun e s m' hl => hQ e s m' (leave_conv hl fun v m k => by rw [hg]; exact gcK_0 k)
end
end Go.V
