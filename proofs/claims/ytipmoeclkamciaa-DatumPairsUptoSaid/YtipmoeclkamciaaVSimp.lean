/- The equations by which runs are reckoned. -/
import Derived.Test.YtipmoeclkamciaaVGo
import Derived.IntWalk
set_option linter.unusedSimpArgs false
set_option linter.unusedVariables false
set_option linter.unusedSectionVars false
namespace Go.V
variable {P : Program} {cfg : Cfg}

section
variable {N : Nat} {s : Sl} {m : Mem} {Q : Ex → Sl → Mem → Prop} {k : List It} {d : Option Tmp} {T : TypeId} {p : String} {af : Array Edge} {gd : Option (Nat × Bool)}
theorem put_none {v : AV} : aput N s none v = some s := Eq.trans rfl rfl
theorem put_some {t : Nat} {v : AV} (h : t < N) : aput N s (some t) v = some (s.set t v) := by simp [aput, h]
theorem ev_tmp {t : Nat} : ev s (.tmp t) = s.at t := Eq.trans rfl rfl
theorem ev_const {v : Value} : ev s (.const v) = ofConst v := Eq.trans rfl rfl
theorem ev_func {f : FuncId} : ev s (.func f) = .fn (.func f) [] [] := Eq.trans rfl rfl
theorem ofConst_int {q : IntKind} {n : Int} : ofConst (.int q n) = .sc (.int q n) := Eq.trans rfl rfl
theorem ofConst_bool {b : Bool} : ofConst (.bool b) = .sc (.bool b) := Eq.trans rfl rfl
theorem ofConst_string {b : ByteArray} : ofConst (.string b) = .sc (.string b) := Eq.trans rfl rfl
theorem ofConst_nil : ofConst (.slice none 0 0) = .emp 0 := Eq.trans rfl rfl
theorem ofConst_nilFunc : ofConst .nilFunc = .sc .nilFunc := Eq.trans rfl rfl
theorem ofConst_ptr {x : Option Addr} : ofConst (.pointer x) = .sc (.pointer x) := Eq.trans rfl rfl
theorem at_set_eq {t : Nat} {v : AV} : (s.set t v).at t = v := by rw [Sl.at_set, if_pos rfl]
theorem at_set_ne {t u : Nat} {v : AV} (h : t ≠ u) : (s.set u v).at t = s.at t := by rw [Sl.at_set, if_neg h]

theorem goS_move {x : Operand} : goS P cfg N Q ⟨d, .move x, T, p, af, gd⟩ k s m = goP P cfg N Q (aput N s d (ev s x)) k m := Eq.trans rfl rfl
theorem goS_assign {x : Operand} : goS P cfg N Q ⟨d, .assign x, T, p, af, gd⟩ k s m = goP P cfg N Q (aput N s d (ev s x)) k m := Eq.trans rfl rfl
theorem goS_binOp {op : BinOp} {t u : TypeId} {x y : Operand} : goS P cfg N Q ⟨d, .binOp op t x y u, T, p, af, gd⟩ k s m = goR P cfg N Q ((abin P op t x y (ev s x) (ev s y)).map (·, m)) d k s := Eq.trans rfl rfl
theorem goS_pick {c x y : Operand} : goS P cfg N Q ⟨d, .pick c x y, T, p, af, gd⟩ k s m = goR P cfg N Q (match ev s c with | .sc (.bool t) => some (if t then ev s x else ev s y, m) | _ => none) d k s := Eq.trans rfl rfl
theorem goS_alloc {t : TypeId} : goS P cfg N Q ⟨d, .alloc t, T, p, af, gd⟩ k s m = goR P cfg N Q ((tzero P t).bind fun z => if z.okc then some (.ptr m.next 0, m.new z.cells false) else none) d k s := Eq.trans rfl rfl
theorem goS_box {t : TypeId} {x : Operand} : goS P cfg N Q ⟨d, .box t x, T, p, af, gd⟩ k s m = goR P cfg N Q (if (ev s x).okc then some (.ptr m.next 0, m.new (ev s x).cells false) else none) d k s := Eq.trans rfl rfl
theorem goS_build {t : TypeId} {ps : List (Nat × Operand)} : goS P cfg N Q ⟨d, .build t ⟨ps⟩, T, p, af, gd⟩ k s m = goR P cfg N Q ((abuild P t (ps.map fun q => (q.1, ev s q.2))).map (·, m)) d k s := Eq.trans rfl rfl
theorem goS_buildSlice {t : TypeId} {n : Nat} {ps : List (Nat × Operand)} : goS P cfg N Q ⟨d, .buildSlice t n ⟨ps⟩, T, p, af, gd⟩ k s m = goR P cfg N Q (abuildSlice P t n (ps.map fun q => (q.1, ev s q.2)) m) d k s := Eq.trans rfl rfl
theorem goS_load {t : TypeId} {x : Operand} : goS P cfg N Q ⟨d, .load t x, T, p, af, gd⟩ k s m = goR P cfg N Q ((aload P t (ev s x) m).map (·, m)) d k s := Eq.trans rfl rfl
theorem goS_store {t : TypeId} {x y : Operand} : goS P cfg N Q ⟨d, .store t x y, T, p, af, gd⟩ k s m = goR P cfg N Q ((astore P t (ev s x) (ev s y) m).map (undefV, ·)) d k s := Eq.trans rfl rfl
theorem goS_nilCheck {x : Operand} : goS P cfg N Q ⟨d, .nilCheck x, T, p, af, gd⟩ k s m = goR P cfg N Q (match ev s x with | .ptr id off => some (.ptr id off, m) | .cptr x off => some (.cptr x off, m) | .fn f a b => if isFuncPlain f then some (.fn f a b, m) else none | _ => none) d k s := Eq.trans rfl rfl
theorem goS_unOp {op : UnOp} {t : TypeId} {x : Operand} : goS P cfg N Q ⟨d, .unOp op t x, T, p, af, gd⟩ k s m = goR P cfg N Q ((scal (ev s x)).bind fun v => (pureRun P (Op.unary op v)).map fun v => (.sc v, m)) d k s := Eq.trans rfl rfl
theorem goS_convert {t u : TypeId} {x : Operand} : goS P cfg N Q ⟨d, .convert t u x, T, p, af, gd⟩ k s m = goR P cfg N Q ((scal (ev s x)).bind fun v => (pureRun P (convert t u v)).map fun v => (.sc v, m)) d k s := Eq.trans rfl rfl
theorem goS_makeFunc {f : Fn} {a b : List Operand} : goS P cfg N Q ⟨d, .makeFunc f ⟨a⟩ ⟨b⟩, T, p, af, gd⟩ k s m = goP P cfg N Q (aput N s d (.fn f (a.map (ev s)) (b.map (ev s)))) k m := Eq.trans rfl rfl
theorem goS_makeSlice {t : TypeId} {x y : Operand} : goS P cfg N Q ⟨d, .makeSlice t x y, T, p, af, gd⟩ k s m = goR P cfg N Q (amakeSlice P t (ev s x) (ev s y) m) d k s := Eq.trans rfl rfl
theorem goS_slice {t : TypeId} {x : Operand} {lo hi mx : Option Operand} : goS P cfg N Q ⟨d, .slice t x lo hi mx, T, p, af, gd⟩ k s m = goR P cfg N Q ((aslice P t (ev s x) (lo.map (ev s)) (hi.map (ev s)) (mx.map (ev s))).map (·, m)) d k s := Eq.trans rfl rfl
theorem goS_fieldAddr {t : TypeId} {x : Operand} {f : Nat} : goS P cfg N Q ⟨d, .fieldAddr t x f, T, p, af, gd⟩ k s m = goR P cfg N Q ((afieldAddr P t (ev s x) f).map (·, m)) d k s := Eq.trans rfl rfl
theorem goS_field {t : TypeId} {x : Operand} {f : Nat} : goS P cfg N Q ⟨d, .field t x f, T, p, af, gd⟩ k s m = goR P cfg N Q ((afield P t (ev s x) f).map (·, m)) d k s := Eq.trans rfl rfl
theorem goS_indexAddr {t : TypeId} {x i : Operand} : goS P cfg N Q ⟨d, .indexAddr t x i, T, p, af, gd⟩ k s m = goR P cfg N Q ((aindexAddr P t (ev s x) (ev s i)).map (·, m)) d k s := Eq.trans rfl rfl
theorem goS_index {t : TypeId} {x i : Operand} : goS P cfg N Q ⟨d, .index t x i, T, p, af, gd⟩ k s m = goR P cfg N Q ((aindex P t (ev s x) (ev s i)).map (·, m)) d k s := Eq.trans rfl rfl
theorem goS_extract {x : Operand} {i : Nat} : goS P cfg N Q ⟨d, .extract x i, T, p, af, gd⟩ k s m = goR P cfg N Q (match ev s x with | .tup vs => (vs[i]?).map (·, m) | _ => none) d k s := Eq.trans rfl rfl
theorem goS_builtin {b : Builtin} {args : List Operand} {ts : Array TypeId} : goS P cfg N Q ⟨d, .call { callee := .builtin b, args := ⟨args⟩, argTypes := ts }, T, p, af, gd⟩ k s m = goR P cfg N Q (abuiltin P b ts T (args.map (ev s)) m) d k s := Eq.trans rfl rfl
theorem goS_call {f : Operand} {args : List Operand} {ts : Array TypeId} : goS P cfg N Q ⟨d, .call { callee := .value f, args := ⟨args⟩, argTypes := ts }, T, p, af, gd⟩ k s m = goF P cfg N Q (ev s f) (args.map (ev s)) d k s m := Eq.trans rfl rfl
end

section
variable {t : TypeId} {x y : Operand} {q : IntKind} {a b : Int}
theorem abin_leq : abin P .leq t x y (.sc (.int q a)) (.sc (.int q b)) = some (.sc (.bool (decide (a ≤ b)))) := by
  simp only [abin, plain, eqGuard, binOp, Op.intCmp]; simp; rfl
theorem abin_lss : abin P .lss t x y (.sc (.int q a)) (.sc (.int q b)) = some (.sc (.bool (decide (a < b)))) := by
  simp only [abin, plain, eqGuard, binOp, Op.intCmp]; simp; rfl
theorem abin_gtr : abin P .gtr t x y (.sc (.int q a)) (.sc (.int q b)) = some (.sc (.bool (decide (b < a)))) := by
  simp only [abin, plain, eqGuard, binOp, Op.intCmp]; simp; rfl
theorem abin_geq : abin P .geq t x y (.sc (.int q a)) (.sc (.int q b)) = some (.sc (.bool (decide (b ≤ a)))) := by
  simp only [abin, plain, eqGuard, binOp, Op.intCmp]; simp; rfl
theorem abin_eql : abin P .eql t x y (.sc (.int q a)) (.sc (.int q b)) = some (.sc (.bool (decide (a = b)))) := by
  simp only [abin, plain, eqGuard, binOp, Op.intCmp]; simp; rfl
theorem abin_neq : abin P .neq t x y (.sc (.int q a)) (.sc (.int q b)) = some (.sc (.bool (!decide (a = b)))) := by
  simp only [abin, plain, eqGuard, binOp, Op.intCmp]; simp; rfl
theorem abin_add : abin P .add t x y (.sc (.int q a)) (.sc (.int q b)) = some (.sc (.int q (q.wrap (a + b)))) := by
  simp only [abin, plain, eqGuard, binOp, Op.intArith]; simp; rfl
theorem abin_sub : abin P .sub t x y (.sc (.int q a)) (.sc (.int q b)) = some (.sc (.int q (q.wrap (a - b)))) := by
  simp only [abin, plain, eqGuard, binOp, Op.intArith]; simp; rfl
theorem abin_seq {a b : ByteArray} : abin P .eql t x y (.sc (.string a)) (.sc (.string b)) = some (.sc (.bool (a.toList == b.toList))) := by
  simp only [abin, plain, eqGuard, binOp, Op.stringOp]; simp; rfl
theorem abin_sneq {a b : ByteArray} : abin P .neq t x y (.sc (.string a)) (.sc (.string b)) = some (.sc (.bool !(a.toList == b.toList))) := by
  simp only [abin, plain, eqGuard, binOp, Op.stringOp]; simp; rfl
end

theorem pureRun_bind {α β : Type} : ∀ (s : Sem α) (f : α → Sem β), pureRun P (s >>= f) = (pureRun P s).bind fun a => pureRun P (f a) := by
  intro s
  induction s with
  | pure a => intro f; rfl
  | program k ih => intro f; exact ih P f
  | mark q k ih => intro f; exact ih f
  | _ => intro f; rfl
theorem pureRun_pure {α : Type} (a : α) : pureRun P (pure a : Sem α) = some a := rfl
theorem pureRun_underlying {t : TypeId} {d : TypeDesc} (h : P.underlying t = some d) : pureRun P (underlying t) = some d := by
  show pureRun P (match P.underlying t with | some d => pure d | none => stuck "no such type") = some d
  rw [h]; rfl

/-- A string of those bytes. -/
abbrev str (l : List UInt8) : ByteArray := ⟨⟨l⟩⟩
theorem str_of (s : ByteArray) : str s.data.toList = s := rfl

theorem abin_seq' {t : TypeId} {x y : Operand} {a b : List UInt8} : abin P .eql t x y (.sc (.string ⟨⟨a⟩⟩)) (.sc (.string ⟨⟨b⟩⟩)) = some (.sc (.bool (decide (a = b)))) := by
  rw [abin_seq, ByteArray.toList_eq, ByteArray.toList_eq]
  congr 3
  by_cases h : a = b <;> simp [h]
theorem abin_sneq' {t : TypeId} {x y : Operand} {a b : List UInt8} : abin P .neq t x y (.sc (.string ⟨⟨a⟩⟩)) (.sc (.string ⟨⟨b⟩⟩)) = some (.sc (.bool (!decide (a = b)))) := by
  rw [abin_sneq, ByteArray.toList_eq, ByteArray.toList_eq]
  congr 3
  by_cases h : a = b <;> simp [h]

theorem alen_str {t T : TypeId} {m : Mem} (ht : P.underlying t = some .string) {l : List UInt8} : abuiltin P .len #[t] T [.sc (.string ⟨⟨l⟩⟩)] m = some (.sc (.int .i64 l.length), m) := by
  have h : pureRun P (Builtin.len_ #[t] 0 #[.string ⟨⟨l⟩⟩]) = some (goInt l.length) := by
    unfold Builtin.len_
    simp only [List.getElem?_toArray, List.getElem?_cons_zero]
    rw [pureRun_bind, pureRun_underlying ht]
    rfl
  show ((pureRun P (Builtin.len_ #[t] 0 #[.string ⟨⟨l⟩⟩])).map AV.sc).map (·, m) = _
  rw [h]; rfl
theorem alen_lst {t T e : TypeId} {m : Mem} (ht : P.underlying t = some (.slice e)) {l : List AV} : abuiltin P .len #[t] T [.lst l] m = some (.sc (.int .i64 l.length), m) := by
  show (if (telem P t).isSome then _ else _ : Option AV).map (·, m) = _
  simp [telem, ht, goInt]
theorem alen_emp {t T e : TypeId} {m : Mem} (ht : P.underlying t = some (.slice e)) {b : Nat} : abuiltin P .len #[t] T [.emp b] m = some (.sc (.int .i64 0), m) := by
  show (if (telem P t).isSome then _ else _ : Option AV).map (·, m) = _
  simp [telem, ht, goInt]
theorem alen_sl {t T e : TypeId} {m : Mem} (ht : P.underlying t = some (.slice e)) {id off len k : Nat} {ag : Bool} {c : Option Nat} : abuiltin P .len #[t] T [.sl id off len k ag c] m = some (.sc (.int .i64 len), m) := by
  show (if (telem P t).isSome then _ else _ : Option AV).map (·, m) = _
  simp [telem, ht, goInt]

/-- A byte of a string. -/
theorem aindex_str {t : TypeId} {q : IntKind} (ht : P.underlying t = some .string) {l : List UInt8} {i : Nat} {b : UInt8} (h : l[i]? = some b) : aindex P t (.sc (.string ⟨⟨l⟩⟩)) (.sc (.int q i)) = some (.sc (.int .u8 b.toNat)) := by
  have hi : i < l.length := (List.getElem?_eq_some_iff.1 h).1
  have hs : (⟨⟨l⟩⟩ : ByteArray)[i]? = some b := by
    obtain ⟨h1, h2⟩ := List.getElem?_eq_some_iff.1 h
    rw [getElem?_pos (⟨⟨l⟩⟩ : ByteArray) i (by simpa [ByteArray.size] using hi)]
    exact congrArg some h2
  have : pureRun P (Instr.index t (.string ⟨⟨l⟩⟩) (.int q i)) = some (.int .u8 b.toNat) := by
    unfold Instr.index
    rw [pureRun_bind]
    show pureRun P _ = _
    rw [pureRun_bind, pureRun_underlying ht]
    simp only [Option.bind_some]
    rw [if_pos (by omega), Int.toNat_natCast, hs]
    rfl
  show (pureRun P (Instr.index t (.string ⟨⟨l⟩⟩) (.int q i))).map AV.sc = _
  rw [this]; rfl

/-- A call gives that, and leaves what was there, and nothing else: told of the arguments as they are when their slices are lists. -/
def Gives (P : Program) (cfg : Cfg) (f : FuncId) (args : List AV) (r : AV) : Prop := ∀ m0 args0 m, fzvs m0 args0 = (args, m) → EH P cfg (.func f) args0 m0 r m

theorem fzvs_length : ∀ (l : List AV) (m : Mem), (fzvs m l).1.length = l.length
  | [], m => rfl
  | x :: l, m => by simp only [fzvs, List.length_cons]; rw [fzvs_length l]

theorem gives_run {f : FuncId} {fn : Func} {c : Code} {args : List AV} {r : AV} (hf : P.funcs[f]? = some fn) (hb : fn.body = some c) (hk : cfg.hook f = none) (hka : cfg.keepArgs f = false) (hg : cfg.gc f = 1) (hr : ∀ n, r.bel n = true) (hn : fn.name ≠ "runtime.NumGoroutine") (hl : args.length ≤ fn.ntmps)
    (h : ∀ m, go P cfg fn.ntmps (leave P (cfg.keepRes f) fn.results.toList (fun v m' => v = r ∧ Kp m m')) [.code c] (Sl.putAll .nil 0 args) m) : Gives P cfg f args r := by
  intro m0 args0 m hz
  have hlen : args.length = args0.length := by rw [← fzvs_length args0 m0, hz]
  have : wph P cfg (.func f) args0 m0 fun v m' => v = r ∧ m' = m := by
    refine wph_func hf hb hk hn (by omega) ?_
    rw [hka, hg]
    simp only [Bool.false_eq_true, if_false, hz]
    obtain ⟨e, s', m', h1, h2, vs, h3, h4, h5⟩ := wpc_sound _ _ _ _ (h m)
    refine wpc_conv (h m) ?_
    rintro e s' m' ⟨h2, vs, h3, h4, h5⟩
    exact ⟨h2, vs, h3, gcK_1 (by rw [h4]; exact hr _) h5 ⟨h4, rfl⟩⟩
  obtain ⟨v, m', h1, rfl, rfl⟩ := this
  exact h1

theorem gives_go {f : FuncId} {fn : Func} {c : Code} {args : List AV} {r : AV} (hf : P.funcs[f]? = some fn) (hb : fn.body = some c) (hk : cfg.hook f = none) (hka : cfg.keepArgs f = false) (hn : fn.name ≠ "runtime.NumGoroutine") (hl : args.length ≤ fn.ntmps)
    (h : ∀ m Q, (∀ e s m', leave P (cfg.keepRes f) fn.results.toList (fun v m' => v = r ∧ Kp m m') e s m' → Q e s m') → go P cfg fn.ntmps Q [.code c] (Sl.putAll .nil 0 args) m) (hg : cfg.gc f = 1 := by rfl) (hr : ∀ n, r.bel n = true := by intro n; simp [AV.bel, AV.bels]) : Gives P cfg f args r :=
  gives_run hf hb hk hka hg hr hn hl fun m => h m _ fun _ _ _ x => x

/-- The call, as an equation. -/
theorem Gives.go {N : Nat} {Q : Ex → Sl → Mem → Prop} {f : FuncId} {args : List AV} {r : AV} {d : Option Tmp} {k : List It} {s : Sl} {m : Mem} (h : Gives P cfg f args r) (hz : fzvs m args = (args, m) := by first | (simp; done) | rfl) : goH P cfg N Q (.func f) args d k s m = goP P cfg N Q (aput N s d r) k m := by
  have h1 := h m args m hz
  apply propext
  constructor
  · rintro ⟨v, m1, h2, h3⟩
    obtain ⟨rfl, rfl⟩ := EH.unique h1 h2
    exact h3
  · exact fun h3 => ⟨r, m, h1, h3⟩
theorem Gives.goF {N : Nat} {Q : Ex → Sl → Mem → Prop} {f : FuncId} {args args0 : List AV} {r : AV} {d : Option Tmp} {k : List It} {s : Sl} {m m1 : Mem} (h : Gives P cfg f args r) (hz : fzvs m args0 = (args, m1)) : goH P cfg N Q (.func f) args0 d k s m = goP P cfg N Q (aput N s d r) k m1 := by
  have h1 := h m args0 m1 hz
  apply propext
  constructor
  · rintro ⟨v, m1, h2, h3⟩
    obtain ⟨rfl, rfl⟩ := EH.unique h1 h2
    exact h3
  · exact fun h3 => ⟨r, m1, h1, h3⟩

theorem goH_gives {N : Nat} {Q : Ex → Sl → Mem → Prop} {f : FuncId} {args args0 : List AV} {r : AV} {d : Option Tmp} {k : List It} {s : Sl} {m : Mem} (h : Gives P cfg f args r) (hk : ∀ m', Kp m m' → goP P cfg N Q (aput N s d r) k m') (hz : fzvs m args0 = (args, m) := by first | (simp; done) | rfl) : goH P cfg N Q (.func f) args0 d k s m := by
  rw [h.goF hz]; exact hk m (.refl m)
theorem goH_givesF {N : Nat} {Q : Ex → Sl → Mem → Prop} {f : FuncId} {args args0 : List AV} {r : AV} {d : Option Tmp} {k : List It} {s : Sl} {m m1 : Mem} (h : Gives P cfg f args r) (hz : fzvs m args0 = (args, m1)) (hk : ∀ m', Kp m1 m' → goP P cfg N Q (aput N s d r) k m') : goH P cfg N Q (.func f) args0 d k s m := by
  rw [h.goF hz]; exact hk m1 (.refl m1)

/-- Both ways of a branch. -/
theorem goB_imp {N : Nat} {Q : Ex → Sl → Mem → Prop} {t : Bool} {x y : Code} {k : List It} {s : Sl} {m : Mem} : goB P cfg N Q (.sc (.bool t)) x y k s m = ((t = true → go P cfg N Q (.code x :: k) s m) ∧ (t = false → go P cfg N Q (.code y :: k) s m)) := by
  cases t <;> simp [goB, wpB]
theorem goW_imp {N : Nat} {Q : Ex → Sl → Mem → Prop} {t : Bool} {o : Oper} {k : List It} {s : Sl} {m : Mem} : goW P cfg N Q t o k s m = ((t = true → goS P cfg N Q o k s m) ∧ (t = false → goP P cfg N Q (aput N s o.dst undefV) k m)) := by
  cases t <;> simp [goW, wpIf, goS, goP]
theorem leave_ret {keep : Bool} {rs : List ResultVar} {K : AV → Mem → Prop} {s : Sl} {m : Mem} : leave P keep rs K .ret s m = ∃ vs, aresult P s m rs = some vs ∧ K (if keep then (oneOf vs, m) else fzr m (oneOf vs)).1 (if keep then (oneOf vs, m) else fzr m (oneOf vs)).2 := by simp [leave]
theorem leave_ret1 {t : Nat} {K : AV → Mem → Prop} {s : Sl} {m : Mem} : leave P false [.tmp t] K .ret s m = K (fzr m (s.at t)).1 (fzr m (s.at t)).2 := by simp [leave, aresult, oneOf]
theorem leave_ret2 {t u : Nat} {K : AV → Mem → Prop} {s : Sl} {m : Mem} : leave P false [.tmp t, .tmp u] K .ret s m = K (fzr m (.tup [s.at t, s.at u])).1 (fzr m (.tup [s.at t, s.at u])).2 := by simp [leave, aresult, oneOf]
theorem leave_ret3 {t u v : Nat} {K : AV → Mem → Prop} {s : Sl} {m : Mem} : leave P false [.tmp t, .tmp u, .tmp v] K .ret s m = K (fzr m (.tup [s.at t, s.at u, s.at v])).1 (fzr m (.tup [s.at t, s.at u, s.at v])).2 := by simp [leave, aresult, oneOf]
theorem fzr_sc {m : Mem} {v : Value} : fzr m (.sc v) = (.sc v, m) := Eq.trans rfl rfl
theorem fzr_tup {m : Mem} {vs : List AV} : fzr m (.tup vs) = (.tup (fzvs m vs).1, (fzvs m vs).2) := Eq.trans rfl rfl
theorem fzr_agg {m : Mem} {cs : List AV} : fzr m (.agg cs) = fzv m (.agg cs) := Eq.trans rfl rfl
theorem fzr_lst {m : Mem} {cs : List AV} : fzr m (.lst cs) = (.lst cs, m) := Eq.trans rfl rfl
theorem fzr_emp {m : Mem} {k : Nat} : fzr m (.emp k) = (.lst [], m) := Eq.trans rfl rfl
theorem fzr_sl {m : Mem} {id off len k : Nat} {ag : Bool} {c : Option Nat} : fzr m (.sl id off len k ag c) = fz1 m (.sl id off len k ag c) := Eq.trans rfl rfl

/-- One result, in a slot, of plain cells. -/
theorem leave_sc {t : Nat} {s : Sl} {m : Mem} {v : Value} {e : Ex} {keep : Bool} {K : AV → Mem → Prop} (he : e = .normal ∨ e = .ret) (h : s.at t = .sc v) (hK : K (.sc v) m) : leave P keep [.tmp t] K e s m := by
  refine ⟨he, [s.at t], rfl, ?_⟩
  cases keep <;> (simp only [oneOf, h]; exact hK)
theorem leave_tmp {t : Nat} {s : Sl} {m : Mem} {e : Ex} {keep : Bool} {K : AV → Mem → Prop} (he : e = .normal ∨ e = .ret) (hK : K (if keep then (s.at t, m) else fzr m (s.at t)).1 (if keep then (s.at t, m) else fzr m (s.at t)).2) : leave P keep [.tmp t] K e s m := ⟨he, [s.at t], rfl, hK⟩

attribute [simp ↓] go_nil go_skip go_label go_exit go_ret go_seq go_cond go_block go_region go_ops_nil go_ops go_ops_guard go_opt go_opt_guard go_opt_nil go_blk goE_nil goE_code_exit goE_code_ret goE_blk_ret goE_blk_same goE_blk_other
  goS_move goS_assign goS_binOp goS_pick goS_alloc goS_box goS_build goS_buildSlice goS_load goS_store goS_nilCheck goS_unOp goS_convert goS_makeFunc goS_makeSlice goS_slice goS_fieldAddr goS_field goS_indexAddr goS_index goS_extract goS_builtin goS_call
attribute [simp] goW_true goW_false goM_true goR_some goP_some goB_true goB_false goF_fn put_none put_some ev_tmp ev_const ev_func ofConst_int ofConst_bool ofConst_string ofConst_nil ofConst_nilFunc ofConst_ptr at_set_eq at_set_ne
  abin_leq abin_lss abin_gtr abin_geq abin_eql abin_neq abin_add abin_sub abin_seq' abin_sneq' alen_str alen_lst alen_emp alen_sl ayields abool fzvs fzs Sl.putAll

theorem goW_split {N : Nat} {Q : Ex → Sl → Mem → Prop} {t : Bool} {o : Oper} {k : List It} {s : Sl} {m : Mem} (h1 : t = true → goS P cfg N Q o k s m) (h2 : t = false → goP P cfg N Q (aput N s o.dst undefV) k m) : goW P cfg N Q t o k s m := by
  cases t
  · exact h2 rfl
  · exact h1 rfl

theorem aindex_str0 {t : TypeId} {q : IntKind} (ht : P.underlying t = some .string) {b : UInt8} {l : List UInt8} : aindex P t (.sc (.string ⟨⟨b :: l⟩⟩)) (.sc (.int q 0)) = some (.sc (.int .u8 b.toNat)) := aindex_str ht (i := 0) rfl
theorem unary_not {b : Bool} : pureRun P (Op.unary .not (.bool b)) = some (.bool !b) := Eq.trans rfl rfl
theorem scal_sc {v : Value} : scal (.sc v) = some v := Eq.trans rfl rfl
theorem i64_sub {a b : Int} (h : -9223372036854775808 ≤ a - b ∧ a - b ≤ 9223372036854775807) : IntKind.i64.wrap (a - b) = a - b := IntWalk.i64_in _ h
attribute [simp] aindex_str0 unary_not scal_sc

theorem pureRun_program : pureRun P program = some P := Eq.trans rfl rfl
theorem pureRun_mark (q : Mark) : pureRun P (mark q) = some () := Eq.trans rfl rfl
theorem pureRun_extern {f : FuncId} {fn : Func} {args : Array Value} {e : Array Value → Sem Value} (hf : P.funcs[f]? = some fn) (hn : (fn.name == "runtime.NumGoroutine") = false) (hb : fn.body = none) (h1 : Extern.findNext fn = none) (h2 : Extern.find fn = some e) :
    pureRun P (callFunc f args) = (pureRun P (e args)).map Next.value := by
  unfold callFunc
  rw [pureRun_bind, pureRun_program]
  simp only [Option.bind_some, hf, hn, hb, Bool.false_eq_true, if_false, Option.isNone_none, if_true]
  rw [pureRun_bind, pureRun_mark]
  simp only [Option.bind_some, h1, h2]
  first
  | (rw [pureRun_bind]; cases pureRun P (e args) <;> rfl)
  | (simp only [pureRun_bind]; cases pureRun P (e args) <;> rfl)

theorem fz1_sc {m m' : Mem} {x : AV} {v : Value} (h : fz1 m x = (.sc v, m')) : x = .sc v ∧ m' = m := by
  unfold fz1 at h
  split at h
  · split at h
    · split at h <;> cases h
    · cases h
  · cases h
  · cases h; exact ⟨rfl, rfl⟩
theorem fzv_sc {m m' : Mem} {x : AV} {v : Value} (h : fzv m x = (.sc v, m')) : x = .sc v ∧ m' = m := by
  unfold fzv at h
  split at h
  · cases h
  · exact fz1_sc h
theorem fzvs_scals : ∀ {l : List AV} {args : List AV} {vs : List Value} {m m' : Mem}, fzvs m l = (args, m') → scals args = some vs → l = args ∧ m' = m
  | [], args, vs, m, m', h, hs => by cases h; exact ⟨rfl, rfl⟩
  | x :: l, args, vs, m, m', h, hs => by
    simp only [fzvs, Prod.mk.injEq] at h
    obtain ⟨rfl, h2⟩ := h
    simp only [scals] at hs
    split at hs
    · rename_i a b h3 h4
      cases hf : fzv m x with
      | mk y m1 =>
        rw [hf] at h3 h4 h2
        cases y <;> simp [scal] at h3
        subst h3
        obtain ⟨rfl, rfl⟩ := fzv_sc hf
        cases hf2 : fzvs m1 l with
        | mk ys m2 =>
          rw [hf2] at h4 h2
          obtain ⟨rfl, rfl⟩ := fzvs_scals hf2 h4
          exact ⟨rfl, h2.symm⟩
    · cases hs
theorem gives_extern {f : FuncId} {fn : Func} {args : List AV} {vs : List Value} {r : Value} (hf : P.funcs[f]? = some fn) (hb : fn.body = none) (hk : cfg.hook f = none) (hs : scals args = some vs)
    (hr : pureRun P (callFunc f vs.toArray) = some (.value r)) : Gives P cfg f args (.sc r) := by
  intro m0 args0 m hz
  obtain ⟨rfl, rfl⟩ := fzvs_scals hz hs
  obtain ⟨v, m', h1, rfl, rfl⟩ := wph_extern (K := fun v m' => v = .sc r ∧ m' = m) hf hb hk hs hr ⟨rfl, rfl⟩
  exact h1

theorem aload_ptr {T : TypeId} {id off : Nat} {m : Mem} : aload P T (.ptr id off) m = (match m.get id with | some (.cells cs _ _) => partOf P T cs off | _ => none) := Eq.trans rfl rfl
theorem aload_cptr {T : TypeId} {x : AV} {off : Nat} {m : Mem} : aload P T (.cptr x off) m = (if x.okc then partOf P T x.cells off else none) := Eq.trans rfl rfl
theorem astore_ptr {T : TypeId} {id off : Nat} {v : AV} {m : Mem} : astore P T (.ptr id off) v m = (match m.get id with | some (.cells cs false _) => if v.okc = true ∧ tsize P T = some v.cells.length ∧ off + v.cells.length ≤ cs.length then some (m.set id (splice cs off v.cells)) else none | _ => none) := Eq.trans rfl rfl
theorem partOf_sc {T : TypeId} {cs : List AV} {off : Nat} (h : tagg P T = some false) : partOf P T cs off = cs[off]? := by unfold partOf; rw [h]
theorem partOf_ag {T : TypeId} {cs : List AV} {off n : Nat} (h : tagg P T = some true) (h2 : tsize P T = some n) : partOf P T cs off = if off + n ≤ cs.length then some (.agg ((cs.drop off).take n)) else none := by unfold partOf; rw [h, h2]
theorem okc_int {k : IntKind} {n : Int} : AV.okc (.sc (.int k n)) = true := Eq.trans rfl rfl
theorem okc_bool {b : Bool} : AV.okc (.sc (.bool b)) = true := Eq.trans rfl rfl
theorem okc_string {b : ByteArray} : AV.okc (.sc (.string b)) = true := Eq.trans rfl rfl
theorem okc_lst {l : List AV} : AV.okc (.lst l) = true := Eq.trans rfl rfl
theorem okc_emp {k : Nat} : AV.okc (.emp k) = true := Eq.trans rfl rfl
theorem okc_agg {l : List AV} : AV.okc (.agg l) = true := Eq.trans rfl rfl
theorem okc_ptr {a b : Nat} : AV.okc (.ptr a b) = true := Eq.trans rfl rfl
theorem okc_fn {f : Fn} {a b : List AV} : AV.okc (.fn f a b) = true := Eq.trans rfl rfl
theorem okc_sl {id off len k : Nat} {ag : Bool} {c : Option Nat} : AV.okc (.sl id off len k ag c) = true := Eq.trans rfl rfl
theorem cells_int {k : IntKind} {n : Int} : AV.cells (.sc (.int k n)) = [.sc (.int k n)] := Eq.trans rfl rfl
theorem cells_bool {b : Bool} : AV.cells (.sc (.bool b)) = [.sc (.bool b)] := Eq.trans rfl rfl
theorem cells_string {b : ByteArray} : AV.cells (.sc (.string b)) = [.sc (.string b)] := Eq.trans rfl rfl
theorem cells_lst {l : List AV} : AV.cells (.lst l) = [.lst l] := Eq.trans rfl rfl
theorem cells_emp {k : Nat} : AV.cells (.emp k) = [.emp k] := Eq.trans rfl rfl
theorem cells_agg {l : List AV} : AV.cells (.agg l) = l := Eq.trans rfl rfl
theorem cells_ptr {a b : Nat} : AV.cells (.ptr a b) = [.ptr a b] := Eq.trans rfl rfl
theorem cells_fn {f : Fn} {a b : List AV} : AV.cells (.fn f a b) = [.fn f a b] := Eq.trans rfl rfl
theorem cells_sl {id off len k : Nat} {ag : Bool} {c : Option Nat} : AV.cells (.sl id off len k ag c) = [.sl id off len k ag c] := Eq.trans rfl rfl
attribute [simp] aload_ptr aload_cptr astore_ptr partOf_sc partOf_ag okc_int okc_bool okc_string okc_lst okc_emp okc_agg okc_ptr okc_fn okc_sl cells_int cells_bool cells_string cells_lst cells_emp cells_agg cells_ptr cells_fn cells_sl splice

/-- An element of a list. -/
theorem aindexAddr_lst {T e : TypeId} {q : IntKind} (ht : P.underlying T = some (.slice e)) {k : Nat} (hk : tsize P e = some k) {l : List AV} {i : Nat} {x : AV} (h : l[i]? = some x) (hx : x.cells.length = k) : aindexAddr P T (.lst l) (.sc (.int q i)) = some (.cptr x 0) := by
  unfold aindexAddr
  dsimp only
  rw [if_neg (by omega)]
  simp [telem, ht, h, hk, hx]
theorem aindexAddr_sl {T e : TypeId} {q : IntKind} (ht : P.underlying T = some (.slice e)) {k : Nat} (hk : tsize P e = some k) {id off len : Nat} {ag : Bool} {c : Option Nat} {i : Nat} (h : i < len) : aindexAddr P T (.sl id off len k ag c) (.sc (.int q i)) = some (.ptr id (off + i * k)) := by
  unfold aindexAddr
  dsimp only
  rw [if_neg (by omega)]
  simp [telem, ht, h, hk]

theorem Kp.set {m m1 : Mem} (h : Kp m m1) {id : Nat} (hi : m.next ≤ id) (cs : List AV) : Kp m (m1.set id cs) := ⟨h.next, fun j hj => by rw [Mem.get_set, if_neg (by omega)]; exact h.get j hj⟩
theorem Kp.mark {m m1 : Mem} (h : Kp m m1) {id : Nat} (hi : m.next ≤ id) (cs : List AV) (v : Nat) : Kp m (m1.mark id cs v) := ⟨h.next, fun j hj => by rw [Mem.get_mark, if_neg (by omega)]; exact h.get j hj⟩
theorem Kp.kill {m m1 : Mem} (h : Kp m m1) {id : Nat} (hi : m.next ≤ id) : Kp m (m1.kill id) := ⟨h.next, fun j hj => by rw [Mem.get_kill, if_neg (by omega)]; exact h.get j hj⟩
theorem Kp.newr {m m1 : Mem} (h : Kp m m1) (cs : List AV) (f : Bool) : Kp m (m1.new cs f) := h.trans (.new _ _ _)

theorem aindexAddr_lst0 {T e : TypeId} {q : IntKind} (ht : P.underlying T = some (.slice e)) {k : Nat} (hk : tsize P e = some k) {l : List AV} {x : AV} (hx : x.cells.length = k) : aindexAddr P T (.lst (x :: l)) (.sc (.int q 0)) = some (.cptr x 0) := aindexAddr_lst ht hk (i := 0) rfl hx

section
variable {m : Mem}
theorem fz1e_sc {v : Value} : fz1 m (.sc v) = (.sc v, m) := Eq.trans rfl rfl
theorem fzve_sc {v : Value} : fzv m (.sc v) = (.sc v, m) := Eq.trans rfl rfl
theorem fz1e_ptr {a b : Nat} : fz1 m (.ptr a b) = (.ptr a b, m) := Eq.trans rfl rfl
theorem fzve_ptr {a b : Nat} : fzv m (.ptr a b) = (.ptr a b, m) := Eq.trans rfl rfl
theorem fz1e_cptr {x : AV} {b : Nat} : fz1 m (.cptr x b) = (.cptr x b, m) := Eq.trans rfl rfl
theorem fzve_cptr {x : AV} {b : Nat} : fzv m (.cptr x b) = (.cptr x b, m) := Eq.trans rfl rfl
theorem fz1e_emp {k : Nat} : fz1 m (.emp k) = (.lst [], m) := Eq.trans rfl rfl
theorem fzve_emp {k : Nat} : fzv m (.emp k) = (.lst [], m) := Eq.trans rfl rfl
theorem fz1e_lst {l : List AV} : fz1 m (.lst l) = (.lst l, m) := Eq.trans rfl rfl
theorem fzve_lst {l : List AV} : fzv m (.lst l) = (.lst l, m) := Eq.trans rfl rfl
theorem fz1e_fn {f : Fn} {a b : List AV} : fz1 m (.fn f a b) = (.fn f a b, m) := Eq.trans rfl rfl
theorem fzve_fn {f : Fn} {a b : List AV} : fzv m (.fn f a b) = (.fn f a b, m) := Eq.trans rfl rfl
theorem fzve_agg {cs : List AV} : fzv m (.agg cs) = (.agg (fzs m cs).1, (fzs m cs).2) := Eq.trans rfl rfl
theorem fzve_sl {id off len k : Nat} {ag : Bool} {c : Option Nat} : fzv m (.sl id off len k ag c) = fz1 m (.sl id off len k ag c) := Eq.trans rfl rfl
end
attribute [simp] fz1e_sc fzve_sc fz1e_ptr fzve_ptr fz1e_cptr fzve_cptr fz1e_emp fzve_emp fz1e_lst fzve_lst fz1e_fn fzve_fn fzve_agg fzve_sl

theorem go_draw_of {N : Nat} {Q : Ex → Sl → Mem → Prop} {id : Nat} {ops : List Oper} {k : List It} {s : Sl} {m : Mem} (h : drawOk ⟨ops⟩ = true) (h2 : go P cfg N Q (.opt ⟨ops⟩ ops [] :: k) s m) : go P cfg N Q (.code (.region id ⟨ops⟩ true) :: k) s m := by rw [go_draw h]; exact h2
theorem goM_nil {N : Nat} {Q : Ex → Sl → Mem → Prop} {all : Array Oper} {f : Nat × Nat → Bool} {k : List It} {s : Sl} {m : Mem} (h : metL all = []) (h2 : go P cfg N Q k s m) : goM P cfg N Q ((metL all).all f) k s m := by rw [h]; exact ⟨rfl, h2⟩

/-- One thing is appended to nothing. -/
theorem app_emp {T R e d : TypeId} {desc : TypeDesc} {k b : Nat} {z x : AV} {ag : Bool} {m m' : Mem} {y y' : AV} (ht : P.underlying T = some (.slice e)) (hd : P.underlying d = some desc) (hd2 : ∀ q, desc ≠ .int q) (hk : tsize P e = some k) (hb : tbytes P e = some b) (hz : tzero P e = some z) (ha : tagg P e = some ag) (hk0 : 0 < k) (hzl : z.cells.length = k)
    (hs : srcOf m x = some [y]) (ho : y.okc = true) (hl : y.cells.length = k) (hf : fzv m y = (y', m')) (hbb : b ≤ 2 ^ 40) : abuiltin P .append #[T, d] R [.emp 0, x] m = some (.sl m'.next 0 1 k ag none, m'.new y'.cells false) := by
  have key : aappend P T (.emp 0) none (some [y]) m = some (.sl m'.next 0 1 k ag none, m'.new y'.cells false) := by
    simp only [aappend, telem, ht, hk, hb, hz, ha, fzvs, hf]
    rw [if_pos ⟨hk0, hzl, by simp [ho, hl]⟩]
    simp [flat]
    omega
  unfold abuiltin
  simp only [List.getElem?_toArray, List.getElem?_cons_zero, List.getElem?_cons_succ, hd]
  cases desc with
  | int q => exact absurd rfl (hd2 q)
  | _ => simp only [hs]; exact key

/-- One thing is appended to a row that is alone in its object. -/
theorem app_sl {T R e d : TypeId} {desc : TypeDesc} {k b : Nat} {z x : AV} {ag ag' : Bool} {m m' : Mem} {y y' : AV} {id len v : Nat} {cs : List AV} (ht : P.underlying T = some (.slice e)) (hd : P.underlying d = some desc) (hd2 : ∀ q, desc ≠ .int q) (hk : tsize P e = some k) (hb : tbytes P e = some b) (hz : tzero P e = some z) (ha : tagg P e = some ag) (hk0 : 0 < k) (hzl : z.cells.length = k)
    (hs : srcOf m x = some [y]) (ho : y.okc = true) (hl : y.cells.length = k) (hf : fzv m y = (y', m')) (hg : m'.get id = some (.cells cs false v)) (hc : cs.length = len * k) (hbb : (len + 1) * b ≤ 2 ^ 46) (hll : len + 1 ≤ 2 ^ 46) :
    abuiltin P .append #[T, d] R [.sl id 0 len k ag' none, x] m = some (.sl m'.next 0 (len + 1) k ag none, (m'.kill id).new (cs ++ y'.cells) false) := by
  have key : aappend P T (.sl id 0 len k ag' none) none (some [y]) m = some (.sl m'.next 0 (len + 1) k ag none, (m'.kill id).new (cs ++ y'.cells) false) := by
    simp only [aappend, telem, ht, hk, hb, hz, ha, fzvs, hf]
    rw [if_pos ⟨hk0, hzl, by simp [ho, hl]⟩]
    simp only [List.length_cons, List.length_nil, Nat.zero_add, hg]
    rw [if_pos ⟨trivial, hbb, hll, by omega⟩]
    have h1 : ¬ (len + 1) * k ≤ cs.length := by rw [hc, Nat.add_mul]; omega
    simp [full, h1, flat, ← hc]
  unfold abuiltin
  simp only [List.getElem?_toArray, List.getElem?_cons_zero, List.getElem?_cons_succ, hd]
  cases desc with
  | int q => exact absurd rfl (hd2 q)
  | _ => simp only [hs]; exact key
theorem Kp.refl' {m : Mem} : Kp m m := .refl m
theorem Kp.set_eq {m m1 : Mem} {id : Nat} {cs : List AV} (hi : m.next ≤ id) : Kp m (m1.set id cs) = Kp m m1 := propext ⟨fun h => ⟨h.next, fun j hj => by have := h.get j hj; rwa [Mem.get_set, if_neg (by omega)] at this⟩, fun h => h.set hi cs⟩
theorem Kp.new_eq {m m1 : Mem} {cs : List AV} {f : Bool} (hi : m.next ≤ m1.next) : Kp m (m1.new cs f) = Kp m m1 := propext ⟨fun h => ⟨hi, fun j hj => by have := h.get j hj; rwa [Mem.get_new, if_neg (by omega)] at this⟩, fun h => h.newr cs f⟩
theorem Kp.mark_eq {m m1 : Mem} {id v : Nat} {cs : List AV} (hi : m.next ≤ id) : Kp m (m1.mark id cs v) = Kp m m1 := propext ⟨fun h => ⟨h.next, fun j hj => by have := h.get j hj; rwa [Mem.get_mark, if_neg (by omega)] at this⟩, fun h => h.mark hi cs v⟩
theorem Kp.kill_eq {m m1 : Mem} {id : Nat} (hi : m.next ≤ id) : Kp m (m1.kill id) = Kp m m1 := propext ⟨fun h => ⟨h.next, fun j hj => by have := h.get j hj; rwa [Mem.get_kill, if_neg (by omega)] at this⟩, fun h => h.kill hi⟩
attribute [simp] Kp.refl' Kp.set_eq Kp.new_eq Kp.mark_eq Kp.kill_eq leave_ret1 leave_ret2 leave_ret3 fzr_sc fzr_tup fzr_agg fzr_lst fzr_emp fzr_sl AV.bel AV.bels
end Go.V
