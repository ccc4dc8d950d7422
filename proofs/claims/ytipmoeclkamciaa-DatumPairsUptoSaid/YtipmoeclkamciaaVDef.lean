/- The abstract interpreter V of the intermediate code: values whose slices are lists, a memory of numbered objects, one order, one growth. Definitions alone. -/
import Derived.WalkKit
set_option linter.unusedSimpArgs false
set_option linter.unusedVariables false
set_option linter.unusedSectionVars false
namespace Go.V

/-- Abstract values. 'sc': a plain one; 'ptr': a cell of an object; 'cptr': a cell of what never changes; 'sl': a slice of an object, its elements of k cells; 'emp': an empty slice: 0: nil, 1: without room, 2: not nil; 'lst': a slice that never changes. -/
inductive AV where
  | sc (v : Value)
  | ptr (id off : Nat)
  | cptr (x : AV) (off : Nat)
  | sl (id off len k : Nat) (ag : Bool) (cap : Option Nat)
  | emp (kind : Nat)
  | lst (xs : List AV)
  | fn (f : Fn) (first captured : List AV)
  | mp (id : Nat)
  | iface (t : TypeId) (v : AV)
  | agg (cs : List AV)
  | tup (vs : List AV)
  deriving Inhabited

def AV.cells : AV → List AV
  | .agg cs => cs
  | .sc (.agg cs) => cs.toList.map .sc
  | v => [v]

/-- No row of values, so that it may stand in a cell, or its cells may. -/
def AV.okc : AV → Bool
  | .tup _ | .sc (.tuple _) | .sc (.agg _) => false
  | _ => true

def undefV : AV := .sc undef

/-- A binary tree of numbered things. -/
inductive Tr (α : Type) where
  | nil
  | nd (l : Tr α) (v : Option α) (r : Tr α)
  deriving Inhabited

def Tr.get {α : Type} : Tr α → Nat → Option α
  | .nil, _ => none
  | .nd l v r, n => if n = 0 then v else if n % 2 = 1 then l.get (n / 2) else r.get (n / 2 - 1)

def Tr.putF {α : Type} : Nat → Tr α → Nat → Option α → Tr α
  | 0, t, _, _ => t
  | f + 1, t, n, x =>
    match t with
    | .nil => if n = 0 then .nd .nil x .nil else if n % 2 = 1 then .nd (Tr.putF f .nil (n / 2) x) none .nil else .nd .nil none (Tr.putF f .nil (n / 2 - 1) x)
    | .nd l v r => if n = 0 then .nd l x r else if n % 2 = 1 then .nd (Tr.putF f l (n / 2) x) v r else .nd l v (Tr.putF f r (n / 2 - 1) x)

def Tr.put {α : Type} (t : Tr α) (n : Nat) (x : Option α) : Tr α := Tr.putF (n + 1) t n x

inductive AObj where
  | cells (cs : List AV) (fz : Bool) (ver : Nat)
  deriving Inhabited

/-- 'clock': each write gives what it wrote a new number. -/
structure Mem where
  next : Nat
  clock : Nat
  t : Tr AObj
  deriving Inhabited

def Mem.get (m : Mem) (id : Nat) : Option AObj := m.t.get id
def Mem.set (m : Mem) (id : Nat) (cs : List AV) : Mem := { m with clock := m.clock + 1, t := m.t.put id (some (.cells cs false (m.clock + 1))) }
/-- The content is the same; a mark on it alone. -/
def Mem.mark (m : Mem) (id : Nat) (cs : List AV) (ver : Nat) : Mem := { m with t := m.t.put id (some (.cells cs true ver)) }
def Mem.new (m : Mem) (cs : List AV) (fz : Bool) : Mem := { next := m.next + 1, clock := m.clock + 1, t := m.t.put m.next (some (.cells cs fz (m.clock + 1))) }
def Mem.kill (m : Mem) (id : Nat) : Mem := { m with t := m.t.put id none }
def Mem.ver (m : Mem) (id : Nat) : Option Nat := match m.get id with | some (.cells _ _ v) => some v | _ => Option.none

/-- The empty memory. -/
def Mem.empty : Mem := ⟨0, 0, .nil⟩

/-- The frame's slots: a slot that was never written is undefined. -/
abbrev Sl := Tr AV
def Sl.at (s : Sl) (t : Nat) : AV := (Tr.get s t).getD undefV
def Sl.set (s : Sl) (t : Nat) (v : AV) : Sl := Tr.put s t (some v)
def Sl.putAll (s : Sl) (i : Nat) : List AV → Sl
  | [] => s
  | v :: vs => Sl.putAll (s.set i v) (i + 1) vs

def leaf (v : Value) : AV :=
  match v with
  | .slice a l c => if a.isNone && l == 0 && c == 0 then .emp 0 else .sc v
  | _ => .sc v
def ofConst (v : Value) : AV :=
  match v with
  | .agg cs => if cs.toList.all Value.oneCell' then .agg (cs.toList.map leaf) else .sc v
  | .func f a b => if a.size == 0 && b.size == 0 then .fn f [] [] else .sc v
  | _ => leaf v

def ev (s : Sl) : Operand → AV
  | .tmp t => s.at t
  | .const v => ofConst v
  | .global g => .sc (.pointer (some ⟨g, 0, Option.none⟩))
  | .func f => .fn (.func f) [] []

/-- A run that looks at nothing but the program. -/
def pureRun {α : Type} (P : Program) : Sem α → Option α
  | .pure a => some a
  | .program k => pureRun P (k P)
  | .mark _ k => pureRun P k
  | _ => Option.none

section
variable (P : Program)
def tsize (T : TypeId) : Option Nat := (P.info? T).map (·.size)
def tbytes (T : TypeId) : Option Nat := (P.info? T).map (·.bytes)
def tzero (T : TypeId) : Option AV := ((P.info? T).bind (·.zero)).map ofConst
def tagg (T : TypeId) : Option Bool := (P.underlying T).map fun | .struct _ | .array _ _ => true | _ => false
def tfield (T : TypeId) (f : Nat) : Option Field := match P.underlying T with | some (.struct fs) => fs[f]? | _ => Option.none
/-- The element of a slice type. -/
def telem (T : TypeId) : Option TypeId := match P.underlying T with | some (.slice e) => some e | _ => Option.none
/-- Length and element of an array type. -/
def tarr (T : TypeId) : Option (Nat × TypeId) := match P.underlying T with | some (.array n e) => some (n, e) | _ => Option.none

/-- A part of a row of cells, as a value of a type. -/
def partOf (T : TypeId) (cs : List AV) (off : Nat) : Option AV :=
  match tagg P T, tsize P T with
  | some true, some n => if off + n ≤ cs.length then some (.agg ((cs.drop off).take n)) else Option.none
  | some false, _ => cs[off]?
  | _, _ => Option.none

def chunk (k : Nat) (ag : Bool) : Nat → List AV → List AV
  | 0, _ => []
  | n + 1, cs => (if ag then .agg (cs.take k) else cs.headD undefV) :: chunk k ag n (cs.drop k)

/-- What a slice's elements are now. -/
def elemsOf (m : Mem) : AV → Option (List AV)
  | .emp _ => some []
  | .lst xs => some xs
  | .sl id off len k ag _ => match m.get id with
    | some (.cells cs _ _) => if off + len * k ≤ cs.length ∧ (ag || k == 1) = true then some (chunk k ag len (cs.drop off)) else Option.none
    | _ => Option.none
  | _ => Option.none

/-- A slice of the memory becomes a list: its object's cells are never written again. -/
def fz1 (m : Mem) : AV → AV × Mem
  | .sl id off len k ag cap => match m.get id with
    | some (.cells cs _ v) => if off + len * k ≤ cs.length ∧ (ag || k == 1) = true then (.lst (chunk k ag len (cs.drop off)), m.mark id cs v) else (.sl id off len k ag cap, m)
    | _ => (.sl id off len k ag cap, m)
  | .emp _ => (.lst [], m)
  | v => (v, m)
def fzs (m : Mem) : List AV → List AV × Mem
  | [] => ([], m)
  | v :: vs => let (v', m') := fz1 m v; let (vs', m'') := fzs m' vs; (v' :: vs', m'')
def fzv (m : Mem) : AV → AV × Mem
  | .agg cs => let (cs', m') := fzs m cs; (.agg cs', m')
  | v => fz1 m v
def fzvs (m : Mem) : List AV → List AV × Mem
  | [] => ([], m)
  | v :: vs => let (v', m') := fzv m v; let (vs', m'') := fzvs m' vs; (v' :: vs', m'')
def fzr (m : Mem) : AV → AV × Mem
  | .tup vs => let (vs', m') := fzvs m vs; (.tup vs', m')
  | v => fzv m v

def splice (cs : List AV) (off : Nat) (vs : List AV) : List AV := cs.take off ++ vs ++ cs.drop (off + vs.length)

def aload (T : TypeId) (a : AV) (m : Mem) : Option AV :=
  match a with
  | .ptr id off => match m.get id with
    | some (.cells cs _ _) => partOf P T cs off
    | _ => Option.none
  | .cptr x off => if x.okc then partOf P T x.cells off else Option.none
  | _ => Option.none

def astore (T : TypeId) (a v : AV) (m : Mem) : Option Mem :=
  match a with
  | .ptr id off => match m.get id with
    | some (.cells cs false _) => if v.okc = true ∧ tsize P T = some v.cells.length ∧ off + v.cells.length ≤ cs.length then some (m.set id (splice cs off v.cells)) else Option.none
    | _ => Option.none
  | _ => Option.none

def fillAt (place : Nat → Option (Nat × Nat)) (cells : List AV) : List (Nat × AV) → Option (List AV)
  | [] => some cells
  | (i, v) :: rest =>
    match place i with
    | some (off, size) => if v.okc = true ∧ v.cells.length = size ∧ off + size ≤ cells.length then fillAt place (splice cells off v.cells) rest else Option.none
    | Option.none => Option.none

def placesOf : List Field → Option (List (Nat × Nat))
  | [] => some []
  | f :: fs => match tsize P f.type, placesOf fs with
    | some n, some r => some ((f.offset, n) :: r)
    | _, _ => Option.none

def abuild (T : TypeId) (parts : List (Nat × AV)) : Option AV :=
  match tzero P T with
  | some z => if z.okc then match P.underlying T with
    | some (.struct fs) => match placesOf P fs.toList with
      | some pl => (fillAt (fun i => pl[i]?) z.cells parts).map .agg
      | _ => Option.none
    | some (.array _ e) => match tsize P e with
      | some n => (fillAt (fun i => some (i * n, n)) z.cells parts).map .agg
      | _ => Option.none
    | _ => Option.none
    else Option.none
  | _ => Option.none

def zeros (z : List AV) : Nat → List AV
  | 0 => []
  | n + 1 => z ++ zeros z n

def abuildSlice (T : TypeId) (len : Nat) (parts : List (Nat × AV)) (m : Mem) : Option (AV × Mem) :=
  match telem P T with
  | some e => match tsize P e, tzero P e, tagg P e with
    | some k, some z, some ag =>
      if 0 < k ∧ z.okc = true ∧ z.cells.length = k ∧ len * k ≤ 2 ^ 20 then
        let (ps, m1) := fzvs m (parts.map (·.2))
        (fillAt (fun i => some (i * k, k)) (zeros z.cells len) ((parts.map (·.1)).zip ps)).map fun cs =>
          (.sl m1.next 0 len k ag (some len), m1.new cs false)
      else Option.none
    | _, _, _ => Option.none
  | _ => Option.none

def amakeSlice (T : TypeId) (l c : AV) (m : Mem) : Option (AV × Mem) :=
  match telem P T, l, c with
  | some e, .sc (.int .i64 l), .sc (.int .i64 c) => match tsize P e, tbytes P e, tzero P e, tagg P e with
    | some k, some by_, some z, some ag =>
      if 0 < k ∧ z.okc = true ∧ z.cells.length = k ∧ 0 ≤ l ∧ l ≤ c ∧ c.toNat * by_ ≤ 2 ^ 40 ∧ c.toNat ≤ 2 ^ 40 then
        some (.sl m.next 0 l.toNat k ag (some c.toNat), m.new (zeros z.cells c.toNat) false)
      else Option.none
    | _, _, _, _ => Option.none
  | _, _, _ => Option.none

def afieldAddr (T : TypeId) (a : AV) (f : Nat) : Option AV :=
  match tfield P T f with
  | some fd => match tsize P fd.type with
    | some n => if n = 0 then Option.none else
      match a with
      | .ptr id off => some (.ptr id (off + fd.offset))
      | .cptr x off => some (.cptr x (off + fd.offset))
      | _ => Option.none
    | _ => Option.none
  | _ => Option.none

def afield (T : TypeId) (a : AV) (f : Nat) : Option AV :=
  match tfield P T f, a with
  | some fd, .agg cs => partOf P fd.type cs fd.offset
  | _, _ => Option.none

def aindexAddr (T : TypeId) (x i : AV) : Option AV :=
  match i with
  | .sc (.int _ i) =>
    if i < 0 then Option.none else
    match telem P T, x with
    | some e, .lst xs => match xs[i.toNat]?, tsize P e with
      | some v, some k => if v.cells.length = k then some (.cptr v 0) else Option.none
      | _, _ => Option.none
    | some e, .sl id off len k _ _ => if i.toNat < len ∧ tsize P e = some k then some (.ptr id (off + i.toNat * k)) else Option.none
    | Option.none, .ptr id off => match tarr P T with
      | some (n, e) => match tsize P e with
        | some k => if i.toNat < n then some (.ptr id (off + i.toNat * k)) else Option.none
        | _ => Option.none
      | _ => Option.none
    | _, _ => Option.none
  | _ => Option.none

def aindex (T : TypeId) (x i : AV) : Option AV :=
  match x, i with
  | .sc (.string s), .sc (.int k i) => (pureRun P (Instr.index T (.string s) (.int k i))).map .sc
  | .agg cs, .sc (.int _ i) =>
    if i < 0 then Option.none else
    match tarr P T with
    | some (n, e) => match tsize P e with
      | some k => if i.toNat < n then partOf P e cs (i.toNat * k) else Option.none
      | _ => Option.none
    | _ => Option.none
  | _, _ => Option.none

/-- Is an abstract value a plain one? -/
def scal : AV → Option Value
  | .sc v => some v
  | _ => Option.none
def scals : List AV → Option (List Value)
  | [] => some []
  | v :: vs => match scal v, scals vs with
    | some x, some xs => some (x :: xs)
    | _, _ => Option.none
/-- A plain value, or a row of plain cells. -/
def plain : AV → Option Value
  | .sc v => some v
  | .agg cs => (scals cs).map fun vs => .agg vs.toArray
  | _ => Option.none

/-- Held against nil of its type: is it? -/
def nilTest (T : TypeId) (x y : AV) : Option Bool :=
  match P.underlying T, y with
  | some (.pointer _), .sc (.pointer Option.none) => match x with
    | .ptr _ _ | .cptr _ _ => some false
    | _ => Option.none
  | some (.func _ _ _), .sc .nilFunc => match x with
    | .fn _ _ _ => some false
    | _ => Option.none
  | some (.interface _), .sc .nilIface => match x with
    | .iface _ _ => some false
    | _ => Option.none
  | some (.slice _), .emp 0 => match x with
    | .emp 0 => some true
    | .emp 2 | .sl _ _ _ _ _ _ | .lst (_ :: _) => some false
    | _ => Option.none
  | _, _ => Option.none

def abin (op : BinOp) (T : TypeId) (xo yo : Operand) (x y : AV) : Option AV :=
  match plain x, plain y with
  | some a, some b => (pureRun P (do eqGuard op T xo yo a b; binOp op T a b)).map .sc
  | _, _ =>
    match op with
    | .eql => (nilTest P T x y).map fun b => .sc (.bool b)
    | .neq => (nilTest P T x y).map fun b => .sc (.bool !b)
    | _ => Option.none

/-- A bound that is told, or not. -/
def obnd : Option AV → Option (Option Nat)
  | Option.none => some Option.none
  | some (.sc (.int _ i)) => if 0 ≤ i then some (some i.toNat) else Option.none
  | _ => Option.none

/-- 'x[lo:hi:max]' of a slice. -/
def aslice1 (T : TypeId) (x : AV) (lo hi mx : Option AV) : Option AV :=
  match telem P T, obnd lo, obnd hi, obnd mx with
  | some e, some l, some h, some q =>
    match tsize P e with
    | some k =>
      match x, q with
      | .emp b, Option.none => if l.getD 0 = 0 ∧ h.getD 0 = 0 ∧ b ≤ 2 then some (.emp b) else Option.none
      | .emp _, some q => if l.getD 0 = 0 ∧ h = some 0 ∧ q = 0 then some (.emp 1) else Option.none
      | .lst xs, Option.none => if l.getD 0 ≤ h.getD xs.length ∧ h.getD xs.length ≤ xs.length ∧ (xs.all fun v => k == v.cells.length) then some (.lst ((xs.take (h.getD xs.length)).drop (l.getD 0))) else Option.none
      | .lst xs, some q => if h = some (l.getD 0) ∧ l.getD 0 = q ∧ q ≤ xs.length then some (.emp 1) else Option.none
      | .sl id off len k' ag cap, Option.none => if l.getD 0 ≤ h.getD len ∧ h.getD len ≤ len ∧ k' = k then some (.sl id (off + l.getD 0 * k) (h.getD len - l.getD 0) k ag (cap.map (· - l.getD 0))) else Option.none
      | .sl id off len k' ag _, some q => match h with
        | some h => if l.getD 0 ≤ h ∧ h ≤ q ∧ q ≤ len ∧ k' = k then (if l.getD 0 = q then some (.emp 1) else some (.sl id (off + l.getD 0 * k) (h - l.getD 0) k ag (some (q - l.getD 0)))) else Option.none
        | Option.none => Option.none
      | _, _ => Option.none
    | _ => Option.none
  | _, _, _, _ => Option.none

def oscal : Option AV → Option (Option Value)
  | Option.none => some Option.none
  | some v => (scal v).map some

/-- 'x[lo:hi:max]' of a slice or a string. -/
def aslice (T : TypeId) (x : AV) (lo hi mx : Option AV) : Option AV :=
  match x with
  | .sc (.string s) => match oscal lo, oscal hi, mx with
    | some l, some h, Option.none => (pureRun P (Instr.sliceAt T (.string s) l h Option.none)).map .sc
    | _, _, _ => Option.none
  | x => aslice1 P T x lo hi mx

def alen (T : TypeId) (x : AV) : Option AV :=
  match x with
  | .sc v => (pureRun P (Builtin.len_ #[T] 0 #[v])).map .sc
  | .emp _ => if (telem P T).isSome then some (.sc (goInt 0)) else Option.none
  | .lst xs => if (telem P T).isSome then some (.sc (goInt xs.length)) else Option.none
  | .sl _ _ len _ _ _ => if (telem P T).isSome then some (.sc (goInt len)) else Option.none
  | .agg _ => (tarr P T).map fun n => .sc (goInt n.1)
  | _ => Option.none

def acap (T : TypeId) (x : AV) : Option AV :=
  match x with
  | .emp b => if b ≤ 1 ∧ (telem P T).isSome then some (.sc (goInt 0)) else Option.none
  | .sl _ _ _ _ _ (some c) => if (telem P T).isSome then some (.sc (goInt c)) else Option.none
  | _ => Option.none

/-- The elements that are appended. -/
def srcOf (m : Mem) : AV → Option (List AV)
  | .sc (.string s) => some (s.data.toList.map fun b => .sc (.int .u8 b.toNat))
  | v => elemsOf m v

def flat (xs : List AV) : List AV := xs.flatMap AV.cells

/-- Is the room told, and too little? -/
def full : Option Nat → Nat → Bool
  | some c, n => decide (c < n)
  | Option.none, _ => false

/-- 'append(s, src...)', or so many zero values. -/
def aappend (T : TypeId) (s : AV) (zs : Option Nat) (src : Option (List AV)) (m : Mem) : Option (AV × Mem) :=
  match telem P T with
  | some e => match tsize P e, tbytes P e, tzero P e, tagg P e, (match zs with | some n => (tzero P e).map (List.replicate n) | Option.none => src) with
    | some k, some by_, some z, some ag, some ys0 =>
      if 0 < k ∧ z.cells.length = k ∧ (ys0.all fun v => v.okc && v.cells.length == k) then
      match ys0 with
      | [] => (match s with | .emp _ | .lst _ | .sl _ _ _ _ _ _ => some (s, m) | _ => Option.none)
      | ys0 =>
        let (ys, m) := fzvs m ys0
        let n := ys.length
        match s with
        | .emp 0 | .emp 1 => if n * by_ ≤ 2 ^ 46 ∧ n ≤ 2 ^ 46 then some (.sl m.next 0 n k ag Option.none, m.new (flat ys) false) else Option.none
        | .sl id off len k' _ cap =>
          match m.get id with
          | some (.cells cs fz _) =>
            if k' = k ∧ (len + n) * by_ ≤ 2 ^ 46 ∧ len + n ≤ 2 ^ 46 ∧ off + len * k ≤ cs.length then
              if full cap (len + n) then
                some (.sl m.next 0 (len + n) k ag Option.none, m.new ((cs.drop off).take (len * k) ++ flat ys) false)
              else if off + (len + n) * k ≤ cs.length then
                (if fz then Option.none else some (.sl id off (len + n) k ag cap, m.set id (splice cs (off + len * k) (flat ys))))
              else if fz = true → off + len * k = cs.length then
                some (.sl m.next 0 (len + n) k ag Option.none, (m.kill id).new ((cs.drop off).take (len * k) ++ flat ys) fz)
              else Option.none
            else Option.none
          | _ => Option.none
        | _ => Option.none
      else Option.none
    | _, _, _, _, _ => Option.none
  | _ => Option.none

def acopy (T : TypeId) (d x : AV) (m : Mem) : Option (AV × Mem) :=
  match telem P T with
  | some e => match tsize P e, srcOf m x, d with
    | some k, some ys0, .sl id off len k' _ _ =>
      let fz := fzvs m (ys0.take (min ys0.length len))
      match fz.2.get id with
      | some (.cells cs false _) =>
        if 0 < k ∧ k' = k ∧ off + len * k ≤ cs.length ∧ (ys0.all fun v => v.okc && v.cells.length == k) then
          some (.sc (goInt ((min ys0.length len : Nat) : Int)), fz.2.set id (splice cs off (flat fz.1)))
        else Option.none
      | _ => Option.none
    | some k, some ys0, .emp b => if 0 < k ∧ b ≤ 2 ∧ (ys0.all fun v => v.okc && v.cells.length == k) then some (.sc (goInt 0), m) else Option.none
    | _, _, _ => Option.none
  | _ => Option.none

/-- A builtin function that only reckons. -/
def abuiltin0 (b : Builtin) (ts : Array TypeId) (T : TypeId) (args : List AV) : Option AV :=
  match b with
  | .len => match ts[0]?, args with
    | some t, [x] => alen P t x
    | _, _ => Option.none
  | .cap => match ts[0]?, args with
    | some t, [x] => acap P t x
    | _, _ => Option.none
  | .max => (scals args).bind fun vs => (pureRun P (Builtin.max_ ts T vs.toArray)).map .sc
  | .min => (scals args).bind fun vs => (pureRun P (Builtin.min_ ts T vs.toArray)).map .sc
  | _ => Option.none

def abuiltin (b : Builtin) (ts : Array TypeId) (T : TypeId) (args : List AV) (m : Mem) : Option (AV × Mem) :=
  match b with
  | .append => match args, ts[0]?, ts[1]? with
    | [s, x], some t, some u => (match P.underlying u, x with
      | some (.int _), .sc (.int .i64 n) => aappend P t s (if 0 ≤ n ∧ n ≤ 2 ^ 40 then some n.toNat else Option.none) Option.none m
      | some (.int _), _ => Option.none
      | some _, x => aappend P t s Option.none (srcOf m x) m
      | Option.none, _ => Option.none)
    | _, _, _ => Option.none
  | .copy => match args, ts[0]? with
    | [d, x], some t => acopy P t d x m
    | _, _ => Option.none
  | b => (abuiltin0 P b ts T args).map (·, m)

def isFuncPlain : Fn → Bool
  | .func _ => true
  | .yield _ => true
  | _ => false

/-- One operation that calls no Go function. -/
def aop (s : Sl) (o : Oper) (m : Mem) : Option (AV × Mem) :=
  match o.op with
  | .move x | .assign x => some (ev s x, m)
  | .pick c a b => match ev s c with
    | .sc (.bool t) => some (if t then ev s a else ev s b, m)
    | _ => Option.none
  | .alloc T => (tzero P T).bind fun z => if z.okc then some (.ptr m.next 0, m.new z.cells false) else Option.none
  | .box _ x => if (ev s x).okc then some (.ptr m.next 0, m.new (ev s x).cells false) else Option.none
  | .build T ps => (abuild P T (ps.toList.map fun p => (p.1, ev s p.2))).map (·, m)
  | .buildSlice T n ps => abuildSlice P T n (ps.toList.map fun p => (p.1, ev s p.2)) m
  | .load T a => (aload P T (ev s a) m).map (·, m)
  | .store T a x => (astore P T (ev s a) (ev s x) m).map (undefV, ·)
  | .nilCheck x => match ev s x with
    | .ptr id off => some (.ptr id off, m)
    | .cptr x off => some (.cptr x off, m)
    | .fn f a b => if isFuncPlain f then some (.fn f a b, m) else Option.none
    | _ => Option.none
  | .binOp op T x y _ => (abin P op T x y (ev s x) (ev s y)).map (·, m)
  | .unOp op _ x => (scal (ev s x)).bind fun v => (pureRun P (Op.unary op v)).map fun v => (.sc v, m)
  | .convert a b x => (scal (ev s x)).bind fun v => (pureRun P (convert a b v)).map fun v => (.sc v, m)
  | .makeFunc f a b => some (.fn f (a.toList.map (ev s)) (b.toList.map (ev s)), m)
  | .makeSlice T l c => amakeSlice P T (ev s l) (ev s c) m
  | .slice T x lo hi mx => (aslice P T (ev s x) (lo.map (ev s)) (hi.map (ev s)) (mx.map (ev s))).map (·, m)
  | .fieldAddr T x f => (afieldAddr P T (ev s x) f).map (·, m)
  | .field T x f => (afield P T (ev s x) f).map (·, m)
  | .indexAddr T x i => (aindexAddr P T (ev s x) (ev s i)).map (·, m)
  | .index T x i => (aindex P T (ev s x) (ev s i)).map (·, m)
  | .extract t i => match ev s t with
    | .tup vs => (vs[i]?).map (·, m)
    | _ => Option.none
  | .call c => match c.callee with
    | .builtin b => abuiltin P b c.argTypes o.type (c.args.toList.map (ev s)) m
    | _ => Option.none
  | _ => Option.none
end

mutual
/-- Its objects are among the first ones. -/
def AV.bel (n : Nat) : AV → Bool
  | .ptr id _ => decide (id < n)
  | .cptr x _ => AV.bel n x
  | .sl id _ _ _ _ _ => decide (id < n)
  | .lst xs => AV.bels n xs
  | .fn _ a b => AV.bels n a && AV.bels n b
  | .mp id => decide (id < n)
  | .iface _ v => AV.bel n v
  | .agg cs => AV.bels n cs
  | .tup vs => AV.bels n vs
  | _ => true
def AV.bels (n : Nat) : List AV → Bool
  | [] => true
  | x :: xs => AV.bel n x && AV.bels n xs
end

def Tr.filt {α : Type} (p : Nat → Bool) : Tr α → Tr α
  | .nil => .nil
  | .nd l v r => .nd (Tr.filt (fun i => p (2 * i + 1)) l) (if p 0 then v else none) (Tr.filt (fun i => p (2 * i + 2)) r)

/-- What came later is forgotten. -/
def Mem.cut (m : Mem) (n : Nat) : Mem := { next := n, clock := m.clock, t := m.t.filt fun i => decide (i < n) }

def sameO : Option AObj → Option AObj → Bool
  | some (.cells _ f v), some (.cells _ f' v') => f == f' && v == v'
  | none, none => true
  | _, _ => false
def keptO (n : Nat) (o : Option AObj) : Bool := match o with | some (.cells cs _ _) => AV.bels n cs | none => true

/-- What a call leaves: 0: all; 1: nothing but its result; 2: what it wrote to what was there. -/
def gcw (k : Nat) (m : Mem) (r : AV × Mem) : Option (AV × Mem) :=
  match k with
  | 0 => some r
  | 1 => if r.1.bel m.next && (List.range m.next).all fun id => sameO (m.get id) (r.2.get id) then some (r.1, m) else none
  | _ => if r.1.bel m.next && (List.range m.next).all fun id => sameO (m.get id) (r.2.get id) || keptO m.next (r.2.get id) then some (r.1, r.2.cut m.next) else none

inductive Ex where
  | normal
  | exit (id : Nat)
  | goto (l : Nat)
  | ret
  deriving Inhabited, DecidableEq

/-- Which arguments and results stay slices of the memory. -/
structure Cfg where
  keepArgs : FuncId → Bool
  keepRes : FuncId → Bool
  hook : FuncId → Option (List AV → Mem → Option (AV × Mem))
  gc : FuncId → Nat

/-- A function's runs. -/
abbrev Calls1 := Fn → List AV → Mem → Option (AV × Mem)

section
variable (P : Program) (cfg : Cfg)

def abool : AV → Option Bool
  | .sc (.bool b) => some b
  | _ => Option.none

def ayields (ops : Array Oper) (s : Sl) (j : Nat) : Option Bool :=
  match (ops[j]?).bind (·.dst) with
  | some d => abool (s.at d)
  | Option.none => Option.none

def aput (N : Nat) (s : Sl) (dst : Option Tmp) (v : AV) : Option Sl :=
  match dst with
  | Option.none => some s
  | some d => if d < N then some (s.set d v) else Option.none

/-- The call of an operation, or the operation. -/
def astep (H : Calls1) (s : Sl) (o : Oper) (m : Mem) : Option (AV × Mem) :=
  match o.op with
  | .call { callee := .value f, args, .. } => match ev s f with
    | .fn f first captured => H f (first ++ args.toList.map (ev s) ++ captured) m
    | _ => Option.none
  | _ => aop P s o m

def aops (H : Calls1) (N : Nat) (all : Array Oper) : List Oper → Sl → Mem → Option (Sl × Mem)
  | [], s, m => some (s, m)
  | o :: rest, s, m =>
    if Region.wanted o (ayields all s) then
      match astep P H s o m with
      | some (v, m') => match aput N s o.dst v with
        | some s' => aops H N all rest s' m'
        | Option.none => Option.none
      | Option.none => Option.none
    else match aput N s o.dst undefV with
      | some s' => aops H N all rest s' m
      | Option.none => Option.none

def aloop (b : Sl → Mem → Option (Ex × Sl × Mem)) : Nat → Sl → Mem → Option (Ex × Sl × Mem)
  | 0, _, _ => Option.none
  | n + 1, s, m => match b s m with
    | some (.normal, s', m') => aloop b n s' m'
    | r => r

/-- What an operation may do: 0 nothing but reckon; 1 it looks at the memory; 2 it makes memory, or calls; 3 it writes one object. -/
def rank (o : Oper) : Nat :=
  match o.op with
  | .load _ _ => 1
  | .store _ _ _ => 3
  | .call { callee := .builtin .len, .. } | .call { callee := .builtin .cap, .. } | .call { callee := .builtin .max, .. } | .call { callee := .builtin .min, .. } => 0
  | .move _ | .assign _ | .pick _ _ _ | .build _ _ | .nilCheck _ | .binOp _ _ _ _ _ | .unOp _ _ _ | .convert _ _ _ | .makeFunc _ _ _ | .slice _ _ _ _ _ | .fieldAddr _ _ _ | .field _ _ _ | .indexAddr _ _ _ | .index _ _ _ | .extract _ _ => 0
  | _ => 2

/-- Two operations, the one ahead of the other in the text, that may come up in either order. -/
def pairOk (ops : Array Oper) (x y : Oper) : Bool :=
  x.apart ops y && (rank x == 0 || rank y == 0 || (rank x == 1 && rank y == 1) || (rank x == 1 && 2 ≤ rank y) || (2 ≤ rank x && rank y == 1) || (rank x == 3 && rank y == 3))

/-- May a region's operations come up in whatever order its edges allow? (What its text alone tells.) -/
def drawOk (ops : Array Oper) : Bool :=
  let b := Region.before ops
  (List.range ops.size).all fun j => (match ops[j]? with | some y => y.after.all fun e => !Region.binds .any e || decide (e.on < j) | Option.none => false) && (List.range j).all fun i =>
    match ops[i]?, ops[j]? with
    | some x, some y => ((b.getD j 0).testBit i || pairOk ops x y) && (x.dst == Option.none || x.dst != y.dst)
    | _, _ => false

/-- The object that a load or a store goes to. -/
def objOf (s : Sl) (o : Oper) : Option Nat :=
  match o.op with
  | .load _ a | .store _ a _ => match ev s a with
    | .ptr id _ => some id
    | _ => Option.none
  | _ => Option.none

def verKept (ms : List (Sl × Mem)) (j : Nat) (id : Nat) : Bool :=
  match ms[j]?, ms[j + 1]? with
  | some m, some m' => (m.2.ver id).isSome && m.2.ver id == m'.2.ver id
  | _, _ => false

/-- What two operations that may come up in either order did, told by the slots and memories ahead of each operation. -/
def metOk (ops : Array Oper) (ms : List (Sl × Mem)) (i j : Nat) (x y : Oper) : Bool :=
  match ms[i]?, ms[j]? with
  | some si, some sj =>
    if !(Region.wanted x (ayields ops si.1)) || !(Region.wanted y (ayields ops sj.1)) then true
    else if rank x == 1 && decide (2 ≤ rank y) then (match objOf si.1 x with | some id => verKept ms j id | Option.none => true)
    else if decide (2 ≤ rank x) && rank y == 1 then (match objOf sj.1 y with | some id => verKept ms i id | Option.none => true)
    else if rank x == 3 && rank y == 3 then (match objOf si.1 x, objOf sj.1 y with | some a, some b => a != b | _, _ => false)
    else true
  | _, _ => false

def metAll (ops : Array Oper) (ms : List (Sl × Mem)) : Bool :=
  let b := Region.before ops
  (List.range ops.size).all fun j => (List.range j).all fun i =>
    (b.getD j 0).testBit i ||
    match ops[i]?, ops[j]? with
    | some x, some y => metOk ops ms i j x y
    | _, _ => false

/-- 'aops', with the slots and the memory ahead of each operation. -/
def aopsT (H : Calls1) (N : Nat) (all : Array Oper) : List Oper → Sl → Mem → Option (Sl × Mem × List (Sl × Mem))
  | [], s, m => some (s, m, [(s, m)])
  | o :: rest, s, m =>
    if Region.wanted o (ayields all s) then
      match astep P H s o m with
      | some (v, m') => match aput N s o.dst v with
        | some s' => (aopsT H N all rest s' m').map fun r => (r.1, r.2.1, (s, m) :: r.2.2)
        | Option.none => Option.none
      | Option.none => Option.none
    else match aput N s o.dst undefV with
      | some s' => (aopsT H N all rest s' m).map fun r => (r.1, r.2.1, (s, m) :: r.2.2)
      | Option.none => Option.none

def acode (H : Calls1) (N fuel : Nat) : Code → Sl → Mem → Option (Ex × Sl × Mem)
  | .skip, s, m | .label _, s, m => some (.normal, s, m)
  | .region _ ops draw, s, m =>
    if draw then
      if drawOk ops then
        match aopsT P H N ops ops.toList s m with
        | some (s', m', ms) => if metAll ops ms then some (.normal, s', m') else Option.none
        | Option.none => Option.none
      else Option.none
    else match aops P H N ops ops.toList s m with
      | some (s', m') => some (.normal, s', m')
      | Option.none => Option.none
  | .seq a b, s, m => match acode H N fuel a s m with
    | some (.normal, s', m') => acode H N fuel b s' m'
    | r => r
  | .cond c x y, s, m => match ev s c with
    | .sc (.bool t) => if t then acode H N fuel x s m else acode H N fuel y s m
    | _ => Option.none
  | .block id b, s, m => match acode H N fuel b s m with
    | some (.exit id', s', m') => if id' = id then some (.normal, s', m') else some (.exit id', s', m')
    | r => r
  | .loop b, s, m => aloop (acode H N fuel b) fuel s m
  | .exit id, s, m => some (.exit id, s, m)
  | .ret, s, m => some (.ret, s, m)
  | _, _, _ => Option.none

def aresult (s : Sl) (m : Mem) : List ResultVar → Option (List AV)
  | [] => some []
  | .tmp t :: rest => (aresult s m rest).map (s.at t :: ·)
  | .cell a T :: rest => match aload P T (s.at a) m, aresult s m rest with
    | some v, some vs => some (v :: vs)
    | _, _ => Option.none

def oneOf : List AV → AV
  | [v] => v
  | vs => .tup vs

/-- A function's body, run. -/
def abody (H : Calls1) (n : Nat) (f : FuncId) (args : List AV) (m : Mem) : Option (AV × Mem) :=
  match P.funcs[f]? with
  | some fn => match fn.body with
    | some c =>
      if fn.name ≠ "runtime.NumGoroutine" ∧ args.length ≤ fn.ntmps then
        let am := if cfg.keepArgs f then (args, m) else fzvs m args
        match acode P H fn.ntmps n c (Sl.putAll .nil 0 am.1) am.2 with
        | some (.normal, s, m2) | some (.ret, s, m2) => match aresult P s m2 fn.results.toList with
          | some vs => gcw (cfg.gc f) am.2 (if cfg.keepRes f then (oneOf vs, m2) else fzr m2 (oneOf vs))
          | Option.none => Option.none
        | _ => Option.none
      else Option.none
    | Option.none => match scals args with
      | some vs => match pureRun P (callFunc f vs.toArray) with
        | some (.value v) => some (.sc v, m)
        | _ => Option.none
      | Option.none => Option.none
  | Option.none => Option.none

def afn : Nat → Calls1
  | 0, _, _, _ => Option.none
  | n + 1, .func f, args, m => match cfg.hook f with
    | some h => h args m
    | Option.none => abody P cfg (afn n) n f args m
  | _ + 1, _, _, _ => Option.none

/-- An object that nobody has. -/
def Mem.skip (m : Mem) : Mem := (m.new [] false).kill m.next

/-- Nothing told by hand; arguments and results kept. -/
def cf0 : Cfg := ⟨fun _ => true, fun _ => true, fun _ => Option.none, fun _ => 0⟩

/-- slices.Clone, function f: told by hand at an empty slice, as it is not known if it is nil. -/
def cloneH (f : FuncId) (args : List AV) (m : Mem) : Option (AV × Mem) :=
  match args with
  | [x] => match elemsOf m x with
    | some [] => some (.emp 1, m.skip)
    | some _ => afn P cf0 4 (.func f) [x] m
    | _ => Option.none
  | _ => Option.none
end
end Go.V
