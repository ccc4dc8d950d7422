/- Part of a proof. -/
import Derived.WalkKit
import Derived.Laws.CopyRow
import Derived.RangeFuncNested
set_option maxHeartbeats 64000000
set_option linter.unusedSimpArgs false
set_option linter.unusedVariables false
set_option linter.unusedSectionVars false
namespace Go.V
inductive AV where
 | sc (v:Value)
 | ptr (id off:Nat)
 | cptr (x:AV) (off:Nat)
 | sl (id off len k:Nat) (ag:Bool) (cap:Option Nat)
 | emp (kind:Nat)
 | lst (xs:List AV)
 | fn (f:Fn) (first captured:List AV)
 | mp (id:Nat)
 | yl (id:Nat)
 | iface (t:TypeId) (v:AV)
 | agg (cs:List AV)
 | tup (vs:List AV)
 deriving Inhabited
def AV.cells:AV → List AV
 | .agg cs => cs
 | .sc (.agg cs) => cs.toList.map .sc
 | v => [v]
def AV.okc:AV → Bool
 | .tup _ | .sc (.tuple _) | .sc (.agg _) => false
 | _ => true
def undefV:AV:=.sc undef
inductive Tr (α:Type) where
 | nil
 | nd (l:Tr α) (v:Option α) (r:Tr α)
 deriving Inhabited
def Tr.get {α:Type}:Tr α → Nat → Option α
 | .nil,_ => none
 | .nd l v r,n => bif Nat.beq n 0 then v else bif Nat.beq (n % 2) 1 then l.get (n / 2) else r.get (n / 2 - 1)
def Tr.putF {α:Type}:Nat → Tr α → Nat → Option α → Tr α
 | 0,t,_,_ => t
 | f + 1,t,n,x =>
  match t with
  | .nil => bif Nat.beq n 0 then .nd .nil x .nil else bif Nat.beq (n % 2) 1 then .nd (Tr.putF f .nil (n / 2) x) none .nil else .nd .nil none (Tr.putF f .nil (n / 2 - 1) x)
  | .nd l v r => bif Nat.beq n 0 then .nd l x r else bif Nat.beq (n % 2) 1 then .nd (Tr.putF f l (n / 2) x) v r else .nd l v (Tr.putF f r (n / 2 - 1) x)
theorem Aeh {α:Type} {a b:Nat} {x y:α}:(bif Nat.beq a b then x else y) = if a = b then x else y:=by
 by_cases h:a = b
 ·subst h; simp
 ·have:Nat.beq a b = false:=by cases hb:Nat.beq a b with | false => rfl | true => exact absurd (Nat.eq_of_beq_eq_true hb) h
  rw [this,if_neg h]; rfl
theorem Tr.get_n {α:Type} (i:Nat):(Tr.nil:Tr α).get i = none:=rfl
theorem Tr.get_nd {α:Type} {l r:Tr α} {v:Option α} {n:Nat}:(Tr.nd l v r).get n = if n = 0 then v else if n % 2 = 1 then l.get (n / 2) else r.get (n / 2 - 1):=by
 rw [← Aeh,← Aeh]; rfl
theorem Tr.putF_nil {α:Type} {f n:Nat} {x:Option α}:Tr.putF (f + 1) .nil n x = if n = 0 then .nd .nil x .nil else if n % 2 = 1 then .nd (Tr.putF f .nil (n / 2) x) none .nil else .nd .nil none (Tr.putF f .nil (n / 2 - 1) x):=by
 rw [← Aeh,← Aeh]; rfl
theorem Tr.putF_nd {α:Type} {f n:Nat} {l r:Tr α} {v x:Option α}:Tr.putF (f + 1) (.nd l v r) n x = if n = 0 then .nd l x r else if n % 2 = 1 then .nd (Tr.putF f l (n / 2) x) v r else .nd l v (Tr.putF f r (n / 2 - 1) x):=by
 rw [← Aeh,← Aeh]; rfl
def Tr.put {α:Type} (t:Tr α) (n:Nat) (x:Option α):Tr α:=Tr.putF (n + 1) t n x
inductive AObj where
 | cells (cs:List AV) (fz:Bool) (ver:Nat)
 deriving Inhabited
abbrev Sl:=Tr AV
def Sl.at (s:Sl) (t:Nat):AV:=(Tr.get s t).getD undefV
def Sl.set (s:Sl) (t:Nat) (v:AV):Sl:=Tr.put s t (some v)
def Sl.putAll (s:Sl) (i:Nat):List AV → Sl
 | [] => s
 | v :: vs => Sl.putAll (s.set i v) (i + 1) vs
structure LCode where
 s:Sl
 ps:Array Tmp
 assign:Code
 body:Code
 N:Nat
 deriving Inhabited
structure ALoop where
 st:LoopState
 pend:Option Code
 c:LCode
 ver:Nat
 deriving Inhabited
structure AMap where
 es:List (Value × AV × Nat)
 ck:Nat
 ver:Nat
 deriving Inhabited
structure Mem where
 next:Nat
 clock:Nat
 t:Tr AObj
 lp:Tr ALoop
 mp:Tr AMap
 deriving Inhabited
def Mem.get (m:Mem) (id:Nat):Option AObj:=m.t.get id
def Mem.set (m:Mem) (id:Nat) (cs:List AV):Mem:={ m with clock:=m.clock + 1,t:=m.t.put id (some (.cells cs false (m.clock + 1))) }
def Mem.mark (m:Mem) (id:Nat) (cs:List AV) (ver:Nat):Mem:={ m with t:=m.t.put id (some (.cells cs true ver)) }
def Mem.new (m:Mem) (cs:List AV) (fz:Bool):Mem:={ m with next:=m.next + 1,clock:=m.clock + 1,t:=m.t.put m.next (some (.cells cs fz (m.clock + 1))) }
def Mem.kill (m:Mem) (id:Nat):Mem:={ m with t:=m.t.put id none }
def Mem.ver (m:Mem) (id:Nat):Option Nat:=match m.get id with | some (.cells _ _ v) => some v | _ => Option.none
def Mem.empty:Mem:=⟨0,0,.nil,.nil,.nil⟩
def Mem.loop (m:Mem) (id:Nat):Option ALoop:=m.lp.get id
def Mem.newLoop (m:Mem) (c:LCode):Mem:={ m with next:=m.next + 1,clock:=m.clock + 1,lp:=m.lp.put m.next (some ⟨.ready,none,c,m.clock + 1⟩) }
def Mem.setLoop (m:Mem) (id:Nat) (st:LoopState) (pend:Option Code) (c:LCode):Mem:={ m with clock:=m.clock + 1,lp:=m.lp.put id (some ⟨st,pend,c,m.clock + 1⟩) }
def Mem.killLoop (m:Mem) (id:Nat):Mem:={ m with lp:=m.lp.put id none }
def Mem.map (m:Mem) (id:Nat):Option AMap:=m.mp.get id
def Mem.newMap (m:Mem):Mem:={ m with next:=m.next + 1,clock:=m.clock + 1,mp:=m.mp.put m.next (some ⟨[],0,m.clock + 1⟩) }
def Mem.setMap (m:Mem) (id:Nat) (es:List (Value × AV × Nat)) (ck:Nat):Mem:={ m with clock:=m.clock + 1,mp:=m.mp.put id (some ⟨es,ck,m.clock + 1⟩) }
def leaf (v:Value):AV :=
 match v with
 | .slice a l c => if a.isNone && l == 0 && c == 0 then .emp 0 else .sc v
 | _ => .sc v
def ofConst (v:Value):AV :=
 match v with
 | .agg cs => if cs.toList.all Value.oneCell' then .agg (cs.toList.map leaf) else .sc v
 | .func f a b => if a.size == 0 && b.size == 0 then .fn f [] [] else .sc v
 | _ => leaf v
def ev (s:Sl):Operand → AV
 | .tmp t => s.at t
 | .const v => ofConst v
 | .global g => .sc (.pointer (some ⟨g,0,Option.none⟩))
 | .func f => .fn (.func f) [] []
def pureRun {α:Type} (P:Program):Sem α → Option α
 | .pure a => some a
 | .program k => pureRun P (k P)
 | .mark _ k => pureRun P k
 | _ => Option.none
section
variable (P:Program)
def tsize (T:TypeId):Option Nat:=(P.info? T).map (·.size)
def tbytes (T:TypeId):Option Nat:=(P.info? T).map (·.bytes)
def tzero (T:TypeId):Option AV:=((P.info? T).bind (·.zero)).map ofConst
def tagg (T:TypeId):Option Bool:=(P.underlying T).map fun | .struct _ | .array _ _ => true | _ => false
def tfield (T:TypeId) (f:Nat):Option Field:=match P.underlying T with | some (.struct fs) => fs[f]? | _ => Option.none
def telem (T:TypeId):Option TypeId:=match P.underlying T with | some (.slice e) => some e | _ => Option.none
def tarr (T:TypeId):Option (Nat × TypeId):=match P.underlying T with | some (.array n e) => some (n,e) | _ => Option.none
def partOf (T:TypeId) (cs:List AV) (off:Nat):Option AV :=
 match tagg P T,tsize P T with
 | some true,some n => if off + n ≤ cs.length then some (.agg ((cs.drop off).take n)) else Option.none
 | some false,_ => cs[off]?
 | _,_ => Option.none
def chunk (k:Nat) (ag:Bool):Nat → List AV → List AV
 | 0,_ => []
 | n + 1,cs => (if ag then .agg (cs.take k) else cs.headD undefV) :: chunk k ag n (cs.drop k)
def elemsOf (m:Mem):AV → Option (List AV)
 | .emp _ => some []
 | .lst xs => some xs
 | .sl id off len k ag _ => match m.get id with
  | some (.cells cs _ _) => if off + len * k ≤ cs.length ∧ (ag || k == 1) = true then some (chunk k ag len (cs.drop off)) else Option.none
  | _ => Option.none
 | _ => Option.none
def fz1 (m:Mem):AV → AV × Mem
 | .sl id off len k ag cap => match m.get id with
  | some (.cells cs _ v) => if off + len * k ≤ cs.length ∧ (ag || k == 1) = true then (.lst (chunk k ag len (cs.drop off)),m.mark id cs v) else (.sl id off len k ag cap,m)
  | _ => (.sl id off len k ag cap,m)
 | .emp _ => (.lst [],m)
 | v => (v,m)
def fzs (m:Mem):List AV → List AV × Mem
 | [] => ([],m)
 | v :: vs => let (v',m'):=fz1 m v; let (vs',m''):=fzs m' vs; (v' :: vs',m'')
def fzv (m:Mem):AV → AV × Mem
 | .agg cs => let (cs',m'):=fzs m cs; (.agg cs',m')
 | v => fz1 m v
def fzvs (m:Mem):List AV → List AV × Mem
 | [] => ([],m)
 | v :: vs => let (v',m'):=fzv m v; let (vs',m''):=fzvs m' vs; (v' :: vs',m'')
def fzr (m:Mem):AV → AV × Mem
 | .tup vs => let (vs',m'):=fzvs m vs; (.tup vs',m')
 | v => fzv m v
def splice (cs:List AV) (off:Nat) (vs:List AV):List AV:=cs.take off ++ vs ++ cs.drop (off + vs.length)
def aload (T:TypeId) (a:AV) (m:Mem):Option AV :=
 match a with
 | .ptr id off => match m.get id with
  | some (.cells cs _ _) => partOf P T cs off
  | _ => Option.none
 | .cptr x off => if x.okc then partOf P T x.cells off else Option.none
 | _ => Option.none
def astore (T:TypeId) (a v:AV) (m:Mem):Option Mem :=
 match a with
 | .ptr id off => match m.get id with
  | some (.cells cs false _) => if v.okc = true ∧ tsize P T = some v.cells.length ∧ off + v.cells.length ≤ cs.length then some (m.set id (splice cs off v.cells)) else Option.none
  | _ => Option.none
 | _ => Option.none
def fillAt (place:Nat → Option (Nat × Nat)) (cells:List AV):List (Nat × AV) → Option (List AV)
 | [] => some cells
 | (i,v) :: rest =>
  match place i with
  | some (off,size) => if v.okc = true ∧ v.cells.length = size ∧ off + size ≤ cells.length then fillAt place (splice cells off v.cells) rest else Option.none
  | Option.none => Option.none
def placesOf:List Field → Option (List (Nat × Nat))
 | [] => some []
 | f :: fs => match tsize P f.type,placesOf fs with
  | some n,some r => some ((f.offset,n) :: r)
  | _,_ => Option.none
def abuild (T:TypeId) (parts:List (Nat × AV)):Option AV :=
 match tzero P T with
 | some z => if z.okc then match P.underlying T with
  | some (.struct fs) => match placesOf P fs.toList with
   | some pl => (fillAt (fun i => pl[i]?) z.cells parts).map .agg
   | _ => Option.none
  | some (.array _ e) => match tsize P e with
   | some n => (fillAt (fun i => some (i * n,n)) z.cells parts).map .agg
   | _ => Option.none
  | _ => Option.none
  else Option.none
 | _ => Option.none
def zeros (z:List AV):Nat → List AV
 | 0 => []
 | n + 1 => z ++ zeros z n
def nofz (T:TypeId):Bool :=
 match telem P T with
 | some e => match P.underlying e with
  | some (.struct fs) => fs.size == 4 && (match fs[2]?,fs[3]? with
   | some a,some b => (match telem P a.type,telem P b.type with
    | some x,some y => (match P.underlying x,P.underlying y with
     | some (.struct _),some (.int .u8) => true
     | _,_ => false)
    | Option.none,some y => Nat.beq y e
    | _,_ => false)
   | _,_ => false)
  | _ => false
 | _ => false
def fzx (T:TypeId) (m:Mem) (vs:List AV):List AV × Mem:=if nofz P T then (vs,m) else fzvs m vs
def abuildSlice (T:TypeId) (len:Nat) (parts:List (Nat × AV)) (m:Mem):Option (AV × Mem) :=
 match telem P T with
 | some e => match tsize P e,tzero P e,tagg P e with
  | some k,some z,some ag =>
   if 0 < k ∧ z.okc = true ∧ z.cells.length = k ∧ len * k ≤ 2 ^ 20 then
    let (ps,m1):=fzx P T m (parts.map (·.2))
    (fillAt (fun i => some (i * k,k)) (zeros z.cells len) ((parts.map (·.1)).zip ps)).map fun cs =>
     (.sl m1.next 0 len k ag (some len),m1.new cs false)
   else Option.none
  | _,_,_ => Option.none
 | _ => Option.none
def amakeSlice (T:TypeId) (l c:AV) (m:Mem):Option (AV × Mem) :=
 match telem P T,l,c with
 | some e,.sc (.int .i64 l),.sc (.int .i64 c) => match tsize P e,tbytes P e,tzero P e,tagg P e with
  | some k,some by_,some z,some ag =>
   if 0 < k ∧ z.okc = true ∧ z.cells.length = k ∧ 0 ≤ l ∧ l ≤ c ∧ c.toNat * by_ ≤ 2 ^ 40 ∧ c.toNat ≤ 2 ^ 40 then
    some (.sl m.next 0 l.toNat k ag (some c.toNat),m.new (zeros z.cells c.toNat) false)
   else Option.none
  | _,_,_,_ => Option.none
 | _,_,_ => Option.none
def afieldAddr (T:TypeId) (a:AV) (f:Nat):Option AV :=
 match tfield P T f with
 | some fd => match tsize P fd.type with
  | some n => if n = 0 then Option.none else
   match a with
   | .ptr id off => some (.ptr id (off + fd.offset))
   | .cptr x off => some (.cptr x (off + fd.offset))
   | _ => Option.none
  | _ => Option.none
 | _ => Option.none
def afield (T:TypeId) (a:AV) (f:Nat):Option AV :=
 match tfield P T f,a with
 | some fd,.agg cs => partOf P fd.type cs fd.offset
 | _,_ => Option.none
def aindexAddr (T:TypeId) (x i:AV):Option AV :=
 match i with
 | .sc (.int _ i) =>
  if i < 0 then Option.none else
  match telem P T,x with
  | some e,.lst xs => match xs[i.toNat]?,tsize P e with
   | some v,some k => if v.cells.length = k then some (.cptr v 0) else Option.none
   | _,_ => Option.none
  | some e,.sl id off len k _ _ => if i.toNat < len ∧ tsize P e = some k then some (.ptr id (off + i.toNat * k)) else Option.none
  | Option.none,.ptr id off => match tarr P T with
   | some (n,e) => match tsize P e with
    | some k => if i.toNat < n then some (.ptr id (off + i.toNat * k)) else Option.none
    | _ => Option.none
   | _ => Option.none
  | _,_ => Option.none
 | _ => Option.none
def aindex (T:TypeId) (x i:AV):Option AV :=
 match x,i with
 | .sc (.string s),.sc (.int k i) => (pureRun P (Instr.index T (.string s) (.int k i))).map .sc
 | .agg cs,.sc (.int _ i) =>
  if i < 0 then Option.none else
  match tarr P T with
  | some (n,e) => match tsize P e with
   | some k => if i.toNat < n then partOf P e cs (i.toNat * k) else Option.none
   | _ => Option.none
  | _ => Option.none
 | _,_ => Option.none
def scal:AV → Option Value
 | .sc v => some v
 | _ => Option.none
def scals:List AV → Option (List Value)
 | [] => some []
 | v :: vs => match scal v,scals vs with
  | some x,some xs => some (x :: xs)
  | _,_ => Option.none
def plain:AV → Option Value
 | .sc v => some v
 | .agg cs => (scals cs).map fun vs => .agg vs.toArray
 | _ => Option.none
def nilTest (T:TypeId) (x y:AV):Option Bool :=
 match P.underlying T,y with
 | some (.pointer _),.sc (.pointer Option.none) => match x with
  | .ptr _ _ | .cptr _ _ => some false
  | _ => Option.none
 | some (.func _ _ _),.sc .nilFunc => match x with
  | .fn _ _ _ | .yl _ => some false
  | _ => Option.none
 | some (.interface _),.sc .nilIface => match x with
  | .iface _ _ => some false
  | _ => Option.none
 | some (.map _ _),.sc (.map Option.none) => match x with
  | .mp _ => some false
  | _ => Option.none
 | some (.slice _),.emp 0 => match x with
  | .emp 0 => some true
  | .emp 2 | .sl _ _ _ _ _ _ | .lst (_ :: _) => some false
  | _ => Option.none
 | _,_ => Option.none
def abin (op:BinOp) (T:TypeId) (xo yo:Operand) (x y:AV):Option AV :=
 match plain x,plain y with
 | some a,some b => (pureRun P (do eqGuard op T xo yo a b; binOp op T a b)).map .sc
 | _,_ =>
  match op with
  | .eql => (nilTest P T x y).map fun b => .sc (.bool b)
  | .neq => (nilTest P T x y).map fun b => .sc (.bool !b)
  | _ => Option.none
def obnd:Option AV → Option (Option Nat)
 | Option.none => some Option.none
 | some (.sc (.int _ i)) => if 0 ≤ i then some (some i.toNat) else Option.none
 | _ => Option.none
def aslice1 (T:TypeId) (x:AV) (lo hi mx:Option AV):Option AV :=
 match telem P T,obnd lo,obnd hi,obnd mx with
 | some e,some l,some h,some q =>
  match tsize P e with
  | some k =>
   match x,q with
   | .emp b,Option.none => if l.getD 0 = 0 ∧ h.getD 0 = 0 ∧ b ≤ 2 then some (.emp b) else Option.none
   | .emp _,some q => if l.getD 0 = 0 ∧ h = some 0 ∧ q = 0 then some (.emp 1) else Option.none
   | .lst xs,Option.none => if l.getD 0 ≤ h.getD xs.length ∧ h.getD xs.length ≤ xs.length ∧ (xs.all fun v => k == v.cells.length) then some (.lst ((xs.take (h.getD xs.length)).drop (l.getD 0))) else Option.none
   | .lst xs,some q => if h = some (l.getD 0) ∧ l.getD 0 = q ∧ q ≤ xs.length then some (.emp 1) else Option.none
   | .sl id off len k' ag cap,Option.none => if l.getD 0 ≤ h.getD len ∧ h.getD len ≤ len ∧ k' = k then some (.sl id (off + l.getD 0 * k) (h.getD len - l.getD 0) k ag (cap.map (· - l.getD 0))) else Option.none
   | .sl id off len k' ag _,some q => match h with
    | some h => if l.getD 0 ≤ h ∧ h ≤ q ∧ q ≤ len ∧ k' = k then (if l.getD 0 = q then some (.emp 1) else some (.sl id (off + l.getD 0 * k) (h - l.getD 0) k ag (some (q - l.getD 0)))) else Option.none
    | Option.none => Option.none
   | _,_ => Option.none
  | _ => Option.none
 | _,_,_,_ => Option.none
def oscal:Option AV → Option (Option Value)
 | Option.none => some Option.none
 | some v => (scal v).map some
def aslice (T:TypeId) (x:AV) (lo hi mx:Option AV):Option AV :=
 match x with
 | .sc (.string s) => match oscal lo,oscal hi,mx with
  | some l,some h,Option.none => (pureRun P (Instr.sliceAt T (.string s) l h Option.none)).map .sc
  | _,_,_ => Option.none
 | x => aslice1 P T x lo hi mx
def alen (T:TypeId) (x:AV):Option AV :=
 match x with
 | .sc v => (pureRun P (Builtin.len_ #[T] 0 #[v])).map .sc
 | .emp _ => if (telem P T).isSome then some (.sc (goInt 0)) else Option.none
 | .lst xs => if (telem P T).isSome then some (.sc (goInt xs.length)) else Option.none
 | .sl _ _ len _ _ _ => if (telem P T).isSome then some (.sc (goInt len)) else Option.none
 | .agg _ => (tarr P T).map fun n => .sc (goInt n.1)
 | _ => Option.none
def acap (T:TypeId) (x:AV):Option AV :=
 match x with
 | .emp b => if b ≤ 1 ∧ (telem P T).isSome then some (.sc (goInt 0)) else Option.none
 | .sl _ _ _ _ _ (some c) => if (telem P T).isSome then some (.sc (goInt c)) else Option.none
 | _ => Option.none
def srcOf (m:Mem):AV → Option (List AV)
 | .sc (.string s) => some (s.data.toList.map fun b => .sc (.int .u8 b.toNat))
 | v => elemsOf m v
def flat (xs:List AV):List AV:=xs.flatMap AV.cells
def full:Option Nat → Nat → Bool
 | some c,n => decide (c < n)
 | Option.none,_ => false
def aappend (T:TypeId) (s:AV) (zs:Option Nat) (src:Option (List AV)) (m:Mem):Option (AV × Mem) :=
 match telem P T with
 | some e => match tsize P e,tbytes P e,tzero P e,tagg P e,(match zs with | some n => (tzero P e).map (List.replicate n) | Option.none => src) with
  | some k,some by_,some z,some ag,some ys0 =>
   if 0 < k ∧ z.cells.length = k ∧ (ys0.all fun v => v.okc && v.cells.length == k) then
   match ys0 with
   | [] => (match s with | .emp _ | .lst _ | .sl _ _ _ _ _ _ => some (s,m) | _ => Option.none)
   | ys0 =>
    let (ys,m):=fzx P T m ys0
    let n:=ys.length
    match s with
    | .emp 0 | .emp 1 => if n * by_ ≤ 2 ^ 46 ∧ n ≤ 2 ^ 46 then some (.sl m.next 0 n k ag Option.none,m.new (flat ys) false) else Option.none
    | .sl id off len k' _ cap =>
     match m.get id with
     | some (.cells cs fz _) =>
      if k' = k ∧ (len + n) * by_ ≤ 2 ^ 46 ∧ len + n ≤ 2 ^ 46 ∧ off + len * k ≤ cs.length then
       if full cap (len + n) then
        some (.sl m.next 0 (len + n) k ag Option.none,m.new ((cs.drop off).take (len * k) ++ flat ys) false)
       else if off + (len + n) * k ≤ cs.length then
        (if fz then Option.none else some (.sl id off (len + n) k ag cap,m.set id (splice cs (off + len * k) (flat ys))))
       else if off = 0 ∧ (fz = true → off + len * k = cs.length) then
        some (.sl m.next 0 (len + n) k ag Option.none,(m.kill id).new ((cs.drop off).take (len * k) ++ flat ys) fz)
       else Option.none
      else Option.none
     | _ => Option.none
    | _ => Option.none
   else Option.none
  | _,_,_,_,_ => Option.none
 | _ => Option.none
def acopy (T:TypeId) (d x:AV) (m:Mem):Option (AV × Mem) :=
 match telem P T with
 | some e => match tsize P e,srcOf m x,d with
  | some k,some ys0,.sl id off len k' _ _ =>
   let fz:=fzvs m (ys0.take (min ys0.length len))
   match fz.2.get id with
   | some (.cells cs false _) =>
    if 0 < k ∧ k' = k ∧ off + len * k ≤ cs.length ∧ (ys0.all fun v => v.okc && v.cells.length == k) then
     some (.sc (goInt ((min ys0.length len:Nat):Int)),fz.2.set id (splice cs off (flat fz.1)))
    else Option.none
   | _ => Option.none
  | some k,some ys0,.emp b => if 0 < k ∧ b ≤ 2 ∧ (ys0.all fun v => v.okc && v.cells.length == k) then some (.sc (goInt 0),m) else Option.none
  | _,_,_ => Option.none
 | _ => Option.none
def tmap (T:TypeId):Option (TypeId × TypeId):=match P.underlying T with | some (.map k e) => some (k,e) | _ => Option.none
def afind (T:TypeId) (k:Value) (ks:List Value):Option (Option Nat) :=
 match P.underlying T with
 | some d => match Instr.findNow d k (ks.map fun x => ⟨x,undef,0⟩) 0 with
  | some r => some (r.map (·.1))
  | Option.none => (pureRun P (Instr.findAsking T k (ks.map fun x => ⟨x,undef,0⟩))).map fun r => r.map (·.1)
 | _ => Option.none
def akey (T:TypeId) (e:Bool) (k:AV):Option Value :=
 match plain k with
 | some v => if (pureRun P (Instr.checkKey e 10000 T v)).isSome then some v else Option.none
 | Option.none => Option.none
def amapOf (m:Mem):AV → Option (List (Value × AV × Nat))
 | .mp id => (m.map id).map AMap.es
 | .sc (.map Option.none) => some []
 | _ => Option.none
def alookup (T:TypeId) (x k:AV) (ok:Bool) (m:Mem):Option AV :=
 match tmap P T with
 | some (kt,et) => match amapOf m x with
  | some es => match akey P kt es.isEmpty k with
   | some kv => match afind P kt kv (es.map (·.1)) with
    | some (some i) => match es[i]? with
     | some (_,v,_) => some (if ok then .tup [v,.sc (.bool true)] else v)
     | Option.none => Option.none
    | some Option.none => (tzero P et).map fun z => if ok then .tup [z,.sc (.bool false)] else z
    | Option.none => Option.none
   | Option.none => Option.none
  | Option.none => Option.none
 | Option.none => Option.none
def amapUpdate (T:TypeId) (x k v:AV) (m:Mem):Option Mem :=
 match tmap P T,x with
 | some (kt,_),.mp id => match m.map id,akey P kt false k with
  | some M,some kv => match afind P kt kv (M.es.map (·.1)) with
   | some (some i) => match M.es[i]? with
    | some (k0,_,b) => if Instr.sameBits 10000 k0 kv then some (m.setMap id (M.es.set i (kv,v,b)) M.ck) else Option.none
    | Option.none => Option.none
   | some Option.none => some (m.setMap id (M.es ++ [(kv,v,M.ck)]) (M.ck + 1))
   | Option.none => Option.none
  | _,_ => Option.none
 | _,_ => Option.none
def amapEntry (T:TypeId) (x k:AV) (m:Mem):Option (AV × Mem) :=
 match tmap P T,x with
 | some (kt,et),.mp id => match m.map id,akey P kt false k with
  | some M,some kv => match afind P kt kv (M.es.map (·.1)) with
   | some (some i) => match M.es[i]? with
    | some (k0,v,b) => if Instr.sameBits 10000 k0 kv then some (.tup [v,.sc (goInt b)],m.setMap id (M.es.set i (kv,v,b)) M.ck) else Option.none
    | Option.none => Option.none
   | some Option.none => (tzero P et).map fun z => (.tup [z,.sc (goInt M.ck)],m.setMap id (M.es ++ [(kv,z,M.ck)]) (M.ck + 1))
   | Option.none => Option.none
  | _,_ => Option.none
 | _,_ => Option.none
def aentryStore (x st v:AV) (m:Mem):Option Mem :=
 match x,st with
 | .mp id,.sc (.int _ born) => match m.map id with
  | some M => match M.es.findIdx? fun e => ((e.2.2:Int) == born) with
   | some i => match M.es[i]? with
    | some (k0,_,b) => some (m.setMap id (M.es.set i (k0,v,b)) M.ck)
    | Option.none => Option.none
   | Option.none => Option.none
  | Option.none => Option.none
 | _,_ => Option.none
def adelete (T:TypeId) (x k:AV) (m:Mem):Option (AV × Mem) :=
 match tmap P T,x with
 | some (kt,_),.mp id => match m.map id with
  | some M => match akey P kt M.es.isEmpty k with
   | some kv => match afind P kt kv (M.es.map (·.1)) with
    | some (some i) => some (.tup [],m.setMap id (M.es.eraseIdx i) M.ck)
    | some Option.none => some (.tup [],m.setMap id M.es M.ck)
    | Option.none => Option.none
   | Option.none => Option.none
  | Option.none => Option.none
 | _,_ => Option.none
def amakeMap (T:TypeId) (r:Option AV) (m:Mem):Option (AV × Mem) :=
 match tmap P T,r with
 | some _,Option.none | some _,some (.sc (.int _ _)) => some (.mp m.next,m.newMap)
 | _,_ => Option.none
def abuiltin0 (b:Builtin) (ts:Array TypeId) (T:TypeId) (args:List AV):Option AV :=
 match b with
 | .len => match ts[0]?,args with
  | some t,[x] => alen P t x
  | _,_ => Option.none
 | .cap => match ts[0]?,args with
  | some t,[x] => acap P t x
  | _,_ => Option.none
 | .max => (scals args).bind fun vs => (pureRun P (Builtin.max_ ts T vs.toArray)).map .sc
 | .min => (scals args).bind fun vs => (pureRun P (Builtin.min_ ts T vs.toArray)).map .sc
 | _ => Option.none
def abuiltin (b:Builtin) (ts:Array TypeId) (T:TypeId) (args:List AV) (m:Mem):Option (AV × Mem) :=
 match b with
 | .append => match args,ts[0]?,ts[1]? with
  | [s,x],some t,some u => (match P.underlying u,x with
   | some (.int _),.sc (.int .i64 n) => aappend P t s (if 0 ≤ n ∧ n ≤ 2 ^ 40 then some n.toNat else Option.none) Option.none m
   | some (.int _),_ => Option.none
   | some _,x => aappend P t s Option.none (srcOf m x) m
   | Option.none,_ => Option.none)
  | _,_,_ => Option.none
 | .copy => match args,ts[0]? with
  | [d,x],some t => acopy P t d x m
  | _,_ => Option.none
 | .delete => match args,ts[0]? with
  | [x,k],some t => adelete P t x k m
  | _,_ => Option.none
 | b => (abuiltin0 P b ts T args).map (·,m)
def isFuncPlain:Fn → Bool
 | .func _ => true
 | .yield _ => true
 | _ => false
def byteOf:AV → Option UInt8
 | .sc (.int .u8 n) => some (UInt8.ofNat n.toNat)
 | _ => Option.none
def bytesOf:AV → Option (List UInt8)
 | .emp 0 => some []
 | .lst xs => xs.mapM byteOf
 | _ => Option.none
def aconvB (a b:TypeId) (x:AV):Option AV :=
 match P.underlying a,P.underlying b with
 | some .string,some (.slice e) => match P.underlying e,x with
  | some (.int .u8),.sc (.string s) => some (.lst (s.data.toList.map fun b => .sc (.int .u8 b.toNat)))
  | _,_ => Option.none
 | some (.slice e),some .string => match P.underlying e,bytesOf x with
  | some (.int .u8),some l => some (.sc (.string ⟨l.toArray⟩))
  | _,_ => Option.none
 | _,_ => Option.none
def aconvert (a b:TypeId) (x:AV):Option AV :=
 match (scal x).bind fun v => pureRun P (convert a b v) with
 | some v => some (.sc v)
 | Option.none => aconvB P a b x
def amakeIface (T:TypeId) (x:AV):Option AV :=
 match P.underlying T with
 | Option.none | some (.interface _) => Option.none
 | some _ => some (.iface T x)
def aassert (T:TypeId) (ok:Bool) (x:AV):Option AV :=
 match P.underlying T with
 | Option.none | some (.interface _) => Option.none
 | some _ => match x with
  | .iface t v => if t = T then some (if ok then .tup [v,.sc (.bool true)] else v) else if ok then (tzero P T).map fun z => .tup [z,.sc (.bool false)] else Option.none
  | .sc .nilIface => if ok then (tzero P T).map fun z => .tup [z,.sc (.bool false)] else Option.none
  | _ => Option.none
def aop (s:Sl) (o:Oper) (m:Mem):Option (AV × Mem) :=
 match o.op with
 | .move x | .assign x => some (ev s x,m)
 | .pick c a b => match ev s c with
  | .sc (.bool t) => some (if t then ev s a else ev s b,m)
  | _ => Option.none
 | .alloc T => (tzero P T).bind fun z => if z.okc then some (.ptr m.next 0,m.new z.cells false) else Option.none
 | .box _ x => if (ev s x).okc then some (.ptr m.next 0,m.new (ev s x).cells false) else Option.none
 | .build T ps => (abuild P T (ps.toList.map fun p => (p.1,ev s p.2))).map (·,m)
 | .buildSlice T n ps => abuildSlice P T n (ps.toList.map fun p => (p.1,ev s p.2)) m
 | .load T a => (aload P T (ev s a) m).map (·,m)
 | .store T a x => (astore P T (ev s a) (ev s x) m).map (undefV,·)
 | .nilCheck x => match ev s x with
  | .ptr id off => some (.ptr id off,m)
  | .cptr x off => some (.cptr x off,m)
  | .fn f a b => if isFuncPlain f then some (.fn f a b,m) else Option.none
  | .yl id => some (.yl id,m)
  | _ => Option.none
 | .binOp op T x y _ => (abin P op T x y (ev s x) (ev s y)).map (·,m)
 | .unOp op _ x => (scal (ev s x)).bind fun v => (pureRun P (Op.unary op v)).map fun v => (.sc v,m)
 | .convert a b x => (aconvert P a b (ev s x)).map (·,m)
 | .makeInterface T x => (amakeIface P T (ev s x)).map (·,m)
 | .typeAssert x _ T ok => (aassert P T ok (ev s x)).map (·,m)
 | .makeFunc f a b => some (.fn f (a.toList.map (ev s)) (b.toList.map (ev s)),m)
 | .makeSlice T l c => amakeSlice P T (ev s l) (ev s c) m
 | .slice T x lo hi mx => (aslice P T (ev s x) (lo.map (ev s)) (hi.map (ev s)) (mx.map (ev s))).map (·,m)
 | .fieldAddr T x f => (afieldAddr P T (ev s x) f).map (·,m)
 | .field T x f => (afield P T (ev s x) f).map (·,m)
 | .indexAddr T x i => (aindexAddr P T (ev s x) (ev s i)).map (·,m)
 | .index T x i => (aindex P T (ev s x) (ev s i)).map (·,m)
 | .lookup T x k ok => (alookup P T (ev s x) (ev s k) ok m).map (·,m)
 | .mapUpdate T x k v | .insert T x k v => (amapUpdate P T (ev s x) (ev s k) (ev s v) m).map (undefV,·)
 | .mapEntry T x k => amapEntry P T (ev s x) (ev s k) m
 | .entryStore _ x st v => (aentryStore (ev s x) (ev s st) (ev s v) m).map (undefV,·)
 | .makeMap T r => amakeMap P T (r.map (ev s)) m
 | .extract t i => match ev s t with
  | .tup vs => (vs[i]?).map (·,m)
  | _ => Option.none
 | .call c => match c.callee with
  | .builtin b => abuiltin P b c.argTypes o.type (c.args.toList.map (ev s)) m
  | _ => Option.none
 | _ => Option.none
end
mutual
def AV.bel (n:Nat):AV → Bool
 | .ptr id _ => decide (id < n)
 | .cptr x _ => AV.bel n x
 | .sl id _ _ _ _ _ => decide (id < n)
 | .lst xs => AV.bels n xs
 | .fn _ a b => AV.bels n a && AV.bels n b
 | .mp id => decide (id < n)
 | .yl id => decide (id < n)
 | .iface _ v => AV.bel n v
 | .agg cs => AV.bels n cs
 | .tup vs => AV.bels n vs
 | _ => true
def AV.bels (n:Nat):List AV → Bool
 | [] => true
 | x :: xs => AV.bel n x && AV.bels n xs
end
def Tr.filt {α:Type} (p:Nat → Bool):Tr α → Tr α
 | .nil => .nil
 | .nd l v r => .nd (Tr.filt (fun i => p (2 * i + 1)) l) (if p 0 then v else none) (Tr.filt (fun i => p (2 * i + 2)) r)
def Mem.cut (m:Mem) (n:Nat):Mem:={ next:=n,clock:=m.clock,t:=m.t.filt fun i => decide (i < n),lp:=m.lp.filt fun i => decide (i < n),mp:=m.mp.filt fun i => decide (i < n) }
def sameO:Option AObj → Option AObj → Bool
 | some (.cells _ f v),some (.cells _ f' v') => f == f' && v == v'
 | none,none => true
 | _,_ => false
def sameL:Option ALoop → Option ALoop → Bool
 | some a,some b => a.ver == b.ver
 | none,none => true
 | _,_ => false
def sameM:Option AMap → Option AMap → Bool
 | some a,some b => a.ver == b.ver
 | none,none => true
 | _,_ => false
def sameX (m m':Mem):Bool:=(List.range m.next).all fun id => sameL (m.loop id) (m'.loop id) && sameM (m.map id) (m'.map id)
def keptM (n:Nat) (o:Option AMap):Bool:=match o with | some M => AV.bels n (M.es.map (·.2.1)) | none => true
def keptX (m m':Mem):Bool:=(List.range m.next).all fun id => sameM (m.map id) (m'.map id) || keptM m.next (m'.map id)
def keptO (n:Nat) (o:Option AObj):Bool:=match o with | some (.cells cs _ _) => AV.bels n cs | none => true
def gcw (k:Nat) (m:Mem) (r:AV × Mem):Option (AV × Mem) :=
 match k with
 | 0 => some r
 | 1 => if r.1.bel m.next && ((List.range m.next).all fun id => sameO (m.get id) (r.2.get id)) && sameX m r.2 then some (r.1,m) else none
 | _ => if r.1.bel m.next && ((List.range m.next).all fun id => sameO (m.get id) (r.2.get id) || keptO m.next (r.2.get id)) && keptX m r.2 then some (r.1,r.2.cut m.next) else none
inductive Ex where
 | normal
 | exit (id:Nat)
 | goto (l:Nat)
 | ret
 deriving Inhabited,DecidableEq
structure Cfg where
 keepArgs:FuncId → Bool
 keepRes:FuncId → Bool
 hook:FuncId → Option (List AV → Mem → Option (AV × Mem))
 gc:FuncId → Nat
abbrev Calls1:=Fn → List AV → Mem → Option (AV × Mem)
section
variable (P:Program) (cfg:Cfg)
def abool:AV → Option Bool
 | .sc (.bool b) => some b
 | _ => Option.none
def ayields (ops:Array Oper) (s:Sl) (j:Nat):Option Bool :=
 match (ops[j]?).bind (·.dst) with
 | some d => abool (s.at d)
 | Option.none => Option.none
def aput (N:Nat) (s:Sl) (dst:Option Tmp) (v:AV):Option Sl :=
 match dst with
 | Option.none => some s
 | some d => if d < N then some (s.set d v) else Option.none
def astep (H:Calls1) (s:Sl) (o:Oper) (m:Mem):Option (AV × Mem) :=
 match o.op with
 | .call { callee:=.value f,args,.. } => match ev s f with
  | .fn (.func f) first captured => H (.func f) (first ++ args.toList.map (ev s) ++ captured) m
  | .yl id => H (.yield id) (args.toList.map (ev s)) m
  | _ => Option.none
 | _ => aop P s o m
def aarr (T:TypeId) (x:AV) (lo hi mx:Option AV) (m:Mem):Option (AV × Mem) :=
 match tarr P T with
 | some (n,e) => match x,tsize P e,tagg P e,obnd lo,obnd hi,mx with
  | .ptr id off,some k,some ag,some l,some h,Option.none => match m.get id with
   | some (.cells cs _ _) => if l.getD 0 ≤ h.getD n ∧ h.getD n ≤ n ∧ off + n * k ≤ cs.length then some (.sl id (off + l.getD 0 * k) (h.getD n - l.getD 0) k ag (some (n - l.getD 0)),m) else Option.none
   | _ => Option.none
  | _,_,_,_,_,_ => Option.none
 | _ => Option.none
theorem Alg {T:TypeId} {x:AV} {lo hi mx:Option AV} {m m':Mem} {r:AV} (e:aarr P T x lo hi mx m = some (r,m')):m' = m:=by
 unfold aarr at e
 repeat' split at e
 all_goals first | (cases e; rfl) | cases e
def amlen (s:Sl) (o:Oper) (m:Mem):Option (AV × Mem) :=
 match o.op with
 | .call { callee:=.builtin .len,args,argTypes } => match argTypes[0]?,args.toList.map (ev s) with
  | some t,[.mp id] => match P.underlying t,m.map id with
   | some (.map _ _),some M => some (.sc (goInt M.es.length),m)
   | _,_ => Option.none
  | _,_ => Option.none
 | .convert a b x => match elemsOf m (ev s x) with
  | some ys => (aconvB P a b (.lst ys)).map (·,m)
  | Option.none => Option.none
 | .slice T x lo hi mx => aarr P T (ev s x) (lo.map (ev s)) (hi.map (ev s)) (mx.map (ev s)) m
 | _ => Option.none
def astepU (H:Calls1) (s:Sl) (o:Oper) (m:Mem):Option (AV × Mem) :=
 match astep P H s o m with
 | some r => some r
 | Option.none => amlen P s o m
def astepT (q:Bool) (H:Calls1) (s:Sl) (o:Oper) (m:Mem):Option (AV × Mem) :=
 if q then astepU P H s o m else astep P H s o m
theorem Aik {P:Program} {H:Calls1} {s:Sl} {o:Oper} {m:Mem} {r:AV × Mem} (h:astep P H s o m = some r):astepU P H s o m = some r:=by
 unfold astepU; rw [h]
theorem Awg {P:Program} {q:Bool} {H:Calls1} {s:Sl} {o:Oper} {m:Mem} {r:AV × Mem} (h:astep P H s o m = some r):astepT P q H s o m = some r:=by
 unfold astepT
 split
 ·exact Aik h
 ·exact h
theorem Alb {P:Program} {q:Bool} {H:Calls1} {s:Sl} {o:Oper} {m:Mem} {r:AV × Mem} (h:astepT P q H s o m = some r):astepU P H s o m = some r:=by
 unfold astepT at h
 split at h
 ·exact h
 ·exact Aik h
def aops (H:Calls1) (N:Nat) (all:Array Oper):List Oper → Sl → Mem → Option (Sl × Mem)
 | [],s,m => some (s,m)
 | o :: rest,s,m =>
  if Region.wanted o (ayields all s) then
   match astepU P H s o m with
   | some (v,m') => match aput N s o.dst v with
    | some s' => aops H N all rest s' m'
    | Option.none => Option.none
   | Option.none => Option.none
  else match aput N s o.dst undefV with
   | some s' => aops H N all rest s' m
   | Option.none => Option.none
def aloop (b:Sl → Mem → Option (Ex × Sl × Mem)):Nat → Sl → Mem → Option (Ex × Sl × Mem)
 | 0,_,_ => Option.none
 | n + 1,s,m => match b s m with
  | some (.normal,s',m') => aloop b n s' m'
  | r => r
def rank (o:Oper):Nat :=
 match o.op with
 | .load _ _ => 1
 | .store _ _ _ => 3
 | .call { callee:=.builtin .len,.. } | .call { callee:=.builtin .cap,.. } | .call { callee:=.builtin .max,.. } | .call { callee:=.builtin .min,.. } => 0
 | .move _ | .assign _ | .pick _ _ _ | .build _ _ | .nilCheck _ | .binOp _ _ _ _ _ | .unOp _ _ _ | .convert _ _ _ | .makeInterface _ _ | .typeAssert _ _ _ _ | .makeFunc _ _ _ | .slice _ _ _ _ _ | .fieldAddr _ _ _ | .field _ _ _ | .indexAddr _ _ _ | .index _ _ _ | .extract _ _ => 0
 | _ => 2
def pairOk (ops:Array Oper) (x y:Oper):Bool :=
 x.apart ops y && (rank x == 0 || rank y == 0 || (rank x == 1 && rank y == 1) || (rank x == 1 && 2 ≤ rank y) || (2 ≤ rank x && rank y == 1) || (rank x == 3 && rank y == 3))
def creator (o:Oper):Bool :=
 o.guard.isNone && o.dst.isSome && match o.op with
  | .alloc _ | .box _ _ | .makeMap _ _ | .buildSlice _ _ _ => true
  | _ => false
def floatOk (b:Array Nat) (ops:Array Oper) (i j:Nat) (x y:Oper):Bool :=
 creator y && rank x == 2 && x.apart ops y && (List.range ops.size).all fun u => !((b.getD u 0).testBit j) || (b.getD u 0).testBit i
def fl (ops:Array Oper):List Nat :=
 let b:=Region.before ops
 (List.range ops.size).filter fun j => match ops[j]? with
  | some y => (match y.op with | .buildSlice _ _ _ => true | _ => false) && (List.range j).any fun i => match ops[i]? with | some x => rank x == 2 && !(b.getD j 0).testBit i | Option.none => false
  | Option.none => false
def noSl:AV → Bool
 | .sl _ _ _ _ _ _ => false
 | .agg cs => cs.all fun | .sl _ _ _ _ _ _ => false | _ => true
 | _ => true
def quiet (s:Sl) (o:Oper):Bool :=
 match o.op with
 | .buildSlice _ _ ps => ps.toList.all fun p => noSl (ev s p.2)
 | _ => true
def quietAt (ops:Array Oper) (ms:List (Sl × Mem)) (j:Nat):Bool :=
 match ops[j]?,ms[j]? with
 | some o,some s => quiet s.1 o
 | _,_ => false
def drawOk (ops:Array Oper):Bool :=
 let b:=Region.before ops
 (List.range ops.size).all fun j => (match ops[j]? with | some y => y.after.all fun e => !Region.binds .any e || decide (e.on < j) | Option.none => false) && (List.range j).all fun i =>
  match ops[i]?,ops[j]? with
  | some x,some y => ((b.getD j 0).testBit i || pairOk ops x y || floatOk b ops i j x y) && (x.dst == Option.none || x.dst != y.dst)
  | _,_ => false
def objOf (s:Sl) (o:Oper):Option Nat :=
 match o.op with
 | .load _ a | .store _ a _ => match ev s a with
  | .ptr id _ => some id
  | _ => Option.none
 | _ => Option.none
def verKept (ms:List (Sl × Mem)) (j:Nat) (id:Nat):Bool :=
 match ms[j]?,ms[j + 1]? with
 | some m,some m' => (m.2.ver id).isSome && m.2.ver id == m'.2.ver id
 | _,_ => false
def sameA:AV → AV → Bool
 | .sc (.int k a),.sc (.int k' b) => decide (k = k') && decide (a = b)
 | .sc (.bool a),.sc (.bool b) => a == b
 | .sc (.pointer none),.sc (.pointer none) => true
 | .ptr a b,.ptr c d => a == c && b == d
 | .emp a,.emp b => a == b
 | .mp a,.mp b => a == b
 | .sl a b c d e f,.sl a' b' c' d' e' f' => a == a' && b == b' && c == c' && d == d' && e == e' && f == f'
 | _,_ => false
theorem Ax5 {a b:AV} (h:sameA a b = true):a = b:=by
 unfold sameA at h
 split at h <;> simp_all
def sameCs:List AV → List AV → Bool
 | [],[] => true
 | a :: l,b :: r => sameA a b && sameCs l r
 | _,_ => false
theorem Alt:∀ {l r:List AV},sameCs l r = true → l = r
 | [],[],_ => rfl
 | a :: l,b :: r,h => by
  simp only [sameCs,Bool.and_eq_true] at h
  rw [Ax5 h.1,Alt h.2]
 | [],b :: r,h => by cases h
 | a :: l,[],h => by cases h
def offOf (s:Sl) (o:Oper):Nat :=
 match o.op with
 | .load _ a => match ev s a with
  | .ptr _ off => off
  | _ => 0
 | _ => 0
def tailKept (ms:List (Sl × Mem)) (j:Nat) (id off:Nat):Bool :=
 match ms[j]?,ms[j + 1]? with
 | some m,some m' => match m.2.get id,m'.2.get id with
  | some (.cells cs _ _),some (.cells cs' _ _) => decide (cs.length = cs'.length) && sameCs (cs.drop off) (cs'.drop off)
  | _,_ => false
 | _,_ => false
def metOk (ops:Array Oper) (ms:List (Sl × Mem)) (i j:Nat) (x y:Oper):Bool :=
 match ms[i]?,ms[j]? with
 | some si,some sj =>
  if !(Region.wanted x (ayields ops si.1)) || !(Region.wanted y (ayields ops sj.1)) then true
  else if rank x == 1 && decide (2 ≤ rank y) then (match objOf si.1 x with | some id => verKept ms j id || (rank y == 2 && tailKept ms j id (offOf si.1 x)) | Option.none => true)
  else if decide (2 ≤ rank x) && rank y == 1 then (match objOf sj.1 y with | some id => verKept ms i id || (rank x == 2 && tailKept ms i id (offOf sj.1 y)) | Option.none => true)
  else if rank x == 3 && rank y == 3 then (match objOf si.1 x,objOf sj.1 y with | some a,some b => a != b | _,_ => false)
  else true
 | _,_ => false
def metAll (ops:Array Oper) (ms:List (Sl × Mem)):Bool :=
 let b:=Region.before ops
 (List.range ops.size).all fun j => (List.range j).all fun i =>
  (b.getD j 0).testBit i ||
  match ops[i]?,ops[j]? with
  | some x,some y => metOk ops ms i j x y
  | _,_ => false
def metL0 (ops:Array Oper):List (Nat × Nat) :=
 let b:=Region.before ops
 (List.range ops.size).flatMap fun j => (List.range j).filterMap fun i =>
  if (b.getD j 0).testBit i then none else
  match ops[i]?,ops[j]? with
  | some x,some y => if (rank x == 1 && decide (2 ≤ rank y)) || (decide (2 ≤ rank x) && rank y == 1) || (rank x == 3 && rank y == 3) then some (i,j) else none
  | _,_ => some (i,j)
def metL (ops:Array Oper):List (Nat × Nat):=metL0 ops ++ (fl ops).map fun j => (j,j)
def metAt (ops:Array Oper) (ms:List (Sl × Mem)) (p:Nat × Nat):Bool :=
 if p.1 == p.2 then quietAt ops ms p.1 else
 match ops[p.1]?,ops[p.2]? with
 | some x,some y => metOk ops ms p.1 p.2 x y
 | _,_ => false
def calm (ops:Array Oper):Bool:=ops.toList.all fun o => decide (rank o ≤ 1)
def aopsT (H:Calls1) (N:Nat) (all:Array Oper):List Oper → Sl → Mem → Option (Sl × Mem × List (Sl × Mem))
 | [],s,m => some (s,m,[(s,m)])
 | o :: rest,s,m =>
  if Region.wanted o (ayields all s) then
   match astepT P (calm all) H s o m with
   | some (v,m') => match aput N s o.dst v with
    | some s' => (aopsT H N all rest s' m').map fun r => (r.1,r.2.1,(s,m) :: r.2.2)
    | Option.none => Option.none
   | Option.none => Option.none
  else match aput N s o.dst undefV with
   | some s' => (aopsT H N all rest s' m).map fun r => (r.1,r.2.1,(s,m) :: r.2.2)
   | Option.none => Option.none
def pickNext (ops:Array Oper) (done:List Nat) (cr:Bool):Option Nat :=
 (List.range ops.size).find? fun i => !done.contains i && match ops[i]? with
  | some o => creator o == cr && o.after.all (fun e => !Region.binds .any e || done.contains e.on)
  | Option.none => false
def orderOf (ops:Array Oper):Nat → List Nat → List Nat
 | 0,done => done.reverse
 | n + 1,done => match pickNext ops done false with
  | some i => orderOf ops n (i :: done)
  | Option.none => match pickNext ops done true with
   | some i => orderOf ops n (i :: done)
   | Option.none => done.reverse
def renum1 (p:List Nat) (o:Oper):Oper:={ o with after:=o.after.map fun e => { e with on:=p.idxOf e.on } }
def renum (ops:Array Oper) (p:List Nat):Array Oper:=(p.filterMap fun i => (ops[i]?).map (renum1 p)).toArray
def permOk (ops:Array Oper) (p:List Nat):Bool :=
 p.length == ops.size && (renum ops p).size == ops.size && ((List.range ops.size).all fun i => (match p[i]? with | some j => p.idxOf j == i && decide (j < ops.size) | Option.none => false) && p[p.idxOf i]? == some i && decide (p.idxOf i < ops.size)) && ops.toList.all fun o => o.guard.isNone && o.after.all fun e => decide (e.on < ops.size)
def normO (ops:Array Oper):Option (Array Oper) :=
 if drawOk ops then some ops else
  let p:=orderOf ops ops.size []
  if permOk ops p && drawOk (renum ops p) then some (renum ops p) else Option.none
theorem Aku {ops:Array Oper} (h:drawOk ops = true):normO ops = some ops:=by unfold normO; rw [if_pos h]
def pendOf:Ex → Option Code
 | .normal => none
 | .exit id => some (.exit id)
 | .goto l => some (.goto l)
 | .ret => some .ret
def exOf:Option Code → Option Ex
 | none => some .normal
 | some (.exit id) => some (.exit id)
 | some .ret => some .ret
 | some _ => none
def acode (H:Calls1) (N fuel:Nat):Code → Sl → Mem → Option (Ex × Sl × Mem)
 | .skip,s,m | .label _,s,m => some (.normal,s,m)
 | .region _ ops draw,s,m =>
  if draw then
   match normO ops with
   | some ops => match aopsT P H N ops ops.toList s m with
    | some (s',m',ms) => if (metL ops).all (metAt ops ms) then some (.normal,s',m') else Option.none
    | Option.none => Option.none
   | Option.none => Option.none
  else match aops P H N ops ops.toList s m with
   | some (s',m') => some (.normal,s',m')
   | Option.none => Option.none
 | .seq a b,s,m => match acode H N fuel a s m with
  | some (.normal,s',m') => acode H N fuel b s' m'
  | r => r
 | .cond c x y,s,m => match ev s c with
  | .sc (.bool t) => if t then acode H N fuel x s m else acode H N fuel y s m
  | _ => Option.none
 | .block id b,s,m => match acode H N fuel b s m with
  | some (.exit id',s',m') => if id' = id then some (.normal,s',m') else some (.exit id',s',m')
  | r => r
 | .loop b,s,m => aloop (acode H N fuel b) fuel s m
 | .scope b,s,m => match acode H N fuel b s m with
  | some (.goto _,_,_) => Option.none
  | r => r
 | .exit id,s,m => some (.exit id,s,m)
 | .ret,s,m => some (.ret,s,m)
 | .rangeFunc g ps assign body,s,m => match ev s g with
  | .fn (.func f) first captured =>
   if ((P.funcs[f]?).bind (·.body)).isSome then match H (.func f) (first ++ [.yl m.next] ++ captured) (m.newLoop ⟨s,ps,assign,body,N⟩) with
   | some (_,m2) => match m2.loop m.next with
    | some L => if L.st = .busy then Option.none else match exOf L.pend with
     | some e => some (e,s,m2.killLoop m.next)
     | Option.none => Option.none
    | Option.none => Option.none
   | Option.none => Option.none
   else Option.none
  | _ => Option.none
 | _,_,_ => Option.none
def isCho (ops:Array Oper):Bool :=
 ops.size == 4 && (Region.ready .any ops #[false,false,false,false] == [0]) && (Region.ready .any ops #[true,false,false,false] == [1,2]) && (Region.ready .any ops #[true,true,false,false] == [2]) &&
 (Region.ready .any ops #[true,false,true,false] == [1]) && (Region.ready .any ops #[true,true,true,false] == [3]) && (Region.ready .any ops #[true,true,true,true] == []) &&
 (drawOk ops && (metL ops).contains (1,2) && match ops.toList with
  | [_,b,c,_] => b.guard.isNone && c.guard.isNone && b.dst.isNone && match b.op,c.op with
   | .store _ (.tmp t) _,.store _ (.tmp u) _ => t == u
   | _,_ => false
  | _ => false)
def choL (H:Calls1) (N:Nat) (ops:Array Oper) (s:Sl) (m:Mem):Option (List (Ex × Sl × Mem)) :=
 match ops.toList with
 | [a,b,c,d] => match aops P H N ops [a,b,c,d] s m,aops P H N ops [a,c,b,d] s m with
  | some r,some r' => some [(.normal,r.1,r.2),(.normal,r'.1,r'.2)]
  | _,_ => Option.none
 | _ => Option.none
def thenL (f:Sl → Mem → Option (List (Ex × Sl × Mem))):List (Ex × Sl × Mem) → Option (List (Ex × Sl × Mem))
 | [] => some []
 | (e,s,m) :: l => match (match e with | .normal => f s m | e => some [(e,s,m)]),thenL f l with
  | some a,some b => some (a ++ b)
  | _,_ => Option.none
def outB (id:Nat) (r:Ex × Sl × Mem):Ex × Sl × Mem:=match r.1 with | .exit id' => if id' = id then (.normal,r.2.1,r.2.2) else r | _ => r
def acodeL (H:Calls1) (N fuel:Nat):Code → Sl → Mem → Option (List (Ex × Sl × Mem))
 | .seq a b,s,m => match acodeL H N fuel a s m with
  | some l => thenL (fun s m => acodeL H N fuel b s m) l
  | Option.none => Option.none
 | .cond c x y,s,m => match ev s c with
  | .sc (.bool t) => if t then acodeL H N fuel x s m else acodeL H N fuel y s m
  | _ => Option.none
 | .block id b,s,m => (acodeL H N fuel b s m).map (List.map (outB id))
 | .region id ops draw,s,m => match acode P H N fuel (.region id ops draw) s m with
  | some r => some [r]
  | Option.none => if (draw && isCho ops) = true then choL P H N ops s m else Option.none
 | c,s,m => (acode P H N fuel c s m).map fun r => [r]
def Mem.obj (m:Mem) (id:Nat):Option (List AV × Bool):=match m.get id with | some (.cells cs f _) => some (cs,f) | Option.none => Option.none
def Mem.keep (m:Mem) (p:Nat → Bool):Mem:={ m with t:=m.t.filt p }
noncomputable def agree (a b:Mem) (id:Nat):Bool:=@decide (a.obj id = b.obj id) (Classical.propDecidable _)
theorem Aeo {a b:Mem} {id:Nat} (h:a.obj id = b.obj id):agree a b id = true:=by unfold agree; exact @decide_eq_true _ (Classical.propDecidable _) h
theorem Air {a b:Mem} {id:Nat} (h:¬ a.obj id = b.obj id):agree a b id = false:=by unfold agree; exact @decide_eq_false _ (Classical.propDecidable _) h
open Classical in
noncomputable def joinL:List (Ex × Sl × Mem) → Option (Ex × Mem)
 | [(e1,_,m1),(e2,_,m2)] => if e1 = e2 ∧ m1.next = m2.next ∧ m1.loop = m2.loop ∧ m1.map = m2.map then some (e1,m1.keep (agree m1 m2)) else Option.none
 | _ => Option.none
noncomputable def bodyR (H:Calls1) (N fuel:Nat) (c:Code) (s:Sl) (m:Mem):Option (Ex × Mem) :=
 match acode P H N fuel c s m with
 | some (e,_,m') => some (e,m')
 | Option.none => (acodeL P H N fuel c s m).bind joinL
def aresult (s:Sl) (m:Mem):List ResultVar → Option (List AV)
 | [] => some []
 | .tmp t :: rest => (aresult s m rest).map (s.at t :: ·)
 | .cell a T :: rest => match aload P T (s.at a) m,aresult s m rest with
  | some v,some vs => some (v :: vs)
  | _,_ => Option.none
def oneOf:List AV → AV
 | [v] => v
 | vs => .tup vs
def abody (H:Calls1) (n:Nat) (f:FuncId) (args:List AV) (m:Mem):Option (AV × Mem) :=
 match P.funcs[f]? with
 | some fn => match fn.body with
  | some c =>
   if fn.name ≠ "runtime.NumGoroutine" ∧ args.length ≤ fn.ntmps then
    let am:=if cfg.keepArgs f then (args,m) else fzvs m args
    match acode P H fn.ntmps n c (Sl.putAll .nil 0 am.1) am.2 with
    | some (.normal,s,m2) | some (.ret,s,m2) => match aresult P s m2 fn.results.toList with
     | some vs => gcw (cfg.gc f) am.2 (if cfg.keepRes f then (oneOf vs,m2) else fzr m2 (oneOf vs))
     | Option.none => Option.none
    | _ => Option.none
   else Option.none
  | Option.none => match scals args with
   | some vs => match pureRun P (callFunc f vs.toArray) with
    | some (.value v) => some (.sc v,m)
    | _ => Option.none
   | Option.none => Option.none
 | Option.none => Option.none
def Sl.puts (N:Nat) (s:Sl):List Tmp → List AV → Sl
 | t :: ts,v :: vs => Sl.puts N (if t < N then s.set t v else s) ts vs
 | _,_ => s
noncomputable def around (H:Calls1) (n id:Nat) (args:List AV) (m:Mem):Option (AV × Mem) :=
 match m.loop id with
 | some L =>
  if args.length = L.c.ps.size then
   match acode P H L.c.N n L.c.assign (Sl.puts L.c.N L.c.s L.c.ps.toList args) m with
   | some (.normal,s1,m1) => match m1.loop id with
    | some L1 => if L1.st = .ready then
      match bodyR P H L.c.N n L.c.body s1 (m1.setLoop id .busy L1.pend L1.c) with
      | some (e,m2) => match m2.loop id with
       | some L2 => some (.sc (.bool (pendOf e).isNone),m2.setLoop id (if (pendOf e).isNone then .ready else .done) (pendOf e) L2.c)
       | Option.none => Option.none
      | Option.none => Option.none
     else Option.none
    | Option.none => Option.none
   | _ => Option.none
  else Option.none
 | Option.none => Option.none
noncomputable def afn:Nat → Calls1
 | 0,_,_,_ => Option.none
 | n + 1,.yield id,args,m => around P (afn n) n id args m
 | n + 1,.func f,args,m => match cfg.hook f with
  | some h => h args m
  | Option.none => abody P cfg (afn n) n f args m
 | _ + 1,_,_,_ => Option.none
def Mem.skip (m:Mem):Mem:=(m.new [] false).kill m.next
def cf0:Cfg:=⟨fun _ => true,fun _ => true,fun _ => Option.none,fun _ => 0⟩
noncomputable def cloneH (f:FuncId) (args:List AV) (m:Mem):Option (AV × Mem) :=
 match args with
 | [x] => match elemsOf m x with
  | some [] => some (.emp 1,m.skip)
  | some _ => afn P cf0 4 (.func f) [x] m
  | _ => Option.none
 | _ => Option.none
end
end Go.V
namespace Go.V
open Go.RowKit
theorem Tr.get_putF {α:Type}:∀ (f:Nat) (t:Tr α) (n:Nat) (x:Option α) (i:Nat),n < f → (Tr.putF f t n x).get i = if i = n then x else t.get i:=by
 intro f
 induction f with
 | zero => intro t n x i h; omega
 | succ f ih =>
  intro t n x i h
  cases t with
  | nil =>
   simp only [Tr.putF_nil]
   by_cases hn:n = 0
   ·subst hn
    by_cases hi:i = 0
    ·simp [hi,Tr.get_n,Tr.get_nd]
    ·simp only [if_true,Tr.get_n,Tr.get_nd,hi,if_false]; split <;> rfl
   ·simp only [hn,if_false]
    by_cases ho:n % 2 = 1
    ·simp only [ho,if_true,Tr.get_n,Tr.get_nd]
     by_cases hi:i = 0
     ·subst hi; simp; omega
     ·simp only [hi,if_false]
      by_cases hio:i % 2 = 1
      ·simp only [hio,if_true]
       rw [ih _ _ _ _ (by omega)]
       by_cases he:i = n
       ·simp [he]
       ·rw [if_neg (by omega),if_neg he]; rfl
      ·simp only [hio,if_false]
       rw [if_neg (by intro e; subst e; omega)]
    ·simp only [ho,if_false,Tr.get_n,Tr.get_nd]
     by_cases hi:i = 0
     ·subst hi; simp; omega
     ·simp only [hi,if_false]
      by_cases hio:i % 2 = 1
      ·simp only [hio,if_true]
       rw [if_neg (by intro e; subst e; omega)]
      ·simp only [hio,if_false]
       rw [ih _ _ _ _ (by omega)]
       by_cases he:i = n
       ·simp [he]
       ·rw [if_neg (by omega),if_neg he]; rfl
  | nd l v r =>
   simp only [Tr.putF_nd]
   by_cases hn:n = 0
   ·subst hn
    by_cases hi:i = 0
    ·simp [hi,Tr.get_n,Tr.get_nd]
    ·simp [hi,Tr.get_n,Tr.get_nd]
   ·simp only [hn,if_false]
    by_cases ho:n % 2 = 1
    ·simp only [ho,if_true,Tr.get_n,Tr.get_nd]
     by_cases hi:i = 0
     ·subst hi; simp; omega
     ·simp only [hi,if_false]
      by_cases hio:i % 2 = 1
      ·simp only [hio,if_true]
       rw [ih _ _ _ _ (by omega)]
       by_cases he:i = n
       ·simp [he]
       ·rw [if_neg (by omega),if_neg he]
      ·simp only [hio,if_false]
       rw [if_neg (by intro e; subst e; omega)]
    ·simp only [ho,if_false,Tr.get_n,Tr.get_nd]
     by_cases hi:i = 0
     ·subst hi; simp; omega
     ·simp only [hi,if_false]
      by_cases hio:i % 2 = 1
      ·simp only [hio,if_true]
       rw [if_neg (by intro e; subst e; omega)]
      ·simp only [hio,if_false]
       rw [ih _ _ _ _ (by omega)]
       by_cases he:i = n
       ·simp [he]
       ·rw [if_neg (by omega),if_neg he]
@[simp] theorem Tr.get_put {α:Type} (t:Tr α) (n:Nat) (x:Option α) (i:Nat):(t.put n x).get i = if i = n then x else t.get i :=
 Tr.get_putF (n + 1) t n x i (Nat.lt_succ_self n)
@[simp] theorem Tr.get_nil {α:Type} (i:Nat):(Tr.nil:Tr α).get i = none:=Eq.trans rfl rfl
@[simp] theorem Mem.get_set (m:Mem) (id:Nat) (cs:List AV) (i:Nat):(m.set id cs).get i = if i = id then some (.cells cs false (m.clock + 1)) else m.get i:=by
 simp [Mem.set,Mem.get]
@[simp] theorem Mem.get_mark (m:Mem) (id:Nat) (cs:List AV) (v:Nat) (i:Nat):(m.mark id cs v).get i = if i = id then some (.cells cs true v) else m.get i:=by
 simp [Mem.mark,Mem.get]
@[simp] theorem Mem.get_new (m:Mem) (cs:List AV) (f:Bool) (i:Nat):(m.new cs f).get i = if i = m.next then some (.cells cs f (m.clock + 1)) else m.get i:=by
 simp [Mem.new,Mem.get]
@[simp] theorem Mem.get_kill (m:Mem) (id:Nat) (i:Nat):(m.kill id).get i = if i = id then none else m.get i:=by
 simp [Mem.kill,Mem.get]
@[simp] theorem Mem.next_set (m:Mem) (id:Nat) (cs:List AV):(m.set id cs).next = m.next:=Eq.trans rfl rfl
@[simp] theorem Mem.next_mark (m:Mem) (id:Nat) (cs:List AV) (v:Nat):(m.mark id cs v).next = m.next:=Eq.trans rfl rfl
@[simp] theorem Mem.next_new (m:Mem) (cs:List AV) (f:Bool):(m.new cs f).next = m.next + 1:=Eq.trans rfl rfl
@[simp] theorem Mem.next_kill (m:Mem) (id:Nat):(m.kill id).next = m.next:=Eq.trans rfl rfl
theorem Sl.at_set (s:Sl) (d:Nat) (v:AV) (t:Nat):(s.set d v).at t = if t = d then v else s.at t:=by
 unfold Sl.at Sl.set
 rw [Tr.get_put]
 split <;> rfl
structure Bs where
 n:Nat
 F:Nat → Nat → Option Value
instance:Coe Bs Nat:=⟨Bs.n⟩
def Bs.bare (n:Nat):Bs:=⟨n,fun _ _ => Option.none⟩
structure G where
 n:Nat
 mu:Nat → Nat × Nat
 sz:Nat → Nat
 ln:Nat → Nat
 fz:Nat → Nat → Option Value
 df:Nat → Bool
 lb:Nat → Bool
 pn:Nat → Option Obj
structure G.le (g g':G):Prop where
 n:g.n ≤ g'.n
 mu:∀ id,id < g.n → g'.mu id = g.mu id
 sz:∀ id,id < g.n → g'.sz id = g.sz id
 ln:∀ id,id < g.n → g'.ln id = g.ln id
 fz:∀ b o v,g.fz b o = some v → g'.fz b o = some v
 df:∀ b,g.df b = true → g'.df b = true
 lb:∀ b,g.lb b = true → g'.lb b = true
 pn:∀ b o,g.pn b = some o → g'.pn b = some o
theorem G.le.refl (g:G):g.le g:=⟨Nat.le_refl _,fun _ _ => rfl,fun _ _ => rfl,fun _ _ => rfl,fun _ _ _ h => h,fun _ h => h,fun _ h => h,fun _ _ h => h⟩
theorem G.le.trans {a b c:G} (h:a.le b) (k:b.le c):a.le c :=
 ⟨Nat.le_trans h.n k.n,fun id hi => (k.mu id (Nat.lt_of_lt_of_le hi h.n)).trans (h.mu id hi),fun id hi => (k.sz id (Nat.lt_of_lt_of_le hi h.n)).trans (h.sz id hi),fun id hi => (k.ln id (Nat.lt_of_lt_of_le hi h.n)).trans (h.ln id hi),fun b o v hv => k.fz b o v (h.fz b o v hv),fun b hb => k.df b (h.df b hb),fun b hb => k.lb b (h.lb b hb),fun b o hb => k.pn b o (h.pn b o hb)⟩
structure G.lee (g g':G):Prop where
 n:g.n ≤ g'.n
 mu:∀ id,id < g.n → g'.mu id = g.mu id
 sz:∀ id,id < g.n → g'.sz id = g.sz id
 ln:∀ id,id < g.n → g'.ln id = g.ln id
 fz:∀ b o v,g.fz b o = some v → g'.fz b o = some v
theorem G.le.lee {g g':G} (h:g.le g'):g.lee g':=⟨h.n,h.mu,h.sz,h.ln,h.fz⟩
def Fro (g:G) (b o:Nat) (u:Value):Prop:=∀ (j:Nat) (c:Value),u.cells[j]? = some c → g.fz b (o + j) = some c
theorem Fro.mono {g g':G} (h:g.lee g') {b o:Nat} {u:Value} (k:Fro g b o u):Fro g' b o u:=fun j c hc => h.fz _ _ _ (k j c hc)
mutual
def Rel (g:G):AV → Value → Prop
 | .sc x,v => v = x
 | .ptr id off,v => id < g.n ∧ v = .pointer (some ⟨(g.mu id).1,(g.mu id).2 + off,none⟩)
 | .cptr x off,v => ∃ b o u,Rel g x u ∧ Fro g b o u ∧ v = .pointer (some ⟨b,o + off,none⟩)
 | .sl id off len k _ cap,v => id < g.n ∧ ∃ a c,v = .slice (some a) len c ∧ len ≤ c ∧ (c ≠ 0 → a = ⟨(g.mu id).1,(g.mu id).2 + off,none⟩ ∧ (g.mu id).2 + off + c * k ≤ g.sz id) ∧ (∀ c',cap = some c' → c = c') ∧ (cap = none → g.ln id ≤ off + c * k)
 | .emp 0,v => v = .slice none 0 0
 | .emp 1,v => ∃ a,v = .slice a 0 0
 | .emp 2,v => ∃ a c,v = .slice (some a) 0 c
 | .emp _,_ => False
 | .lst xs,v => ∃ a c vs k,v = .slice a xs.length c ∧ Rels g xs vs ∧ (xs.length ≤ c ∧ (a = none → c = 0)) ∧ ∀ i u,vs[i]? = some u → u.cells.size = k ∧ ∃ b o,a = some ⟨b,o,none⟩ ∧ Fro g b (o + i * k) u
 | .fn f fi ca,v => ∃ vf vc:List Value,v = .func f vf.toArray vc.toArray ∧ Rels g fi vf ∧ Rels g ca vc
 | .mp id,v => id < g.n ∧ v = .map (some (g.mu id).1)
 | .yl id,v => id < g.n ∧ v = .func (.yield (g.mu id).1) #[] #[]
 | .iface t x,v => ∃ u,v = .iface t u ∧ Rel g x u
 | .agg cs,v => ∃ vs:List Value,v = .agg vs.toArray ∧ Rels g cs vs ∧ ∀ u ∈ vs,u.oneCell' = true
 | .tup cs,v => ∃ vs:List Value,v = .tuple vs.toArray ∧ Rels g cs vs
def Rels (g:G):List AV → List Value → Prop
 | [],vs => vs = []
 | x :: xs,vs => ∃ v rest,vs = v :: rest ∧ Rel g x v ∧ Rels g xs rest
end
mutual
theorem Rel.monoE {g g':G} (h:g.lee g'):∀ (x:AV) (v:Value),Rel g x v → Rel g' x v
 | .sc x,v,k => k
 | .ptr id off,v,k => by
  simp only [Rel] at k ⊢
  exact ⟨Nat.lt_of_lt_of_le k.1 h.n,by rw [h.mu id k.1]; exact k.2⟩
 | .cptr x off,v,k => by
  simp only [Rel] at k ⊢
  obtain ⟨b,o,u,h1,h2,h3⟩:=k
  exact ⟨b,o,u,Rel.monoE h x u h1,h2.mono h,h3⟩
 | .sl id off len k ag cap,v,r => by
  simp only [Rel] at r ⊢
  obtain ⟨h1,a,c,h2,h3,h4,h5,h6⟩:=r
  exact ⟨Nat.lt_of_lt_of_le h1 h.n,a,c,h2,h3,by rw [h.mu id h1,h.sz id h1]; exact h4,h5,by rw [h.ln id h1]; exact h6⟩
 | .emp 0,v,k => k
 | .emp 1,v,k => k
 | .emp 2,v,k => k
 | .emp (n + 3),v,k => k
 | .lst xs,v,k => by
  simp only [Rel] at k ⊢
  obtain ⟨a,c,vs,q,h1,h2,h3,h4⟩:=k
  refine ⟨a,c,vs,q,h1,Rels.monoE h xs vs h2,h3,fun i u hu => ?_⟩
  obtain ⟨e,b,o,h5,h6⟩:=h4 i u hu
  exact ⟨e,b,o,h5,h6.mono h⟩
 | .fn f fi ca,v,k => by
  simp only [Rel] at k ⊢
  obtain ⟨vf,vc,h1,h2,h3⟩:=k
  exact ⟨vf,vc,h1,Rels.monoE h fi vf h2,Rels.monoE h ca vc h3⟩
 | .mp id,v,k => by
  simp only [Rel] at k ⊢
  exact ⟨Nat.lt_of_lt_of_le k.1 h.n,by rw [h.mu id k.1]; exact k.2⟩
 | .yl id,v,k => by
  simp only [Rel] at k ⊢
  exact ⟨Nat.lt_of_lt_of_le k.1 h.n,by rw [h.mu id k.1]; exact k.2⟩
 | .iface t x,v,k => by
  simp only [Rel] at k ⊢
  obtain ⟨u,h1,h2⟩:=k
  exact ⟨u,h1,Rel.monoE h x u h2⟩
 | .agg cs,v,k => by
  simp only [Rel] at k ⊢
  obtain ⟨vs,h1,h2,h3⟩:=k
  exact ⟨vs,h1,Rels.monoE h cs vs h2,h3⟩
 | .tup cs,v,k => by
  simp only [Rel] at k ⊢
  obtain ⟨vs,h1,h2⟩:=k
  exact ⟨vs,h1,Rels.monoE h cs vs h2⟩
theorem Rels.monoE {g g':G} (h:g.lee g'):∀ (xs:List AV) (vs:List Value),Rels g xs vs → Rels g' xs vs
 | [],vs,k => k
 | x :: xs,vs,k => by
  simp only [Rels] at k ⊢
  obtain ⟨v,rest,h1,h2,h3⟩:=k
  exact ⟨v,rest,h1,Rel.monoE h x v h2,Rels.monoE h xs rest h3⟩
end
theorem Rel.mono {g g':G} (h:g.le g') (x:AV) (v:Value) (k:Rel g x v):Rel g' x v:=Rel.monoE h.lee x v k
theorem Rels.mono {g g':G} (h:g.le g') (x:List AV) (v:List Value) (k:Rels g x v):Rels g' x v:=Rels.monoE h.lee x v k
section
variable {g:G}
theorem Rels.length:∀ {xs:List AV} {vs:List Value},Rels g xs vs → vs.length = xs.length
 | [],vs,k => by simp only [Rels] at k; subst k; rfl
 | x :: xs,vs,k => by
  simp only [Rels] at k
  obtain ⟨v,rest,rfl,_,h⟩:=k
  simp [Rels.length h]
theorem Rels.nil:Rels g [] []:=rfl
theorem Rels.cons {x:AV} {v:Value} {xs:List AV} {vs:List Value} (h:Rel g x v) (k:Rels g xs vs):Rels g (x :: xs) (v :: vs):=⟨v,vs,rfl,h,k⟩
theorem Rels.one {x:AV} {v:Value} (h:Rel g x v):Rels g [x] [v]:=.cons h .nil
theorem Rels.get:∀ {xs:List AV} {vs:List Value},Rels g xs vs → ∀ (i:Nat) (x:AV),xs[i]? = some x → ∃ v,vs[i]? = some v ∧ Rel g x v
 | [],vs,k,i,x,h => by simp at h
 | y :: xs,vs,k,i,x,h => by
  simp only [Rels] at k
  obtain ⟨v,rest,rfl,h1,h2⟩:=k
  cases i with
  | zero => simp at h; subst h; exact ⟨v,rfl,h1⟩
  | succ i => simpa using Rels.get h2 i x (by simpa using h)
theorem Rels.get' {xs:List AV} {vs:List Value} (k:Rels g xs vs) (i:Nat) (v:Value) (h:vs[i]? = some v):∃ x,xs[i]? = some x ∧ Rel g x v:=by
 have hl:=k.length
 have hi:i < xs.length:=by
  rcases Nat.lt_or_ge i xs.length with h' | h'
  ·exact h'
  ·rw [List.getElem?_eq_none (by omega)] at h; cases h
 obtain ⟨u,h1,h2⟩:=k.get i xs[i] (List.getElem?_eq_getElem hi)
 rw [h1] at h
 cases h
 exact ⟨_,List.getElem?_eq_getElem hi,h2⟩
theorem Rels.append:∀ {xs:List AV} {vs:List Value} {ys:List AV} {us:List Value},Rels g xs vs → Rels g ys us → Rels g (xs ++ ys) (vs ++ us)
 | [],vs,ys,us,k,h => by simp only [Rels] at k; subst k; simpa using h
 | x :: xs,vs,ys,us,k,h => by
  simp only [Rels] at k
  obtain ⟨v,rest,rfl,h1,h2⟩:=k
  exact .cons h1 (Rels.append h2 h)
theorem Rels.take:∀ {xs:List AV} {vs:List Value} (n:Nat),Rels g xs vs → Rels g (xs.take n) (vs.take n)
 | _,_,0,_ => by simp [Rels]
 | [],vs,n + 1,k => by simp only [Rels] at k; subst k; simp [Rels]
 | x :: xs,vs,n + 1,k => by
  simp only [Rels] at k
  obtain ⟨v,rest,rfl,h1,h2⟩:=k
  exact .cons h1 (Rels.take n h2)
theorem Rels.drop:∀ {xs:List AV} {vs:List Value} (n:Nat),Rels g xs vs → Rels g (xs.drop n) (vs.drop n)
 | _,_,0,k => by simpa using k
 | [],vs,n + 1,k => by simp only [Rels] at k; subst k; simp [Rels]
 | x :: xs,vs,n + 1,k => by
  simp only [Rels] at k
  obtain ⟨v,rest,rfl,h1,h2⟩:=k
  simpa using Rels.drop n h2
theorem Rels.splice {cs:List AV} {us:List Value} {vs:List AV} {ws:List Value} (off:Nat) (h:Rels g cs us) (k:Rels g vs ws) :
  Rels g (splice cs off vs) (us.take off ++ ws ++ us.drop (off + ws.length)):=by
 unfold Go.V.splice
 rw [k.length]
 exact ((h.take off).append k).append (h.drop _)
theorem Rels.split:∀ {xs ys:List AV} {vs:List Value},Rels g (xs ++ ys) vs → ∃ a b,vs = a ++ b ∧ Rels g xs a ∧ Rels g ys b
 | [],ys,vs,k => ⟨[],vs,rfl,.nil,k⟩
 | x :: xs,ys,vs,k => by
  simp only [List.cons_append,Rels] at k
  obtain ⟨v,rest,rfl,h1,h2⟩:=k
  obtain ⟨a,b,rfl,h3,h4⟩:=Rels.split h2
  exact ⟨v :: a,b,rfl,.cons h1 h3,h4⟩
theorem Rels.map_sc:∀ (vs:List Value),Rels g (vs.map .sc) vs
 | [] => .nil
 | _ :: vs => .cons rfl (Rels.map_sc vs)
theorem Rels.replicate {x:AV} {v:Value} (h:Rel g x v):∀ n,Rels g (List.replicate n x) (List.replicate n v)
 | 0 => .nil
 | n + 1 => .cons h (Rels.replicate h n)
theorem Rel.cells {x:AV} {v:Value} (h:Rel g x v):Rels g x.cells v.cells.toList:=by
 have one:∀ {x:AV},(∀ cs,v ≠ .agg cs) → Rel g x v → Rels g [x] v.cells.toList:=by
  intro x hv h
  have:v.cells = #[v]:=by cases v <;> first | rfl | (exact (hv _ rfl).elim)
  rw [this]
  exact .one h
 cases x with
 | agg cs => simp only [Rel] at h; obtain ⟨vs,rfl,h,_⟩:=h; simpa [AV.cells,Value.cells] using h
 | sc u =>
  simp only [Rel] at h
  subst h
  cases v with
  | agg cs => simp only [AV.cells,Value.cells]; exact Rels.map_sc cs.toList
  | _ => exact .one rfl
 | ptr id off => exact one (by simp only [Rel] at h; obtain ⟨_,rfl⟩:=h; simp) h
 | cptr x off => exact one (by simp only [Rel] at h; obtain ⟨_,_,_,_,_,rfl⟩:=h; simp) h
 | sl id off len k ag cap => exact one (by simp only [Rel] at h; obtain ⟨_,_,_,rfl,_⟩:=h; simp) h
 | emp n =>
  match n,h with
  | 0,h => exact one (by simp only [Rel] at h; subst h; simp) h
  | 1,h => exact one (by simp only [Rel] at h; obtain ⟨_,rfl⟩:=h; simp) h
  | 2,h => exact one (by simp only [Rel] at h; obtain ⟨_,_,rfl⟩:=h; simp) h
  | n + 3,h => exact h.elim
 | lst xs => exact one (by simp only [Rel] at h; obtain ⟨_,_,_,_,rfl,_⟩:=h; simp) h
 | fn f a b => exact one (by simp only [Rel] at h; obtain ⟨_,_,rfl,_⟩:=h; simp) h
 | mp id => exact one (by simp only [Rel] at h; obtain ⟨_,rfl⟩:=h; simp) h
 | yl id => exact one (by simp only [Rel] at h; obtain ⟨_,rfl⟩:=h; simp) h
 | iface t x => exact one (by simp only [Rel] at h; obtain ⟨_,rfl,_⟩:=h; simp) h
 | tup vs => exact one (by simp only [Rel] at h; obtain ⟨_,rfl,_⟩:=h; simp) h
theorem Rel.one {x:AV} {v:Value} (h:Rel g x v) (ho:x.okc = true):∀ u ∈ v.cells.toList,u.oneCell' = true:=by
 cases x with
 | agg cs => simp only [Rel] at h; obtain ⟨vs,rfl,_,h⟩:=h; simpa [Value.cells] using h
 | sc u =>
  simp only [Rel] at h
  subst h
  cases v <;> first | (simp [AV.okc] at ho; done) | simp [Value.cells,Value.oneCell']
 | ptr id off => simp only [Rel] at h; obtain ⟨_,rfl⟩:=h; simp [Value.cells,Value.oneCell']
 | cptr x off => simp only [Rel] at h; obtain ⟨_,_,_,_,_,rfl⟩:=h; simp [Value.cells,Value.oneCell']
 | sl id off len k ag cap => simp only [Rel] at h; obtain ⟨_,_,_,rfl,_⟩:=h; simp [Value.cells,Value.oneCell']
 | emp n =>
  match n,h with
  | 0,h => simp only [Rel] at h; subst h; simp [Value.cells,Value.oneCell']
  | 1,h => simp only [Rel] at h; obtain ⟨_,rfl⟩:=h; simp [Value.cells,Value.oneCell']
  | 2,h => simp only [Rel] at h; obtain ⟨_,_,rfl⟩:=h; simp [Value.cells,Value.oneCell']
  | n + 3,h => exact h.elim
 | lst xs => simp only [Rel] at h; obtain ⟨_,_,_,_,rfl,_⟩:=h; simp [Value.cells,Value.oneCell']
 | fn f a b => simp only [Rel] at h; obtain ⟨_,_,rfl,_⟩:=h; simp [Value.cells,Value.oneCell']
 | mp id => simp only [Rel] at h; obtain ⟨_,rfl⟩:=h; simp [Value.cells,Value.oneCell']
 | yl id => simp only [Rel] at h; obtain ⟨_,rfl⟩:=h; simp [Value.cells,Value.oneCell']
 | iface t x => simp only [Rel] at h; obtain ⟨_,rfl,_⟩:=h; simp [Value.cells,Value.oneCell']
 | tup vs => simp [AV.okc] at ho
theorem Ax9 {x:AV} {b:Bool} (h:Rel g x (.bool b)):x = .sc (.bool b):=by
 cases x with
 | sc v => simp only [Rel] at h; subst h; rfl
 | emp n =>
  match n,h with
  | 0,h => simp [Rel] at h
  | 1,h => simp [Rel] at h
  | 2,h => simp [Rel] at h
  | n + 3,h => exact h.elim
 | _ => simp [Rel] at h
theorem Ap0 (v:Value):Rel g (leaf v) v:=by
 cases v with
 | slice a l c =>
  simp only [leaf]
  split
  ·rename_i h
   simp only [Bool.and_eq_true,Option.isNone_iff_eq_none,beq_iff_eq] at h
   obtain ⟨⟨rfl,rfl⟩,rfl⟩:=h
   rfl
  ·rfl
 | _ => rfl
theorem Alx:∀ l:List Value,Rels g (l.map leaf) l
 | [] => .nil
 | a :: l => .cons (Ap0 a) (Alx l)
theorem Aap (v:Value):Rel g (ofConst v) v:=by
 cases v with
 | agg cs =>
  simp only [ofConst]
  split
  ·rename_i h
   exact ⟨cs.toList,by simp,Alx _,fun u hu => by simpa using List.all_eq_true.1 h u hu⟩
  ·rfl
 | func f a b =>
  simp only [ofConst]
  split
  ·rename_i h
   simp only [Bool.and_eq_true,beq_iff_eq,Array.size_eq_zero_iff] at h
   obtain ⟨rfl,rfl⟩:=h
   exact ⟨[],[],rfl,.nil,.nil⟩
  ·rfl
 | _ => simp only [ofConst]; exact Ap0 _
end
def ObjR (B:Bs) (g:G) (id:Nat) (cs:List AV) (f:Bool) (w:World):Prop :=
 (B ≤ (g.mu id).1 ∧ cs.length = g.ln id ∧ (g.mu id).2 = 0) ∧ (∃ pre vs post el,w.heap[(g.mu id).1]? = some (.cells (pre ++ vs ++ post).toArray el (0,0)) ∧ pre.length = (g.mu id).2 ∧ Rels g cs vs ∧ (pre ++ vs ++ post).length = g.sz id ∧ ∀ u ∈ vs,u.oneCell' = true) ∧
 ∀ o v,g.fz (g.mu id).1 o = some v → f = true ∧ o < (g.mu id).2 + cs.length
def LoopR (B:Bs) (g:G) (id:Nat) (L:ALoop) (w:World):Prop :=
 (B ≤ (g.mu id).1 ∧ g.lb (g.mu id).1 = true) ∧ ∃ fn tmps df,w.heap[(g.mu id).1]? = some (.loop ⟨L.st,L.pend,fn,tmps,L.c.ps,L.c.assign,L.c.body,df⟩) ∧ tmps.size = L.c.N ∧ ∀ t,Rel g (L.c.s.at t) (tmps.getD t undef)
def Ents (g:G):List (Value × AV × Nat) → List MapEntry → Prop
 | [],es => es = []
 | x :: l,es => ∃ v es',es = ⟨x.1,v,x.2.2⟩ :: es' ∧ Rel g x.2.1 v ∧ Ents g l es'
theorem Ents.monoE {g g':G} (h:g.lee g'):∀ (l:List (Value × AV × Nat)) (es:List MapEntry),Ents g l es → Ents g' l es
 | [],es,k => k
 | x :: l,es,k => by
  obtain ⟨v,es',h1,h2,h3⟩:=k
  exact ⟨v,es',h1,h2.monoE h _ _,Ents.monoE h l es' h3⟩
theorem Ents.mono {g g':G} (h:g.le g'):∀ (l:List (Value × AV × Nat)) (es:List MapEntry),Ents g l es → Ents g' l es
 | [],es,k => k
 | x :: l,es,k => by
  obtain ⟨v,es',h1,h2,h3⟩:=k
  exact ⟨v,es',h1,h2.mono h _ _,Ents.mono h l es' h3⟩
def MapR (B:Bs) (g:G) (id:Nat) (M:AMap) (w:World):Prop :=
 B ≤ (g.mu id).1 ∧ ∃ es:List MapEntry,w.heap[(g.mu id).1]? = some (.map es.toArray M.ck) ∧ Ents g M.es es
structure PinOk (B:Bs) (g:G) (m:Mem) (w:World) (b:Nat) (o:Obj):Prop where
 base:B ≤ b
 here:w.heap[b]? = some o
 kind:o.isCells = true ∨ ∃ es c,o = .map es c
 fz:∀ q,g.fz b q = none
 obj:∀ id,(m.get id).isSome = true → (g.mu id).1 ≠ b
 map:∀ id,(m.map id).isSome = true → (g.mu id).1 ≠ b
structure WX (B:Bs) (g:G) (m:Mem) (w:World):Prop where
 lids:∀ id L,m.loop id = some L → id < g.n ∧ LoopR B g id L w
 linj:∀ i j,(m.loop i).isSome = true → (m.loop j).isSome = true → (g.mu i).1 = (g.mu j).1 → i = j
 mids:∀ id M,m.map id = some M → id < g.n ∧ MapR B g id M w
 minj:∀ i j,(m.map i).isSome = true → (m.map j).isSome = true → (g.mu i).1 = (g.mu j).1 → i = j
 df:∀ b,g.df b = true → B ≤ b ∧ w.heap[b]? = some (.deferred (some []))
 lb:∀ b,g.lb b = true → ∃ r,w.heap[b]? = some (.loop r)
 pn:∀ b o,g.pn b = some o → PinOk B g m w b o
theorem LoopR.mono {B:Bs} {g g':G} (h:g.le g') {id:Nat} (hi:id < g.n) {L:ALoop} {w:World} (k:LoopR B g id L w):LoopR B g' id L w:=by
 obtain ⟨h1,fn,tmps,df,h2,h3,h4⟩:=k
 unfold LoopR
 rw [h.mu id hi]
 exact ⟨⟨h1.1,h.lb _ h1.2⟩,fn,tmps,df,h2,h3,fun t => (h4 t).mono h _ _⟩
theorem MapR.mono {B:Bs} {g g':G} (h:g.le g') {id:Nat} (hi:id < g.n) {M:AMap} {w:World} (k:MapR B g id M w):MapR B g' id M w:=by
 obtain ⟨h1,es,h2,h3⟩:=k
 unfold MapR
 rw [h.mu id hi]
 exact ⟨h1,es,h2,h3.mono h _ _⟩
theorem WX.step {B:Bs} {g g':G} {m m':Mem} {w w':World} (h:WX B g m w) (hl:g.le g') (h1:m'.lp = m.lp) (h2:m'.mp = m.mp) (hd:g'.df = g.df) (hb:g'.lb = g.lb) (hw:∀ (b:Nat) (o:Obj),w.heap[b]? = some o → o.isCells = false → w'.heap[b]? = some o)
  (hpn:g'.pn = g.pn) (hp:∀ b o,g.pn b = some o → PinOk B g m w b o → w'.heap[b]? = some o ∧ (∀ q,g'.fz b q = none) ∧ ∀ id,(m'.get id).isSome = true → (g'.mu id).1 ≠ b):WX B g' m' w':=by
 have e1:∀ id,m'.loop id = m.loop id:=fun id => by unfold Mem.loop; rw [h1]
 have e2:∀ id,m'.map id = m.map id:=fun id => by unfold Mem.map; rw [h2]
 refine ⟨fun id L hL => ?_,fun i j hi hj he => ?_,fun id M hM => ?_,fun i j hi hj he => ?_,fun b hb' => ?_,fun b hb' => ?_,fun b o hb' => ?_⟩
 ·rw [e1] at hL
  obtain ⟨a,b⟩:=h.lids id L hL
  obtain ⟨c,fn,tmps,df,d,e⟩:=b
  exact ⟨Nat.lt_of_lt_of_le a hl.n,LoopR.mono hl a ⟨c,fn,tmps,df,hw _ _ d rfl,e⟩⟩
 ·rw [e1] at hi hj
  obtain ⟨L,hL⟩:=Option.isSome_iff_exists.1 hi
  obtain ⟨L',hL'⟩:=Option.isSome_iff_exists.1 hj
  rw [hl.mu i (h.lids i L hL).1,hl.mu j (h.lids j L' hL').1] at he
  exact h.linj i j hi hj he
 ·rw [e2] at hM
  obtain ⟨a,b⟩:=h.mids id M hM
  obtain ⟨c,es,d,e⟩:=b
  exact ⟨Nat.lt_of_lt_of_le a hl.n,MapR.mono hl a ⟨c,es,hw _ _ d rfl,e⟩⟩
 ·rw [e2] at hi hj
  obtain ⟨L,hL⟩:=Option.isSome_iff_exists.1 hi
  obtain ⟨L',hL'⟩:=Option.isSome_iff_exists.1 hj
  rw [hl.mu i (h.mids i L hL).1,hl.mu j (h.mids j L' hL').1] at he
  exact h.minj i j hi hj he
 ·rw [hd] at hb'; exact ⟨(h.df b hb').1,hw _ _ (h.df b hb').2 rfl⟩
 ·rw [hb] at hb'; obtain ⟨r,hr⟩:=h.lb b hb'; exact ⟨r,hw _ _ hr rfl⟩
 ·rw [hpn] at hb'
  have k:=h.pn b o hb'
  obtain ⟨k1,k2,k3⟩:=hp b o hb' k
  refine ⟨k.base,k1,k.kind,k2,k3,fun id hi => ?_⟩
  rw [e2] at hi
  obtain ⟨M,hM⟩:=Option.isSome_iff_exists.1 hi
  rw [hl.mu id (h.mids id M hM).1]
  exact k.map id hi
theorem PinOk.same {B:Bs} {g:G} {m m':Mem} {w:World} {b:Nat} {o:Obj} (k:PinOk B g m w b o) (hm:∀ id,(m'.get id).isSome = true → (m.get id).isSome = true) :
  w.heap[b]? = some o ∧ (∀ q,g.fz b q = none) ∧ ∀ id,(m'.get id).isSome = true → (g.mu id).1 ≠ b:=⟨k.here,k.fz,fun id hi => k.obj id (hm id hi)⟩
theorem PinOk.loop {B:Bs} {g:G} {m m2:Mem} {w:World} {b:Nat} {o:Obj} (k:PinOk B g m w b o) {r:Loop} {q:Nat} (h:w.heap[q]? = some (.loop r)):b ≠ q:=by
 rintro rfl
 have h1:=k.here
 rw [h] at h1
 cases h1
 rcases k.kind with h2 | ⟨_,_,h2⟩ <;> cases h2
theorem PinOk.dfr {B:Bs} {g:G} {m:Mem} {w:World} {b:Nat} {o:Obj} (k:PinOk B g m w b o) {l:Option (List Deferred)} {q:Nat} (h:w.heap[q]? = some (.deferred l)):b ≠ q:=by
 rintro rfl
 have h1:=k.here
 rw [h] at h1
 cases h1
 rcases k.kind with h2 | ⟨_,_,h2⟩ <;> cases h2
structure WR (B:Bs) (W:World) (g:G) (m:Mem) (w:World):Prop where
 below:Below B W w
 base:B ≤ w.heap.size
 n:m.next = g.n
 ids:∀ id o,m.get id = some o → id < g.n
 objs:∀ id cs f ver,m.get id = some (.cells cs f ver) → ObjR B g id cs f w
 inj:∀ i j,(m.get i).isSome = true → (m.get j).isSome = true → (g.mu i).1 = (g.mu j).1 → i = j
 fz:∀ b o v,g.fz b o = some v → w.cell? ⟨b,o,none⟩ = some v ∧ (b < B.n → B.F b o = some v)
 x:WX B g m w
variable {B:Bs} {W:World} {g:G} {m:Mem} {w:World}
theorem ObjR.mono {g':G} (h:g.le g') {id:Nat} (hi:id < g.n) {cs:List AV} {f:Bool} (k:ObjR B g id cs f w) (hf:∀ o v,g'.fz (g.mu id).1 o = some v → g.fz (g.mu id).1 o = some v):ObjR B g' id cs f w:=by
 obtain ⟨h1,⟨pre,vs,post,el,h2,h3,h4,h5,h7⟩,h6⟩:=k
 unfold ObjR
 rw [h.mu id hi,h.sz id hi,h.ln id hi]
 exact ⟨h1,⟨pre,vs,post,el,h2,h3,h4.mono h,h5,h7⟩,fun o v hv => h6 o v (hf o v hv)⟩
theorem ObjR.world {w':World} {id:Nat} {cs:List AV} {f:Bool} (k:ObjR B g id cs f w) (h:w'.heap[(g.mu id).1]? = w.heap[(g.mu id).1]?):ObjR B g id cs f w':=by
 obtain ⟨h1,⟨pre,vs,post,el,h2,h3⟩,h6⟩:=k
 exact ⟨h1,⟨pre,vs,post,el,h.trans h2,h3⟩,h6⟩
theorem WR.block_lt (h:WR B W g m w) {id:Nat} {cs:List AV} {f:Bool} {ver:Nat} (k:m.get id = some (.cells cs f ver)):(g.mu id).1 < w.heap.size:=by
 obtain ⟨_,⟨pre,vs,post,el,h2,_⟩,_⟩:=h.objs id cs f ver k
 exact (Array.getElem?_eq_some_iff.1 h2).1
theorem Ad1 {a:Addr} {v:Value} (h:w.cell? a = some v):a.block < w.heap.size:=by
 unfold World.cell? at h
 split at h
 ·rename_i hb; exact (Array.getElem?_eq_some_iff.1 hb).1
 ·cases h
theorem WR.drew (h:WR B W g m w):WR B W g m w.drew :=
 ⟨h.below.drew,h.base,h.n,h.ids,h.objs,h.inj,h.fz,h.x.step (.refl g) rfl rfl rfl rfl (fun _ _ k _ => k) rfl fun _ _ _ k => k.same fun _ h => h⟩
theorem WR.cell (h:WR B W g m w) {id:Nat} {cs:List AV} {f:Bool} {ver:Nat} (k:m.get id = some (.cells cs f ver)) (j:Nat) (x:AV) (hx:cs[j]? = some x) :
  ∃ v,w.cell? ⟨(g.mu id).1,(g.mu id).2 + j,none⟩ = some v ∧ Rel g x v:=by
 obtain ⟨_,⟨pre,vs,post,el,h2,h3,h4,_⟩,_⟩:=h.objs id cs f ver k
 obtain ⟨v,h5,h6⟩:=h4.get j x hx
 refine ⟨v,?_,h6⟩
 unfold World.cell?
 simp only [h2]
 simp only [Option.isSome_none,Bool.false_eq_true,if_false,List.getElem?_toArray,← h3]
 have hj:j < vs.length:=by
  rcases Nat.lt_or_ge j vs.length with h' | h'
  ·exact h'
  ·rw [List.getElem?_eq_none h'] at h5; cases h5
 rw [List.append_assoc,List.getElem?_append_right (by omega),Nat.add_sub_cancel_left,List.getElem?_append_left hj,h5]
theorem WR.cells (h:WR B W g m w) {id:Nat} {cs:List AV} {f:Bool} {ver:Nat} (k:m.get id = some (.cells cs f ver)) :
  ∃ vs,Rels g cs vs ∧ (∀ u ∈ vs,u.oneCell' = true) ∧ ∀ j v,vs[j]? = some v → w.cell? ⟨(g.mu id).1,(g.mu id).2 + j,none⟩ = some v:=by
 obtain ⟨_,⟨pre,vs,post,el,h2,h3,h4,_,h5⟩,_⟩:=h.objs id cs f ver k
 refine ⟨vs,h4,h5,fun j v hv => ?_⟩
 unfold World.cell?
 simp only [h2]
 simp only [Option.isSome_none,Bool.false_eq_true,if_false,List.getElem?_toArray,← h3]
 have hj:j < vs.length:=by
  rcases Nat.lt_or_ge j vs.length with h' | h'
  ·exact h'
  ·rw [List.getElem?_eq_none h'] at hv; cases hv
 rw [List.append_assoc,List.getElem?_append_right (by omega),Nat.add_sub_cancel_left,List.getElem?_append_left hj,hv]
def G.new (g:G) (b o s l:Nat):G:={ g with n:=g.n + 1,mu:=fun i => if i = g.n then (b,o) else g.mu i,sz:=fun i => if i = g.n then s else g.sz i,ln:=fun i => if i = g.n then l else g.ln i }
theorem G.le_new (g:G) (b o s l:Nat):g.le (g.new b o s l) :=
 ⟨Nat.le_succ _,fun id hi => by simp [G.new,Nat.ne_of_lt hi],fun id hi => by simp [G.new,Nat.ne_of_lt hi],fun id hi => by simp [G.new,Nat.ne_of_lt hi],fun _ _ _ h => h,fun _ h => h,fun _ h => h,fun _ _ h => h⟩
theorem Arz (o:Obj) (b:Nat) (o':Obj) (h:w.heap[b]? = some o') (_:o'.isCells = false):(w.alloc o).heap[b]? = some o':=by
 have hb:=(Array.getElem?_eq_some_iff.1 h).1
 show (w.heap.push o)[b]? = some o'
 rw [Array.getElem?_push,if_neg (by omega)]
 exact h
theorem WR.new (h:WR B W g m w) {cs:List AV} {vs post:List Value} (k:Rels g cs vs) (ho:∀ u ∈ vs,u.oneCell' = true) (f:Bool) (el:TypeId) :
  WR B W (g.new w.heap.size 0 (vs ++ post).length cs.length) (m.new cs f) (w.alloc (.cells (vs ++ post).toArray el)):=by
 have hle:=G.le_new g w.heap.size 0 (vs ++ post).length cs.length
 have hmu:(g.new w.heap.size 0 (vs ++ post).length cs.length).mu g.n = (w.heap.size,0):=by simp [G.new]
 have hold:∀ id,id < g.n → (g.new w.heap.size 0 (vs ++ post).length cs.length).mu id = g.mu id:=hle.mu
 have hfz:∀ b o v,g.fz b o = some v → b < w.heap.size:=fun b o v hv => Ad1 (h.fz b o v hv).1
 refine ⟨h.below.alloc h.base _,by simp; exact Nat.le_succ_of_le h.base,by simp [G.new,h.n],?_,?_,?_,?_,h.x.step hle rfl rfl rfl rfl (Arz _) rfl fun b o _ k => ⟨?_,k.fz,fun id hi => ?_⟩⟩
 ·intro id o hid
  rw [Mem.get_new,h.n] at hid
  show id < g.n + 1
  split at hid
  ·omega
  ·have:=h.ids id o hid; omega
 ·intro id cs' f' ver hid
  rw [Mem.get_new,h.n] at hid
  split at hid
  ·rename_i e
   subst e
   simp only [Option.some.injEq,AObj.cells.injEq] at hid
   obtain ⟨rfl,rfl,_⟩:=hid
   refine ⟨⟨by rw [hmu]; exact h.base,by simp [G.new]⟩,⟨[],vs,post,el,?_,by rw [hmu]; rfl,k.mono hle,by simp [G.new],ho⟩,?_⟩
   ·rw [hmu]; show (w.heap.push _)[w.heap.size]? = _; simp
   ·intro o v hv
    rw [hmu] at hv
    exact absurd (hfz _ _ _ hv) (by simp)
  ·have hlt:=h.ids id _ hid
   have hb:=h.block_lt hid
   refine ObjR.world (w:=w) (ObjR.mono hle hlt (h.objs id cs' f' ver hid) (fun _ _ hv => hv)) ?_
   rw [hold id hlt]
   show (w.heap.push _)[_]? = _
   rw [Array.getElem?_push,if_neg (by omega)]
 ·intro i j hi hj he
  rw [Mem.get_new,h.n] at hi hj
  by_cases ei:i = g.n <;> by_cases ej:j = g.n
  ·rw [ei,ej]
  ·simp only [ej,if_false] at hj
   obtain ⟨o,ho⟩:=Option.isSome_iff_exists.1 hj
   rw [ei,hmu,hold j (h.ids j o ho)] at he
   cases o with
   | cells c f v => have:=h.block_lt ho; simp at he; omega
  ·simp only [ei,if_false] at hi
   obtain ⟨o,ho⟩:=Option.isSome_iff_exists.1 hi
   rw [ej,hmu,hold i (h.ids i o ho)] at he
   cases o with
   | cells c f v => have:=h.block_lt ho; simp at he; omega
  ·simp only [ei,ej,if_false] at hi hj
   obtain ⟨o,ho⟩:=Option.isSome_iff_exists.1 hi
   obtain ⟨o',ho'⟩:=Option.isSome_iff_exists.1 hj
   rw [hold i (h.ids i o ho),hold j (h.ids j o' ho')] at he
   exact h.inj i j hi hj he
 ·intro b o v hv
  refine ⟨?_,(h.fz b o v hv).2⟩
  rw [World.cell?_alloc_lt _ _ _ (hfz b o v hv)]
  exact (h.fz b o v hv).1
 ·have hb:=(Array.getElem?_eq_some_iff.1 k.here).1
  show (w.heap.push _)[b]? = some o
  rw [Array.getElem?_push,if_neg (by omega)]
  exact k.here
 ·rw [Mem.get_new,h.n] at hi
  split at hi
  ·rename_i e
   rw [e,hmu]
   have hb:=(Array.getElem?_eq_some_iff.1 k.here).1
   simp only
   omega
  ·obtain ⟨o',ho'⟩:=Option.isSome_iff_exists.1 hi
   rw [hold id (h.ids id o' ho')]
   exact k.obj id hi
theorem Ahz (g:G) (b o s l off:Nat):Rel (g.new b o s l) (.ptr g.n off) (.pointer (some ⟨b,o + off,none⟩)):=by
 simp [Rel,G.new]
theorem WR.set (h:WR B W g m w) {id:Nat} {cs:List AV} {ver:Nat} (k:m.get id = some (.cells cs false ver)) (off:Nat) {xs:List AV} {us:List Value} (hx:Rels g xs us) (hl:off + xs.length ≤ cs.length)
  (h1:∀ u ∈ us,u.oneCell' = true) (P:Program) :
  ∃ w',(storeCells ⟨(g.mu id).1,(g.mu id).2 + off,none⟩ us).run P w = .ok () w' ∧ WR B W g (m.set id (splice cs off xs)) w':=by
 obtain ⟨hb,⟨pre,vs,post,el,h2,h3,h4,h5,h7⟩,h6⟩:=h.objs id cs false ver k
 have hlen:=h4.length
 have hus:=hx.length
 have hst:=run_storeCells_at P (g.mu id).1 ((g.mu id).2 + off) el us 0 (pre ++ vs ++ post).toArray w h2 (by simp; omega) h1
 refine ⟨_,hst,?_⟩
 have hrow:((pre ++ vs ++ post).take ((g.mu id).2 + off + 0) ++ us ++ (pre ++ vs ++ post).drop ((g.mu id).2 + off + 0 + us.length)) = pre ++ (vs.take off ++ us ++ vs.drop (off + us.length)) ++ post:=by
  rw [← h3]
  have e1:(pre ++ vs ++ post).take (pre.length + off + 0) = pre ++ vs.take off:=by
   have e3:pre.take (pre.length + off) = pre:=List.take_of_length_le (by omega)
   have e4:(vs ++ post).take off = vs.take off:=List.take_append_of_le_length (by omega)
   rw [Nat.add_zero,List.append_assoc,List.take_append,e3,Nat.add_sub_cancel_left,e4]
  have e2:(pre ++ vs ++ post).drop (pre.length + off + 0 + us.length) = vs.drop (off + us.length) ++ post:=by
   have e:pre.length + off + 0 + us.length = pre.length + (off + us.length):=by omega
   rw [e,List.append_assoc,List.drop_append,List.drop_eq_nil_of_le (by omega),Nat.add_sub_cancel_left,List.nil_append,List.drop_append_of_le_length (by omega)]
  rw [e1,e2]
  simp [List.append_assoc]
 have hw:∀ b,b ≠ (g.mu id).1 → (w.setRow (g.mu id).1 ((pre ++ vs ++ post).toArray.toList.take ((g.mu id).2 + off + 0) ++ us ++ (pre ++ vs ++ post).toArray.toList.drop ((g.mu id).2 + off + 0 + us.length)).toArray).heap[b]? = w.heap[b]?:=by
  intro b hb'
  simp only [World.setRow,Array.getElem?_modify]
  rw [if_neg (by omega)]
 have hw2:=setRow_heap w (g.mu id).1 (pre ++ vs ++ post).toArray ((pre ++ vs ++ post).toArray.toList.take ((g.mu id).2 + off + 0) ++ us ++ (pre ++ vs ++ post).toArray.toList.drop ((g.mu id).2 + off + 0 + us.length)).toArray el (0,0) h2
 generalize hW:w.setRow (g.mu id).1 _ = w' at *
 have hsize:w'.heap.size = w.heap.size:=by rw [← hW]; simp [World.setRow]
 simp only [List.toList_toArray] at hw2
 rw [hrow] at hw2
 have hcells:∀ (b:Nat) (o:Obj),w.heap[b]? = some o → o.isCells = false → w'.heap[b]? = some o:=by
  intro b o ho hc
  rw [hw b (by rintro rfl; rw [h2] at ho; cases ho; cases hc)]
  exact ho
 refine ⟨h.below.trans ⟨?_,?_,?_,by omega,fun b hb' => hw b (by omega)⟩,by rw [hsize]; exact h.base,h.n,?_,?_,?_,?_,h.x.step (.refl g) rfl rfl rfl rfl hcells rfl fun b o _ p => ⟨(hw b fun e => p.obj id (by rw [k]; rfl) e.symm).trans p.here,p.fz,fun i hi => p.obj i ?_⟩⟩
 ·rw [← hW]; rfl
 ·rw [← hW]; rfl
 ·rw [← hW]; rfl
 ·intro i o hi
  rw [Mem.get_set] at hi
  split at hi
  ·rename_i e; rw [e]; exact h.ids id _ k
  ·exact h.ids i o hi
 ·intro i cs' f' ver' hi
  rw [Mem.get_set] at hi
  split at hi
  ·rename_i e
   subst e
   simp only [Option.some.injEq,AObj.cells.injEq] at hi
   obtain ⟨rfl,rfl,_⟩:=hi
   refine ⟨⟨hb.1,by rw [← hb.2.1]; simp [splice]; omega,hb.2.2⟩,⟨pre,_,post,el,hw2,h3,h4.splice off hx,?_,?_⟩,fun o v hv => ?_⟩
   ·rw [← h5]; simp; omega
   ·intro u hu
    simp only [List.mem_append] at hu
    rcases hu with (hu | hu) | hu
    ·exact h7 u (List.mem_of_mem_take hu)
    ·exact h1 u hu
    ·exact h7 u (List.mem_of_mem_drop hu)
   ·have:=h6 o v hv; simp at this
  ·rename_i e
   refine (h.objs i cs' f' ver' hi).world (hw _ fun e' => e (h.inj i id (by rw [hi]; rfl) (by rw [k]; rfl) e'))
 ·intro i j hi hj he
  refine h.inj i j ?_ ?_ he
  ·rw [Mem.get_set] at hi; split at hi
   ·rename_i e; rw [e,k]; rfl
   ·exact hi
  ·rw [Mem.get_set] at hj; split at hj
   ·rename_i e; rw [e,k]; rfl
   ·exact hj
 ·intro b o v hv
  have hne:b ≠ (g.mu id).1:=fun e => by subst e; have:=h6 o v hv; simp at this
  refine ⟨?_,(h.fz b o v hv).2⟩
  have hc:=(h.fz b o v hv).1
  unfold World.cell? at hc ⊢
  simp only at hc ⊢
  rw [hw b hne]
  exact hc
 ·rw [Mem.get_set] at hi
  split at hi
  ·rename_i e; rw [e,k]; rfl
  ·exact hi
def G.freeze (g:G) (b o:Nat) (vs:List Value):G:={ g with fz:=fun b' o' => if b' = b ∧ o ≤ o' ∧ o' < o + vs.length then vs[o' - o]? else g.fz b' o' }
theorem WR.mark (h:WR B W g m w) {id:Nat} {cs:List AV} {f:Bool} {ver:Nat} (k:m.get id = some (.cells cs f ver)) :
  ∃ vs,Rels g cs vs ∧ (∀ u ∈ vs,u.oneCell' = true) ∧ g.le (g.freeze (g.mu id).1 (g.mu id).2 vs) ∧ WR B W (g.freeze (g.mu id).1 (g.mu id).2 vs) (m.mark id cs ver) w:=by
 obtain ⟨vs,h1,h2,h3⟩:=h.cells k
 have hlen:=h1.length
 have hle:g.le (g.freeze (g.mu id).1 (g.mu id).2 vs):=by
  refine ⟨Nat.le_refl _,fun _ _ => rfl,fun _ _ => rfl,fun _ _ => rfl,fun b o v hv => ?_,fun _ h => h,fun _ h => h,fun _ _ h => h⟩
  simp only [G.freeze]
  split
  ·rename_i hc
   obtain ⟨rfl,hc1,hc2⟩:=hc
   have hj:o - (g.mu id).2 < vs.length:=by omega
   have hcell:=h3 (o - (g.mu id).2) vs[o - (g.mu id).2] (List.getElem?_eq_getElem hj)
   have he:(g.mu id).2 + (o - (g.mu id).2) = o:=by omega
   rw [he,(h.fz _ _ _ hv).1] at hcell
   rw [List.getElem?_eq_getElem hj,hcell]
  ·exact hv
 refine ⟨vs,h1,h2,hle,h.below,h.base,h.n,?_,?_,?_,?_,h.x.step hle rfl rfl rfl rfl (fun _ _ k _ => k) rfl fun b o _ p => ⟨p.here,fun q => ?_,fun i hi => p.obj i ?_⟩⟩
 ·intro i o hi
  rw [Mem.get_mark] at hi
  split at hi
  ·rename_i e; rw [e]; exact h.ids id _ k
  ·exact h.ids i o hi
 ·intro i cs' f' ver' hi
  rw [Mem.get_mark] at hi
  split at hi
  ·rename_i e
   subst e
   simp only [Option.some.injEq,AObj.cells.injEq] at hi
   obtain ⟨rfl,rfl,_⟩:=hi
   obtain ⟨hb,⟨pre,us,post,el,g2,g3,g4,g5,g7⟩,g6⟩:=h.objs i cs f ver k
   refine ⟨hb,⟨pre,us,post,el,g2,g3,g4.mono hle,g5,g7⟩,fun o v hv => ?_⟩
   simp only [G.freeze] at hv
   split at hv
   ·rename_i hc
    exact ⟨rfl,by simp only [G.freeze]; omega⟩
   ·exact ⟨rfl,(g6 o v hv).2⟩
  ·rename_i e
   refine ObjR.mono hle (h.ids i _ hi) (h.objs i cs' f' ver' hi) fun o v hv => ?_
   simp only [G.freeze] at hv
   split at hv
   ·rename_i hc
    exact absurd (h.inj i id (by rw [hi]; rfl) (by rw [k]; rfl) hc.1) e
   ·exact hv
 ·intro i j hi hj he
  refine h.inj i j ?_ ?_ he
  ·rw [Mem.get_mark] at hi; split at hi
   ·rename_i e; rw [e,k]; rfl
   ·exact hi
  ·rw [Mem.get_mark] at hj; split at hj
   ·rename_i e; rw [e,k]; rfl
   ·exact hj
 ·intro b o v hv
  simp only [G.freeze] at hv
  split at hv
  ·rename_i hc
   obtain ⟨rfl,hc1,hc2⟩:=hc
   have:=h3 _ _ hv
   rw [show (g.mu id).2 + (o - (g.mu id).2) = o by omega] at this
   exact ⟨this,fun hlt => absurd (h.objs _ _ _ _ k).1.1 (by omega)⟩
  ·exact h.fz b o v hv
 ·simp only [G.freeze]
  rw [if_neg (fun e => p.obj id (by rw [k]; rfl) e.1.symm)]
  exact p.fz q
 ·rw [Mem.get_mark] at hi
  split at hi
  ·rename_i e; rw [e,k]; rfl
  ·exact hi
theorem Aex {l:Nat} {o o':Obj} (hl:w.heap[l]? = some o) (hc:o.isCells = false) (b q:Nat) (v:Value) (h:w.cell? ⟨b,q,none⟩ = some v):(w.putObj l o').cell? ⟨b,q,none⟩ = some v:=by
 have hne:b ≠ l:=by
  rintro rfl
  unfold World.cell? at h
  simp only [hl] at h
  cases o <;> first | (cases hc; done) | cases h
 unfold World.cell? at h ⊢
 simp only at h ⊢
 rw [World.putObj_heap_other hne]
 exact h
theorem Af9 {id:Nat} {cs:List AV} {f:Bool} (k:ObjR B g id cs f w) {l:Nat} {o o':Obj} (hl:w.heap[l]? = some o) (hc:o.isCells = false):ObjR B g id cs f (w.putObj l o'):=by
 refine k.world (World.putObj_heap_other ?_)
 obtain ⟨_,⟨pre,vs,post,el,h2,_⟩,_⟩:=k
 rintro rfl
 rw [hl] at h2
 cases h2
 cases hc
theorem WR.setLoop (h:WR B W g m w) {id:Nat} {L:ALoop} (k:m.loop id = some L) (st:LoopState) (pend:Option Code):∃ r:Loop,w.heap[(g.mu id).1]? = some (.loop r) ∧ r.state = L.st ∧ r.pending = L.pend ∧ WR B W g (m.setLoop id st pend L.c) (w.putObj (g.mu id).1 (.loop { r with state:=st,pending:=pend })):=by
 obtain ⟨hid,hB',fn,tmps,df,h2,h3,h4⟩:=h.x.lids id L k
 have hB:=hB'.1
 refine ⟨_,h2,rfl,rfl,?_⟩
 have hlt:(g.mu id).1 < w.heap.size:=(Array.getElem?_eq_some_iff.1 h2).1
 have other:∀ b,b ≠ (g.mu id).1 → (w.putObj (g.mu id).1 (.loop ⟨st,pend,fn,tmps,L.c.ps,L.c.assign,L.c.body,df⟩)).heap[b]? = w.heap[b]?:=fun b hb => World.putObj_heap_other hb
 have gl:∀ i,(m.setLoop id st pend L.c).loop i = if i = id then some ⟨st,pend,L.c,m.clock + 1⟩ else m.loop i:=by intro i; simp [Mem.setLoop,Mem.loop]
 refine ⟨h.below.trans ⟨rfl,rfl,rfl,by simp,fun b hb => other b (by omega)⟩,by simp; exact h.base,h.n,h.ids,fun i cs f ver hi => Af9 (h.objs i cs f ver hi) h2 rfl,h.inj,fun b o v hv => ⟨Aex h2 rfl b o v (h.fz b o v hv).1,(h.fz b o v hv).2⟩,?_⟩
 refine ⟨fun i L' hi => ?_,fun i j hi hj he => ?_,fun i M hi => ?_,fun i j hi hj he => h.x.minj i j hi hj he,fun b hb => ?_,fun b hb => ?_,fun b o hb => have p:=h.x.pn b o hb; ⟨p.base,(other b (p.loop (m2:=m) h2)).trans p.here,p.kind,p.fz,p.obj,p.map⟩⟩
 ·rw [gl] at hi
  split at hi
  ·rename_i e
   subst e
   cases hi
   exact ⟨hid,hB',fn,tmps,df,World.putObj_heap_same hlt,h3,h4⟩
  ·rename_i e
   obtain ⟨a,b,fn',tmps',df',c,d⟩:=h.x.lids i L' hi
   refine ⟨a,b,fn',tmps',df',?_,d⟩
   rw [other _ fun e' => e (h.x.linj i id (by rw [hi]; rfl) (by rw [k]; rfl) e')]
   exact c
 ·refine h.x.linj i j ?_ ?_ he
  ·rw [gl] at hi; split at hi
   ·rename_i e; rw [e,k]; rfl
   ·exact hi
  ·rw [gl] at hj; split at hj
   ·rename_i e; rw [e,k]; rfl
   ·exact hj
 ·obtain ⟨a,b,es,c,d⟩:=h.x.mids i M hi
  refine ⟨a,b,es,?_,d⟩
  rw [other _ fun e => by rw [e,h2] at c; cases c]
  exact c
 ·obtain ⟨a,c⟩:=h.x.df b hb
  refine ⟨a,?_⟩
  rw [other _ fun e => by rw [e,h2] at c; cases c]
  exact c
 ·obtain ⟨r,c⟩:=h.x.lb b hb
  by_cases e:b = (g.mu id).1
  ·exact ⟨_,by rw [e]; exact World.putObj_heap_same hlt⟩
  ·exact ⟨r,by rw [other _ e]; exact c⟩
theorem WR.killLoop (h:WR B W g m w) (id:Nat):WR B W g (m.killLoop id) w:=by
 have gl:∀ i,(m.killLoop id).loop i = if i = id then none else m.loop i:=by intro i; simp [Mem.killLoop,Mem.loop]
 refine ⟨h.below,h.base,h.n,h.ids,h.objs,h.inj,h.fz,fun i L hi => ?_,fun i j hi hj he => ?_,h.x.mids,h.x.minj,h.x.df,h.x.lb,fun b o hb => have p:=h.x.pn b o hb; ⟨p.base,p.here,p.kind,p.fz,p.obj,p.map⟩⟩
 ·rw [gl] at hi
  split at hi
  ·cases hi
  ·exact h.x.lids i L hi
 ·rw [gl] at hi hj
  refine h.x.linj i j ?_ ?_ he
  ·split at hi
   ·cases hi
   ·exact hi
  ·split at hj
   ·cases hj
   ·exact hj
def G.newLoop (g:G) (b:Nat) (d:Option Nat):G:={ g.new b 0 0 0 with df:=fun i => if some i = d then true else g.df i,lb:=fun i => if i = b then true else g.lb i }
theorem G.le_newLoop (g:G) (b:Nat) (d:Option Nat):g.le (g.newLoop b d) :=
 ⟨Nat.le_succ _,fun id hi => by simp [G.newLoop,G.new,Nat.ne_of_lt hi],fun id hi => by simp [G.newLoop,G.new,Nat.ne_of_lt hi],fun id hi => by simp [G.newLoop,G.new,Nat.ne_of_lt hi],fun _ _ _ h => h,fun b' h => by simp [G.newLoop,h],fun b' h => by simp [G.newLoop,h],fun _ _ h => h⟩
theorem WR.newLoop (h:WR B W g m w) {c:LCode} {tmps:Array Value} (hN:tmps.size = c.N) (hr:∀ t,Rel g (c.s.at t) (tmps.getD t undef)) (fn:FuncId) (df:Nat) {w1:World} (d:Option Nat) (hw:w1 = w ∧ d = none ∨ w1 = w.alloc (.deferred (some [])) ∧ d = some w.heap.size) :
  WR B W (g.newLoop w1.heap.size d) (m.newLoop c) (w1.alloc (.loop ⟨.ready,none,fn,tmps,c.ps,c.assign,c.body,df⟩)):=by
 have hle:=G.le_newLoop g w1.heap.size d
 have hsz:w.heap.size ≤ w1.heap.size:=by rcases hw with ⟨rfl,_⟩ | ⟨rfl,_⟩ <;> simp
 have hold1:∀ (b:Nat),b < w.heap.size → w1.heap[b]? = w.heap[b]?:=by
  intro b hb
  rcases hw with ⟨rfl,_⟩ | ⟨rfl,_⟩
  ·rfl
  ·show (w.heap.push _)[b]? = _
   rw [Array.getElem?_push,if_neg (by omega)]
 have hold:∀ (b:Nat),b < w.heap.size → (w1.alloc (.loop ⟨.ready,none,fn,tmps,c.ps,c.assign,c.body,df⟩)).heap[b]? = w.heap[b]?:=by
  intro b hb
  show (w1.heap.push _)[b]? = _
  rw [Array.getElem?_push,if_neg (by omega)]
  exact hold1 b hb
 have hnew:(w1.alloc (.loop ⟨.ready,none,fn,tmps,c.ps,c.assign,c.body,df⟩)).heap[w1.heap.size]? = some (.loop ⟨.ready,none,fn,tmps,c.ps,c.assign,c.body,df⟩):=World.alloc_heap_new _ _
 have hmu:(g.newLoop w1.heap.size d).mu g.n = (w1.heap.size,0):=by simp [G.newLoop,G.new]
 have lt:∀ {b:Nat} {o:Obj},w.heap[b]? = some o → b < w.heap.size:=fun h => (Array.getElem?_eq_some_iff.1 h).1
 have keep:∀ (b:Nat) (o:Obj),w.heap[b]? = some o → (w1.alloc (.loop ⟨.ready,none,fn,tmps,c.ps,c.assign,c.body,df⟩)).heap[b]? = some o:=fun b o ho => (hold b (lt ho)).trans ho
 have gl:∀ i,(m.newLoop c).loop i = if i = g.n then some ⟨.ready,none,c,m.clock + 1⟩ else m.loop i:=by intro i; simp [Mem.newLoop,Mem.loop,h.n]
 have hB:B ≤ w.heap.size:=h.base
 refine ⟨?_,by simp; omega,by simp [G.newLoop,G.new,Mem.newLoop,h.n],?_,?_,?_,?_,?_⟩
 ·rcases hw with ⟨rfl,_⟩ | ⟨rfl,_⟩
  ·exact h.below.alloc h.base _
  ·exact (h.below.alloc h.base _).alloc (by simp; omega) _
 ·intro id o hid
  have:=h.ids id o hid
  show id < g.n + 1
  omega
 ·intro id cs f ver hid
  refine ObjR.world (w:=w) (ObjR.mono hle (h.ids id _ hid) (h.objs id cs f ver hid) fun _ _ hv => hv) ?_
  rw [hle.mu id (h.ids id _ hid)]
  exact hold _ (h.block_lt hid)
 ·intro i j hi hj he
  obtain ⟨o,ho⟩:=Option.isSome_iff_exists.1 hi
  obtain ⟨o',ho'⟩:=Option.isSome_iff_exists.1 hj
  rw [hle.mu i (h.ids i o ho),hle.mu j (h.ids j o' ho')] at he
  exact h.inj i j hi hj he
 ·intro b o v hv
  refine ⟨?_,(h.fz b o v hv).2⟩
  have h1:=(h.fz b o v hv).1
  have h2:=Ad1 h1
  unfold World.cell? at h1 ⊢
  simp only at h1 h2 ⊢
  rw [hold b h2]
  exact h1
 ·refine ⟨fun i L hi => ?_,fun i j hi hj he => ?_,fun i M hi => ?_,fun i j hi hj he => ?_,fun b hb => ?_,fun b hb => ?_,fun b o hb => ?_⟩
  rotate_right
  ·have p:=h.x.pn b o hb
   refine ⟨p.base,keep _ _ p.here,p.kind,p.fz,fun id hi => ?_,fun id hi => ?_⟩
   ·obtain ⟨o',ho'⟩:=Option.isSome_iff_exists.1 hi
    rw [hle.mu id (h.ids id o' ho')]
    exact p.obj id hi
   ·obtain ⟨M,hM⟩:=Option.isSome_iff_exists.1 hi
    rw [hle.mu id (h.x.mids id M hM).1]
    exact p.map id hi
  ·rw [gl] at hi
   split at hi
   ·rename_i e
    subst e
    cases hi
    refine ⟨Nat.lt_succ_self _,?_⟩
    unfold LoopR
    rw [hmu]
    exact ⟨⟨by show B ≤ w1.heap.size; omega,by simp [G.newLoop]⟩,fn,tmps,df,hnew,hN,fun t => (hr t).mono hle _ _⟩
   ·obtain ⟨a,k⟩:=h.x.lids i L hi
    refine ⟨Nat.lt_succ_of_lt a,?_⟩
    obtain ⟨k1,fn',tmps',df',k2,k3⟩:=LoopR.mono hle a k
    refine ⟨k1,fn',tmps',df',?_,k3⟩
    exact keep _ _ k2
  ·rw [gl] at hi hj
   by_cases ei:i = g.n <;> by_cases ej:j = g.n
   ·rw [ei,ej]
   ·simp only [ej,if_false] at hj
    obtain ⟨L,hL⟩:=Option.isSome_iff_exists.1 hj
    obtain ⟨a,_,_,_,_,k,_⟩:=h.x.lids j L hL
    rw [ei,hmu,hle.mu j a] at he
    have:=lt k
    simp at he; omega
   ·simp only [ei,if_false] at hi
    obtain ⟨L,hL⟩:=Option.isSome_iff_exists.1 hi
    obtain ⟨a,_,_,_,_,k,_⟩:=h.x.lids i L hL
    rw [ej,hmu,hle.mu i a] at he
    have:=lt k
    simp at he; omega
   ·simp only [ei,ej,if_false] at hi hj
    obtain ⟨L,hL⟩:=Option.isSome_iff_exists.1 hi
    obtain ⟨L',hL'⟩:=Option.isSome_iff_exists.1 hj
    rw [hle.mu i (h.x.lids i L hL).1,hle.mu j (h.x.lids j L' hL').1] at he
    exact h.x.linj i j hi hj he
  ·obtain ⟨a,k⟩:=h.x.mids i M hi
   refine ⟨Nat.lt_succ_of_lt a,?_⟩
   obtain ⟨k1,es,k2,k3⟩:=MapR.mono hle a k
   exact ⟨k1,es,keep _ _ k2,k3⟩
  ·obtain ⟨L,hL⟩:=Option.isSome_iff_exists.1 hi
   obtain ⟨L',hL'⟩:=Option.isSome_iff_exists.1 hj
   rw [hle.mu i (h.x.mids i L hL).1,hle.mu j (h.x.mids j L' hL').1] at he
   exact h.x.minj i j hi hj he
  ·simp only [G.newLoop] at hb
   split at hb
   ·rename_i e
    rcases hw with ⟨_,rfl⟩ | ⟨rfl,rfl⟩
    ·cases e
    ·cases e
     refine ⟨hB,?_⟩
     show ((w.heap.push _).push _)[w.heap.size]? = _
     rw [Array.getElem?_push,if_neg (by simp)]
     simp
   ·obtain ⟨a,k⟩:=h.x.df b hb
    exact ⟨a,keep _ _ k⟩
  ·simp only [G.newLoop] at hb
   split at hb
   ·rename_i e; exact ⟨_,by rw [e]; exact hnew⟩
   ·obtain ⟨r,k⟩:=h.x.lb b hb
    exact ⟨r,keep _ _ k⟩
def G.wdf (g:G) (d:Nat → Bool):G:={ g with df:=d }
theorem G.lee_wdf (g:G) (d:Nat → Bool):g.lee (g.wdf d):=⟨Nat.le_refl _,fun _ _ => rfl,fun _ _ => rfl,fun _ _ => rfl,fun _ _ _ h => h⟩
theorem WR.shut (h:WR B W g m w) {r:Nat} (hr:g.df r = true) (o':Obj):WR B W (g.wdf fun b => g.df b && b != r) m (w.putObj r o'):=by
 obtain ⟨hB,h2⟩:=h.x.df r hr
 have other:∀ b,b ≠ r → (w.putObj r o').heap[b]? = w.heap[b]?:=fun b hb => World.putObj_heap_other hb
 have e:=G.lee_wdf g fun b => g.df b && b != r
 refine ⟨h.below.trans ⟨rfl,rfl,rfl,by simp,fun b hb => other b (by omega)⟩,by simp; exact h.base,h.n,h.ids,fun i cs f ver hi => ?_,h.inj,fun b o v hv => ⟨Aex h2 rfl b o v (h.fz b o v hv).1,(h.fz b o v hv).2⟩,?_⟩
 ·obtain ⟨a1,⟨pre,vs,post,el,a2,a3,a4,a5⟩,a6⟩:=Af9 (o':=o') (h.objs i cs f ver hi) h2 rfl
  exact ⟨a1,⟨pre,vs,post,el,a2,a3,a4.monoE e,a5⟩,a6⟩
 ·refine ⟨fun i L hi => ?_,h.x.linj,fun i M hi => ?_,h.x.minj,fun b hb => ?_,fun b hb => ?_,fun b o hb => have p:=h.x.pn b o hb; ⟨p.base,(other b (p.dfr h2)).trans p.here,p.kind,p.fz,p.obj,p.map⟩⟩
  ·obtain ⟨a,b,fn,tmps,df,c,d,k⟩:=h.x.lids i L hi
   refine ⟨a,b,fn,tmps,df,?_,d,fun t => (k t).monoE e _ _⟩
   rw [show ((g.wdf fun b => g.df b && b != r).mu i).1 = (g.mu i).1 from rfl,other _ fun e => by rw [e,h2] at c; cases c]
   exact c
  ·obtain ⟨a,b,es,c,d⟩:=h.x.mids i M hi
   refine ⟨a,b,es,?_,d.monoE e⟩
   rw [show ((g.wdf fun b => g.df b && b != r).mu i).1 = (g.mu i).1 from rfl,other _ fun e => by rw [e,h2] at c; cases c]
   exact c
  ·simp only [G.wdf,Bool.and_eq_true,bne_iff_ne] at hb
   obtain ⟨a,c⟩:=h.x.df b hb.1
   exact ⟨a,by rw [other b hb.2]; exact c⟩
  ·obtain ⟨q,c⟩:=h.x.lb b hb
   exact ⟨q,by rw [other _ fun e => by rw [e,h2] at c; cases c]; exact c⟩
theorem Anz (g:G) (b:Nat) (d:Option Nat):Rel (g.newLoop b d) (.yl g.n) (.func (.yield b) #[] #[]):=by
 simp [Rel,G.newLoop,G.new]
theorem WR.newMap (h:WR B W g m w):WR B W (g.new w.heap.size 0 0 0) m.newMap (w.alloc (.map #[] 0)):=by
 have hle:=G.le_new g w.heap.size 0 0 0
 have lt:∀ {b:Nat} {o:Obj},w.heap[b]? = some o → b < w.heap.size:=fun h => (Array.getElem?_eq_some_iff.1 h).1
 have hold:∀ (b:Nat),b < w.heap.size → (w.alloc (.map #[] 0)).heap[b]? = w.heap[b]?:=by
  intro b hb
  show (w.heap.push _)[b]? = _
  rw [Array.getElem?_push,if_neg (by omega)]
 have keep:∀ (b:Nat) (o:Obj),w.heap[b]? = some o → (w.alloc (.map #[] 0)).heap[b]? = some o:=fun b o ho => (hold b (lt ho)).trans ho
 have hmu:(g.new w.heap.size 0 0 0).mu g.n = (w.heap.size,0):=by simp [G.new]
 have gl:∀ i,m.newMap.map i = if i = g.n then some ⟨[],0,m.clock + 1⟩ else m.map i:=by intro i; simp [Mem.newMap,Mem.map,h.n]
 refine ⟨h.below.alloc h.base _,by simp; exact Nat.le_succ_of_le h.base,by simp [G.new,Mem.newMap,h.n],?_,?_,?_,?_,?_⟩
 ·intro id o hid
  have:=h.ids id o hid
  show id < g.n + 1
  omega
 ·intro id cs f ver hid
  refine ObjR.world (w:=w) (ObjR.mono hle (h.ids id _ hid) (h.objs id cs f ver hid) fun _ _ hv => hv) ?_
  rw [hle.mu id (h.ids id _ hid)]
  exact hold _ (h.block_lt hid)
 ·intro i j hi hj he
  obtain ⟨o,ho⟩:=Option.isSome_iff_exists.1 hi
  obtain ⟨o',ho'⟩:=Option.isSome_iff_exists.1 hj
  rw [hle.mu i (h.ids i o ho),hle.mu j (h.ids j o' ho')] at he
  exact h.inj i j hi hj he
 ·intro b o v hv
  refine ⟨?_,(h.fz b o v hv).2⟩
  rw [World.cell?_alloc_lt _ _ _ (Ad1 (h.fz b o v hv).1)]
  exact (h.fz b o v hv).1
 ·refine ⟨fun i L hi => ?_,fun i j hi hj he => ?_,fun i M hi => ?_,fun i j hi hj he => ?_,fun b hb => ?_,fun b hb => ?_,fun b o hb => ?_⟩
  rotate_right
  ·have p:=h.x.pn b o hb
   refine ⟨p.base,keep _ _ p.here,p.kind,p.fz,fun id hi => ?_,fun id hi => ?_⟩
   ·obtain ⟨o',ho'⟩:=Option.isSome_iff_exists.1 hi
    rw [hle.mu id (h.ids id o' ho')]
    exact p.obj id hi
   ·rw [gl] at hi
    split at hi
    ·rename_i e
     rw [e,hmu]
     have:=lt p.here
     simp only
     omega
    ·obtain ⟨M,hM⟩:=Option.isSome_iff_exists.1 hi
     rw [hle.mu id (h.x.mids id M hM).1]
     exact p.map id hi
  ·obtain ⟨a,k⟩:=h.x.lids i L hi
   refine ⟨Nat.lt_succ_of_lt a,?_⟩
   obtain ⟨k1,fn',tmps',df',k2,k3⟩:=LoopR.mono hle a k
   exact ⟨k1,fn',tmps',df',keep _ _ k2,k3⟩
  ·obtain ⟨L,hL⟩:=Option.isSome_iff_exists.1 hi
   obtain ⟨L',hL'⟩:=Option.isSome_iff_exists.1 hj
   rw [hle.mu i (h.x.lids i L hL).1,hle.mu j (h.x.lids j L' hL').1] at he
   exact h.x.linj i j hi hj he
  ·rw [gl] at hi
   split at hi
   ·rename_i e
    subst e
    cases hi
    refine ⟨Nat.lt_succ_self _,?_⟩
    unfold MapR
    rw [hmu]
    exact ⟨h.base,[],World.alloc_heap_new _ _,rfl⟩
   ·obtain ⟨a,k⟩:=h.x.mids i M hi
    refine ⟨Nat.lt_succ_of_lt a,?_⟩
    obtain ⟨k1,es,k2,k3⟩:=MapR.mono hle a k
    exact ⟨k1,es,keep _ _ k2,k3⟩
  ·rw [gl] at hi hj
   by_cases ei:i = g.n <;> by_cases ej:j = g.n
   ·rw [ei,ej]
   ·simp only [ej,if_false] at hj
    obtain ⟨L,hL⟩:=Option.isSome_iff_exists.1 hj
    obtain ⟨a,_,_,k,_⟩:=h.x.mids j L hL
    rw [ei,hmu,hle.mu j a] at he
    have:=lt k
    simp at he; omega
   ·simp only [ei,if_false] at hi
    obtain ⟨L,hL⟩:=Option.isSome_iff_exists.1 hi
    obtain ⟨a,_,_,k,_⟩:=h.x.mids i L hL
    rw [ej,hmu,hle.mu i a] at he
    have:=lt k
    simp at he; omega
   ·simp only [ei,ej,if_false] at hi hj
    obtain ⟨L,hL⟩:=Option.isSome_iff_exists.1 hi
    obtain ⟨L',hL'⟩:=Option.isSome_iff_exists.1 hj
    rw [hle.mu i (h.x.mids i L hL).1,hle.mu j (h.x.mids j L' hL').1] at he
    exact h.x.minj i j hi hj he
  ·obtain ⟨a,k⟩:=h.x.df b hb
   exact ⟨a,keep _ _ k⟩
  ·obtain ⟨r,k⟩:=h.x.lb b hb
   exact ⟨r,keep _ _ k⟩
theorem Af5 (g:G) (b:Nat):Rel (g.new b 0 0 0) (.mp g.n) (.map (some b)):=by
 simp [Rel,G.new]
theorem WR.setMap (h:WR B W g m w) {id:Nat} {M:AMap} (k:m.map id = some M) {l:List (Value × AV × Nat)} {es:List MapEntry} (he:Ents g l es) (ck:Nat):WR B W g (m.setMap id l ck) (w.putObj (g.mu id).1 (.map es.toArray ck)):=by
 obtain ⟨hid,hB,es0,h2,h3⟩:=h.x.mids id M k
 have hlt:(g.mu id).1 < w.heap.size:=(Array.getElem?_eq_some_iff.1 h2).1
 have other:∀ b,b ≠ (g.mu id).1 → (w.putObj (g.mu id).1 (.map es.toArray ck)).heap[b]? = w.heap[b]?:=fun b hb => World.putObj_heap_other hb
 have gl:∀ i,(m.setMap id l ck).map i = if i = id then some ⟨l,ck,m.clock + 1⟩ else m.map i:=by intro i; simp [Mem.setMap,Mem.map]
 refine ⟨h.below.trans ⟨rfl,rfl,rfl,by simp,fun b hb => other b (by omega)⟩,by simp; exact h.base,h.n,h.ids,fun i cs f ver hi => Af9 (h.objs i cs f ver hi) h2 rfl,h.inj,fun b o v hv => ⟨Aex h2 rfl b o v (h.fz b o v hv).1,(h.fz b o v hv).2⟩,?_⟩
 refine ⟨fun i L' hi => ?_,fun i j hi hj he => h.x.linj i j hi hj he,fun i M' hi => ?_,fun i j hi hj he => ?_,fun b hb => ?_,fun b hb => ?_,fun b o hb => have p:=h.x.pn b o hb; ⟨p.base,(other b fun e => p.map id (by rw [k]; rfl) e.symm).trans p.here,p.kind,p.fz,p.obj,fun i hi => p.map i (by
  rw [gl] at hi
  split at hi
  ·rename_i e; rw [e,k]; rfl
  ·exact hi)⟩⟩
 ·obtain ⟨a,b,fn',tmps',df',c,d⟩:=h.x.lids i L' hi
  refine ⟨a,b,fn',tmps',df',?_,d⟩
  rw [other _ fun e => by rw [e,h2] at c; cases c]
  exact c
 ·rw [gl] at hi
  split at hi
  ·rename_i e
   subst e
   cases hi
   exact ⟨hid,hB,es,World.putObj_heap_same hlt,he⟩
  ·rename_i e
   obtain ⟨a,b,es',c,d⟩:=h.x.mids i M' hi
   refine ⟨a,b,es',?_,d⟩
   rw [other _ fun e' => e (h.x.minj i id (by rw [hi]; rfl) (by rw [k]; rfl) e')]
   exact c
 ·refine h.x.minj i j ?_ ?_ he
  ·rw [gl] at hi; split at hi
   ·rename_i e; rw [e,k]; rfl
   ·exact hi
  ·rw [gl] at hj; split at hj
   ·rename_i e; rw [e,k]; rfl
   ·exact hj
 ·obtain ⟨a,c⟩:=h.x.df b hb
  refine ⟨a,?_⟩
  rw [other _ fun e => by rw [e,h2] at c; cases c]
  exact c
 ·obtain ⟨r,c⟩:=h.x.lb b hb
  exact ⟨r,by rw [other _ fun e => by rw [e,h2] at c; cases c]; exact c⟩
theorem WR.kill (h:WR B W g m w) (id:Nat):WR B W g (m.kill id) w:=by
 refine ⟨h.below,h.base,h.n,?_,?_,?_,h.fz,h.x.step (.refl g) rfl rfl rfl rfl (fun _ _ k _ => k) rfl fun _ _ _ k => k.same fun i hi => (by
  rw [Mem.get_kill] at hi
  split at hi
  ·cases hi
  ·exact hi)⟩
 ·intro i o hi; rw [Mem.get_kill] at hi; split at hi
  ·cases hi
  ·exact h.ids i o hi
 ·intro i cs f ver hi; rw [Mem.get_kill] at hi; split at hi
  ·cases hi
  ·exact h.objs i cs f ver hi
 ·intro i j hi hj he
  rw [Mem.get_kill] at hi hj
  refine h.inj i j ?_ ?_ he
  ·split at hi
   ·cases hi
   ·exact hi
  ·split at hj
   ·cases hj
   ·exact hj
variable {B:Bs} {W:World} {g:G} {m:Mem} {w:World}
def vchunk (k:Nat) (ag:Bool):Nat → List Value → List Value
 | 0,_ => []
 | n + 1,us => (if ag then .agg (us.take k).toArray else us.headD undef) :: vchunk k ag n (us.drop k)
theorem Acu (k:Nat) (ag:Bool):∀ (n:Nat) (cs:List AV),(chunk k ag n cs).length = n
 | 0,_ => rfl
 | n + 1,cs => by simp [chunk,Acu k ag n]
theorem Af4 (k:Nat) (ag:Bool) (hk:(ag || k == 1) = true):∀ (n:Nat) (cs:List AV) (us:List Value),Rels g cs us → (∀ u ∈ us,u.oneCell' = true) → n * k ≤ cs.length →
  Rels g (chunk k ag n cs) (vchunk k ag n us)
 | 0,cs,us,h,ho,hl => .nil
 | n + 1,cs,us,h,ho,hl => by
  have hl':n * k + k ≤ cs.length:=by rw [Nat.succ_mul] at hl; exact hl
  refine .cons ?_ (Af4 k ag hk n (cs.drop k) (us.drop k) (h.drop k) (fun u hu => ho u (List.mem_of_mem_drop hu)) (by simp; omega))
  cases ag with
  | true =>
   simp only [if_true]
   exact ⟨us.take k,rfl,h.take k,fun u hu => ho u (List.mem_of_mem_take hu)⟩
  | false =>
   simp at hk
   subst hk
   match cs,us,h with
   | [],us,h => simp at hl'
   | x :: cs,us,h =>
    simp only [Rels] at h
    obtain ⟨v,rest,rfl,h1,_⟩:=h
    exact h1
theorem Afx (k:Nat) (ag:Bool) (hk:(ag || k == 1) = true):∀ (n:Nat) (us:List Value),(∀ u ∈ us,u.oneCell' = true) → n * k ≤ us.length → ∀ i u,(vchunk k ag n us)[i]? = some u →
  u.cells.size = k ∧ ∀ j c,u.cells[j]? = some c → us[i * k + j]? = some c
 | 0,us,ho,hl,i,u,h => by simp [vchunk] at h
 | n + 1,us,ho,hl,i,u,h => by
  have hl':n * k + k ≤ us.length:=by rw [Nat.succ_mul] at hl; exact hl
  cases i with
  | zero =>
   simp only [vchunk,List.getElem?_cons_zero,Option.some.injEq] at h
   cases ag with
   | true =>
    simp only [if_true] at h
    subst h
    refine ⟨by simp [Value.cells]; omega,fun j c hc => ?_⟩
    simp only [Value.cells,List.getElem?_toArray,List.getElem?_take] at hc
    split at hc
    ·simpa using hc
    ·cases hc
   | false =>
    simp at hk
    subst hk
    match us,ho,hl' with
    | [],_,hl' => simp at hl'
    | x :: us,ho,_ =>
     simp at h
     subst h
     have hx:=ho x (by simp)
     have hcx:x.cells = #[x]:=by cases x <;> first | rfl | simp [Value.oneCell'] at hx
     rw [hcx]
     refine ⟨rfl,fun j c hc => ?_⟩
     cases j with
     | zero => simpa using hc
     | succ j => simp at hc
  | succ i =>
   simp only [vchunk,List.getElem?_cons_succ] at h
   obtain ⟨h1,h2⟩:=Afx k ag hk n (us.drop k) (fun u hu => ho u (List.mem_of_mem_drop hu)) (by simp; omega) i u h
   refine ⟨h1,fun j c hc => ?_⟩
   have:=h2 j c hc
   rw [List.getElem?_drop] at this
   rw [← this]
   congr 1
   rw [Nat.succ_mul]
   omega
theorem Amx (h:WR B W g m w) {x:AV} {v:Value} (k:Rel g x v):∃ g',g.le g' ∧ WR B W g' (fz1 m x).2 w ∧ Rel g' (fz1 m x).1 v:=by
 have same:∃ g',g.le g' ∧ WR B W g' m w ∧ Rel g' x v:=⟨g,.refl g,h,k⟩
 cases x with
 | sl id off len kk ag cap =>
  simp only [fz1]
  split
  ·rename_i cs f ver hg
   split
   ·rename_i hc
    obtain ⟨hlen,hk⟩:=hc
    obtain ⟨vs,h1,h2,h3,h4⟩:=h.mark hg
    refine ⟨_,h3,h4,?_⟩
    have k':=k
    simp only [Rel] at k
    obtain ⟨hid,a,c,rfl,hlc,ha,_,_⟩:=k
    have hvl:=h1.length
    have hd:=(h1.mono h3).drop off
    have hlen2:len * kk ≤ (vs.drop off).length:=by simp; omega
    refine ⟨some a,c,vchunk kk ag len (vs.drop off),kk,by rw [Acu],?_,⟨by rw [Acu]; exact hlc,fun e => by cases e⟩,?_⟩
    ·exact Af4 kk ag hk len _ _ hd (fun u hu => h2 u (List.mem_of_mem_drop hu)) (by simp; omega)
    ·intro i u hu
     obtain ⟨g1,g2⟩:=Afx kk ag hk len (vs.drop off) (fun u hu => h2 u (List.mem_of_mem_drop hu)) hlen2 i u hu
     have hlen0:0 < len:=by
      rcases Nat.eq_zero_or_pos len with e | e
      ·subst e; simp [vchunk] at hu
      ·exact e
     obtain ⟨ea,_⟩:=ha (by omega)
     refine ⟨g1,_,_,by rw [ea],fun j c' hc' => ?_⟩
     have:=g2 j c' hc'
     rw [List.getElem?_drop] at this
     have hlt:off + (i * kk + j) < vs.length:=by
      rcases Nat.lt_or_ge (off + (i * kk + j)) vs.length with h' | h'
      ·exact h'
      ·rw [List.getElem?_eq_none h'] at this; cases this
     simp only [G.freeze]
     rw [if_pos (by simp; omega)]
     rw [← this]
     congr 1
     omega
   ·exact same
  ·exact same
 | emp n =>
  simp only [fz1]
  refine ⟨g,.refl g,h,?_⟩
  match n,k with
  | 0,k => simp only [Rel] at k; subst k; exact ⟨none,0,[],0,rfl,.nil,⟨Nat.le_refl _,fun _ => rfl⟩,by simp⟩
  | 1,k => simp only [Rel] at k; obtain ⟨a,rfl⟩:=k; exact ⟨a,0,[],0,rfl,.nil,⟨Nat.le_refl _,fun _ => rfl⟩,by simp⟩
  | 2,k => simp only [Rel] at k; obtain ⟨a,c,rfl⟩:=k; exact ⟨some a,c,[],0,rfl,.nil,⟨Nat.zero_le _,fun e => by cases e⟩,by simp⟩
  | n + 3,k => exact k.elim
 | _ => exact same
theorem Amv:∀ (xs:List AV) {g:G} {m:Mem} (_:WR B W g m w) {vs:List Value} (_:Rels g xs vs),∃ g',g.le g' ∧ WR B W g' (fzs m xs).2 w ∧ Rels g' (fzs m xs).1 vs
 | [],g,m,h,vs,k => ⟨g,.refl g,h,k⟩
 | x :: xs,g,m,h,vs,k => by
  simp only [Rels] at k
  obtain ⟨v,rest,rfl,h1,h2⟩:=k
  obtain ⟨g1,l1,w1,r1⟩:=Amx h h1
  obtain ⟨g2,l2,w2,r2⟩:=Amv xs w1 (h2.mono l1)
  exact ⟨g2,l1.trans l2,w2,.cons (r1.mono l2) r2⟩
theorem Amt (h:WR B W g m w) {x:AV} {v:Value} (k:Rel g x v):∃ g',g.le g' ∧ WR B W g' (fzv m x).2 w ∧ Rel g' (fzv m x).1 v:=by
 cases x with
 | agg cs =>
  simp only [Rel] at k
  obtain ⟨vs,rfl,h1,h2⟩:=k
  obtain ⟨g1,l1,w1,r1⟩:=Amv cs h h1
  exact ⟨g1,l1,w1,vs,rfl,r1,h2⟩
 | _ => exact Amx h k
theorem Abn:∀ (xs:List AV) {g:G} {m:Mem} (_:WR B W g m w) {vs:List Value} (_:Rels g xs vs),∃ g',g.le g' ∧ WR B W g' (fzvs m xs).2 w ∧ Rels g' (fzvs m xs).1 vs
 | [],g,m,h,vs,k => ⟨g,.refl g,h,k⟩
 | x :: xs,g,m,h,vs,k => by
  simp only [Rels] at k
  obtain ⟨v,rest,rfl,h1,h2⟩:=k
  obtain ⟨g1,l1,w1,r1⟩:=Amt h h1
  obtain ⟨g2,l2,w2,r2⟩:=Abn xs w1 (h2.mono l1)
  exact ⟨g2,l1.trans l2,w2,.cons (r1.mono l2) r2⟩
theorem Amw (h:WR B W g m w) {x:AV} {v:Value} (k:Rel g x v):∃ g',g.le g' ∧ WR B W g' (fzr m x).2 w ∧ Rel g' (fzr m x).1 v:=by
 cases x with
 | tup cs =>
  simp only [Rel] at k
  obtain ⟨vs,rfl,h1⟩:=k
  obtain ⟨g1,l1,w1,r1⟩:=Abn cs h h1
  exact ⟨g1,l1,w1,vs,rfl,r1⟩
 | _ => exact Amt h k
def vflat (us:List Value):List Value:=us.flatMap fun u => u.cells.toList
theorem Abs:∀ {xs:List AV} {us:List Value},Rels g xs us → Rels g (flat xs) (vflat us)
 | [],us,h => by simp only [Rels] at h; subst h; exact .nil
 | x :: xs,us,h => by
  simp only [Rels] at h
  obtain ⟨v,rest,rfl,h1,h2⟩:=h
  exact h1.cells.append (Abs h2)
theorem Ab3 (k:Nat):∀ (us:List Value),(∀ u ∈ us,u.cells.size = k) → (vflat us).length = us.length * k
 | [],_ => by simp [vflat]
 | u :: us,h => by
  have ih:=Ab3 k us fun u hu => h u (by simp [hu])
  have h1:=h u (by simp)
  simp only [vflat,List.flatMap_cons,List.length_append,Array.length_toList,List.length_cons] at ih ⊢
  rw [ih,h1,Nat.succ_mul]
  omega
theorem Alm (k:Nat) (hk:0 < k):∀ (us:List Value),(∀ u ∈ us,u.cells.size = k) → ∀ j c,(vflat us)[j]? = some c → ∃ u,us[j / k]? = some u ∧ u.cells[j % k]? = some c
 | [],_,j,c,h => by simp [vflat] at h
 | u :: us,hu,j,c,h => by
  have h1:=hu u (by simp)
  simp only [vflat,List.flatMap_cons] at h
  by_cases hj:j < k
  ·rw [List.getElem?_append_left (by simp; omega)] at h
   refine ⟨u,?_,?_⟩
   ·rw [Nat.div_eq_of_lt hj]; rfl
   ·rw [Nat.mod_eq_of_lt hj]; simpa using h
  ·rw [List.getElem?_append_right (by simp; omega)] at h
   have hlen:u.cells.toList.length = k:=by simpa using h1
   rw [hlen] at h
   obtain ⟨u',h2,h3⟩:=Alm k hk us (fun x hx => hu x (by simp [hx])) (j - k) c h
   refine ⟨u',?_,?_⟩
   ·rw [← h2]
    have:j / k = (j - k) / k + 1:=by
     rw [← Nat.sub_add_cancel (Nat.le_of_not_lt hj),Nat.add_div_right _ hk]
     simp
    rw [this]
    rfl
   ·rw [← h3]
    congr 1
    rw [← Nat.sub_add_cancel (Nat.le_of_not_lt hj),Nat.add_mod_right]
    simp
theorem Afm (h:WR B W g m w) {x:AV} {v:Value} (k:Rel g x v) {ys:List AV} (he:elemsOf m x = some ys) :
  ∃ a c us,v = .slice a ys.length c ∧ Rels g ys us ∧ ∃ kk,∀ i u,us[i]? = some u → u.cells.size = kk ∧ ∃ b o,a = some ⟨b,o,none⟩ ∧ ∀ j c',u.cells[j]? = some c' → w.cell? ⟨b,o + i * kk + j,none⟩ = some c':=by
 cases x with
 | emp n =>
  simp only [elemsOf,Option.some.injEq] at he
  subst he
  match n,k with
  | 0,k => simp only [Rel] at k; subst k; exact ⟨none,0,[],rfl,.nil,0,by simp⟩
  | 1,k => simp only [Rel] at k; obtain ⟨a,rfl⟩:=k; exact ⟨a,0,[],rfl,.nil,0,by simp⟩
  | 2,k => simp only [Rel] at k; obtain ⟨a,c,rfl⟩:=k; exact ⟨some a,c,[],rfl,.nil,0,by simp⟩
  | n + 3,k => exact k.elim
 | lst xs =>
  simp only [elemsOf,Option.some.injEq] at he
  subst he
  simp only [Rel] at k
  obtain ⟨a,c,vs,q,rfl,h1,_,h2⟩:=k
  refine ⟨a,c,vs,rfl,h1,q,fun i u hu => ?_⟩
  obtain ⟨h3,b,o,h4,h5⟩:=h2 i u hu
  exact ⟨h3,b,o,h4,fun j c' hc' => (h.fz _ _ _ (h5 j c' hc')).1⟩
 | sl id off len kk ag cap =>
  simp only [elemsOf] at he
  split at he
  ·rename_i cs f ver hg
   split at he
   ·rename_i hc
    obtain ⟨hlen,hk⟩:=hc
    simp only [Option.some.injEq] at he
    subst he
    obtain ⟨vs,h1,h2,h3⟩:=h.cells hg
    simp only [Rel] at k
    obtain ⟨hid,a,c,rfl,hlc,ha,_,_⟩:=k
    have hvl:=h1.length
    refine ⟨some a,c,vchunk kk ag len (vs.drop off),by rw [Acu],Af4 kk ag hk len _ _ (h1.drop off) (fun u hu => h2 u (List.mem_of_mem_drop hu)) (by simp; omega),kk,fun i u hu => ?_⟩
    obtain ⟨g1,g2⟩:=Afx kk ag hk len (vs.drop off) (fun u hu => h2 u (List.mem_of_mem_drop hu)) (by simp; omega) i u hu
    have hlen0:0 < len:=by
     rcases Nat.eq_zero_or_pos len with e | e
     ·subst e; simp [vchunk] at hu
     ·exact e
    obtain ⟨ea,_⟩:=ha (by omega)
    refine ⟨g1,_,_,by rw [ea],fun j c' hc' => ?_⟩
    have:=g2 j c' hc'
    rw [List.getElem?_drop] at this
    have:=h3 _ _ this
    rw [← this]
    congr 2
    omega
   ·cases he
  ·cases he
 | _ => simp [elemsOf] at he
theorem Aes (P:Program) (h:WR B W g m w) {x:AV} {v:Value} (k:Rel g x v) {ys:List AV} (he:srcOf m x = some ys) :
  ∃ us,Rels g ys us ∧ (Builtin.lenOf v).run P w = .ok ys.length w ∧ ∀ n kk,0 < kk → n ≤ ys.length → (∀ u ∈ us,u.cells.size = kk) → ∀ w2:World,(∀ a,w2.cell? a = w.cell? a) → (Builtin.firstCells kk n v).run P w2 = .ok (vflat (us.take n)).toArray w2:=by
 have gen:elemsOf m x = some ys → ∃ us,Rels g ys us ∧ (Builtin.lenOf v).run P w = .ok ys.length w ∧ ∀ n kk,0 < kk → n ≤ ys.length → (∀ u ∈ us,u.cells.size = kk) → ∀ w2:World,(∀ a,w2.cell? a = w.cell? a) → (Builtin.firstCells kk n v).run P w2 = .ok (vflat (us.take n)).toArray w2:=by
  intro he
  obtain ⟨a,c,us,rfl,h1,q,h2⟩:=Afm h k he
  refine ⟨us,h1,by simp [Builtin.lenOf],fun n kk hkk hn hu w2 hw2 => ?_⟩
  have hl:=h1.length
  have hut:∀ u ∈ us.take n,u.cells.size = kk:=fun u h' => hu u (List.mem_of_mem_take h')
  have hfl:=Ab3 kk (us.take n) hut
  rw [List.length_take,Nat.min_eq_left (by omega)] at hfl
  cases a with
  | none =>
   have:us = []:=by
    cases us with
    | nil => rfl
    | cons u us => obtain ⟨_,b,o,hb,_⟩:=h2 0 u rfl; cases hb
   subst this
   simp [Builtin.firstCells,vflat]
  | some a =>
   simp only [Builtin.firstCells]
   rw [← hfl]
   refine run_loadCells_list w2 a _ fun j c' hc' => ?_
   rw [hw2]
   obtain ⟨u,h3,h4⟩:=Alm kk hkk _ hut j c' hc'
   have h3':us[j / kk]? = some u:=by
    rw [List.getElem?_take] at h3
    split at h3
    ·exact h3
    ·cases h3
   obtain ⟨h5,b,o,hb,h6⟩:=h2 (j / kk) u h3'
   simp only [Option.some.injEq] at hb
   subst hb
   have h7:=h6 (j % kk) c' h4
   have hq:q = kk:=by rw [← h5]; exact hu u (List.mem_of_getElem? h3')
   subst hq
   have hdm:o + j / q * q + j % q = o + j:=by
    have:=Nat.div_add_mod j q
    rw [Nat.mul_comm] at this
    omega
   rw [hdm] at h7
   simp only [Addr.add]
   split
   ·rename_i e; subst e; simpa using h7
   ·exact h7
 cases x with
 | sc v' =>
  cases v' with
  | string s =>
   simp only [srcOf,Option.some.injEq] at he
   simp only [Rel] at k
   subst k
   refine ⟨s.data.toList.map fun b => .int .u8 b.toNat,?_,?_,?_⟩
   ·rw [← he]
    have:∀ l:List UInt8,Rels g (l.map fun b => AV.sc (.int .u8 b.toNat)) (l.map fun b => Value.int .u8 b.toNat):=by
     intro l
     induction l with
     | nil => exact .nil
     | cons a l ih => exact .cons rfl ih
    exact this _
   ·rw [← he]; simp [Builtin.lenOf]
   ·intro n kk hkk hn hu w2 _
    simp only [Builtin.firstCells,Sem.run_pure]
    congr 1
    apply Array.ext'
    have hfl:∀ l:List UInt8,vflat (l.map fun b => Value.int .u8 b.toNat) = l.map fun b => Value.int .u8 b.toNat:=by
     intro l
     induction l with
     | nil => rfl
     | cons a l ih => simp only [vflat,List.map_cons,List.flatMap_cons] at ih ⊢; rw [ih]; rfl
    rw [← List.map_take,hfl]
    simp [ByteArray.data_extract]
  | _ => simp [srcOf,elemsOf] at he
 | _ => exact gen (by simpa [srcOf] using he)
end Go.V
namespace Go.V
variable {P:Program}
structure VIX (m:Mem):Prop where
 l:∀ id L,m.loop id = some L → L.ver ≤ m.clock ∧ id < m.next
 m:∀ id M,m.map id = some M → M.ver ≤ m.clock ∧ id < m.next
def VI (m:Mem):Prop:=(∀ id cs f v,m.get id = some (.cells cs f v) → v ≤ m.clock ∧ id < m.next) ∧ VIX m
structure VMX (m m':Mem):Prop where
 inv:VIX m → VIX m'
 lgone:∀ id,id < m.next → m.loop id = none → m'.loop id = none
 mgone:∀ id,id < m.next → m.map id = none → m'.map id = none
 lkept:VIX m → ∀ id L L',m.loop id = some L → m'.loop id = some L' → L'.c = L.c ∧ (L' = L ∨ m.clock < L'.ver)
 mkept:VIX m → ∀ id M M',m.map id = some M → m'.map id = some M' → M' = M ∨ m.clock < M'.ver
theorem VMX.same {m m':Mem} (hc:m.clock ≤ m'.clock) (hn:m.next ≤ m'.next) (h1:m'.lp = m.lp) (h2:m'.mp = m.mp):VMX m m':=by
 have e1:∀ id,m'.loop id = m.loop id:=fun id => by unfold Mem.loop; rw [h1]
 have e2:∀ id,m'.map id = m.map id:=fun id => by unfold Mem.map; rw [h2]
 refine ⟨fun i => ⟨fun id L h => ?_,fun id M h => ?_⟩,fun id _ h => by rw [e1]; exact h,fun id _ h => by rw [e2]; exact h,fun _ id L L' h h' => ?_,fun _ id L L' h h' => ?_⟩
 ·rw [e1] at h; have:=i.l id L h; exact ⟨by omega,by omega⟩
 ·rw [e2] at h; have:=i.m id M h; exact ⟨by omega,by omega⟩
 ·rw [e1,h] at h'; cases h'; exact ⟨rfl,.inl rfl⟩
 ·rw [e2,h] at h'; cases h'; exact .inl rfl
theorem VMX.trans {a b c:Mem} (hn:a.next ≤ b.next) (hc:a.clock ≤ b.clock) (h:VMX a b) (k:VMX b c):VMX a c:=by
 refine ⟨fun i => k.inv (h.inv i),fun id hi hg => k.lgone id (by omega) (h.lgone id hi hg),fun id hi hg => k.mgone id (by omega) (h.mgone id hi hg),fun i id L L' h1 h2 => ?_,fun i id M M' h1 h2 => ?_⟩
 ·cases hb:b.loop id with
  | none => rw [k.lgone id (by have:=(i.l id L h1).2; omega) hb] at h2; cases h2
  | some L1 =>
   obtain ⟨a1,a2⟩:=h.lkept i id L L1 h1 hb
   obtain ⟨b1,b2⟩:=k.lkept (h.inv i) id L1 L' hb h2
   refine ⟨b1.trans a1,?_⟩
   rcases b2 with rfl | b2
   ·exact a2
   ·exact .inr (by omega)
 ·cases hb:b.map id with
  | none => rw [k.mgone id (by have:=(i.m id M h1).2; omega) hb] at h2; cases h2
  | some L1 =>
   have a2:=h.mkept i id M L1 h1 hb
   have b2:=k.mkept (h.inv i) id L1 M' hb h2
   rcases b2 with rfl | b2
   ·exact a2
   ·exact .inr (by omega)
structure VM (m m':Mem):Prop where
 clock:m.clock ≤ m'.clock
 next:m.next ≤ m'.next
 inv:VI m → VI m'
 gone:∀ id,id < m.next → m.get id = none → m'.get id = none
 kept:VI m → ∀ id cs f v cs' f' v',m.get id = some (.cells cs f v) → m'.get id = some (.cells cs' f' v') → (v' = v ∧ cs' = cs) ∨ m.clock < v'
 x:VMX m m'
theorem VM.refl (m:Mem):VM m m:=⟨Nat.le_refl _,Nat.le_refl _,id,fun _ _ h => h,fun _ id cs f v cs' f' v' h h' => by rw [h] at h'; cases h'; exact .inl ⟨rfl,rfl⟩,.same (Nat.le_refl _) (Nat.le_refl _) rfl rfl⟩
theorem VM.trans {a b c:Mem} (h:VM a b) (k:VM b c):VM a c:=by
 refine ⟨Nat.le_trans h.clock k.clock,Nat.le_trans h.next k.next,fun i => k.inv (h.inv i),fun id hi hg => k.gone id (Nat.lt_of_lt_of_le hi h.next) (h.gone id hi hg),fun i id cs f v cs' f' v' h1 h2 => ?_,h.x.trans h.next h.clock k.x⟩
 cases hb:b.get id with
 | none => rw [k.gone id (Nat.lt_of_lt_of_le (i.1 id cs f v h1).2 h.next) hb] at h2; cases h2
 | some o =>
  obtain ⟨c1,f1,v1⟩:=o
  rcases h.kept i id cs f v c1 f1 v1 h1 hb with ⟨rfl,rfl⟩ | h3
  ·rcases k.kept (h.inv i) id _ _ _ _ _ _ hb h2 with h4 | h4
   ·exact .inl h4
   ·exact .inr (Nat.lt_of_le_of_lt h.clock h4)
  ·rcases k.kept (h.inv i) id _ _ _ _ _ _ hb h2 with ⟨rfl,rfl⟩ | h4
   ·exact .inr h3
   ·exact .inr (Nat.lt_of_le_of_lt h.clock h4)
theorem VM.set (m:Mem) (id:Nat) (cs:List AV) (hs:(m.get id).isSome = true):VM m (m.set id cs):=by
 have hx:VMX m (m.set id cs):=.same (Nat.le_succ _) (Nat.le_refl _) rfl rfl
 refine ⟨Nat.le_succ _,Nat.le_refl _,fun i => ⟨fun j c f v h => ?_,hx.inv i.2⟩,fun j hj hg => ?_,fun i j c f v c' f' v' h1 h2 => ?_,hx⟩
 ·rw [Mem.get_set] at h
  split at h
  ·rename_i e
   subst e
   simp only [Option.some.injEq,AObj.cells.injEq] at h
   obtain ⟨o,ho⟩:=Option.isSome_iff_exists.1 hs
   obtain ⟨c1,f1,v1⟩:=o
   exact ⟨by rw [← h.2.2]; exact Nat.le_refl _,(i.1 _ _ _ _ ho).2⟩
  ·have:=i.1 j c f v h
   exact ⟨Nat.le_succ_of_le this.1,this.2⟩
 ·rw [Mem.get_set]
  split
  ·rename_i e; subst e; rw [hg] at hs; cases hs
  ·exact hg
 ·rw [Mem.get_set] at h2
  split at h2
  ·simp only [Option.some.injEq,AObj.cells.injEq] at h2
   exact .inr (by rw [← h2.2.2]; exact Nat.lt_succ_self _)
  ·rw [h1] at h2; cases h2; exact .inl ⟨rfl,rfl⟩
theorem VM.new (m:Mem) (cs:List AV) (f:Bool):VM m (m.new cs f):=by
 have hx:VMX m (m.new cs f):=.same (Nat.le_succ _) (Nat.le_succ _) rfl rfl
 refine ⟨Nat.le_succ _,Nat.le_succ _,fun i => ⟨fun j c f v h => ?_,hx.inv i.2⟩,fun j hj hg => ?_,fun i j c f v c' f' v' h1 h2 => ?_,hx⟩
 ·rw [Mem.get_new] at h
  split at h
  ·rename_i e
   subst e
   simp only [Option.some.injEq,AObj.cells.injEq] at h
   exact ⟨by rw [← h.2.2]; exact Nat.le_refl _,Nat.lt_succ_self _⟩
  ·have:=i.1 j c f v h
   exact ⟨Nat.le_succ_of_le this.1,Nat.lt_succ_of_lt this.2⟩
 ·rw [Mem.get_new,if_neg (Nat.ne_of_lt hj)]; exact hg
 ·rw [Mem.get_new,if_neg (Nat.ne_of_lt (i.1 j c f v h1).2)] at h2
  rw [h1] at h2; cases h2; exact .inl ⟨rfl,rfl⟩
theorem VM.mark (m:Mem) (id:Nat) (cs:List AV) (f:Bool) (v:Nat) (hg:m.get id = some (.cells cs f v)):VM m (m.mark id cs v):=by
 have hx:VMX m (m.mark id cs v):=.same (Nat.le_refl _) (Nat.le_refl _) rfl rfl
 refine ⟨Nat.le_refl _,Nat.le_refl _,fun i => ⟨fun j c f' v' h => ?_,hx.inv i.2⟩,fun j hj hj' => ?_,fun i j c f' v' c'' f'' v'' h1 h2 => ?_,hx⟩
 ·rw [Mem.get_mark] at h
  split at h
  ·rename_i e
   subst e
   simp only [Option.some.injEq,AObj.cells.injEq] at h
   rw [← h.2.2]
   exact i.1 _ _ _ _ hg
  ·exact i.1 j c f' v' h
 ·rw [Mem.get_mark]
  split
  ·rename_i e; subst e; rw [hg] at hj'; cases hj'
  ·exact hj'
 ·rw [Mem.get_mark] at h2
  split at h2
  ·rename_i e
   subst e
   rw [hg] at h1
   cases h1
   simp only [Option.some.injEq,AObj.cells.injEq] at h2
   exact .inl ⟨h2.2.2.symm,h2.1.symm⟩
  ·rw [h1] at h2; cases h2; exact .inl ⟨rfl,rfl⟩
theorem VM.kill (m:Mem) (id:Nat):VM m (m.kill id):=by
 have hx:VMX m (m.kill id):=.same (Nat.le_refl _) (Nat.le_refl _) rfl rfl
 refine ⟨Nat.le_refl _,Nat.le_refl _,fun i => ⟨fun j c f' v' h => ?_,hx.inv i.2⟩,fun j hj hj' => ?_,fun i j c f' v' c'' f'' v'' h1 h2 => ?_,hx⟩
 ·rw [Mem.get_kill] at h
  split at h
  ·cases h
  ·exact i.1 j c f' v' h
 ·rw [Mem.get_kill]
  split
  ·rfl
  ·exact hj'
 ·rw [Mem.get_kill] at h2
  split at h2
  ·cases h2
  ·rw [h1] at h2; cases h2; exact .inl ⟨rfl,rfl⟩
theorem VM.ofX {m m':Mem} (hc:m.clock ≤ m'.clock) (hn:m.next ≤ m'.next) (ht:m'.t = m.t) (hx:VMX m m'):VM m m':=by
 have e:∀ id,m'.get id = m.get id:=fun id => by unfold Mem.get; rw [ht]
 refine ⟨hc,hn,fun i => ⟨fun j c f v h => ?_,hx.inv i.2⟩,fun j _ h => by rw [e]; exact h,fun _ j c f v c' f' v' h1 h2 => ?_,hx⟩
 ·rw [e] at h; have:=i.1 j c f v h; exact ⟨by omega,by omega⟩
 ·rw [e,h1] at h2; cases h2; exact .inl ⟨rfl,rfl⟩
theorem VM.newLoop (m:Mem) (c:LCode):VM m (m.newLoop c):=by
 have gl:∀ i,(m.newLoop c).loop i = if i = m.next then some ⟨.ready,none,c,m.clock + 1⟩ else m.loop i:=by intro i; simp [Mem.newLoop,Mem.loop]
 have gm:∀ i,(m.newLoop c).map i = m.map i:=fun i => rfl
 refine .ofX (Nat.le_succ _) (Nat.le_succ _) rfl ⟨fun i => ⟨fun id L h => ?_,fun id M h => ?_⟩,fun id hi h => ?_,fun id _ h => h,fun i id L L' h h' => ?_,fun i id L L' h h' => ?_⟩
 ·rw [gl] at h
  show _ ≤ m.clock + 1 ∧ _ < m.next + 1
  split at h
  ·cases h; exact ⟨Nat.le_refl _,by omega⟩
  ·have:=i.l id L h; omega
 ·have:=i.m id M h; show _ ≤ m.clock + 1 ∧ _ < m.next + 1; omega
 ·rw [gl,if_neg (by omega)]; exact h
 ·rw [gl,if_neg (by have:=(i.l id L h).2; omega),h] at h'; cases h'; exact ⟨rfl,.inl rfl⟩
 ·rw [gm,h] at h'; cases h'; exact .inl rfl
theorem VM.setLoop (m:Mem) {id:Nat} {L:ALoop} (hL:m.loop id = some L) (st:LoopState) (pend:Option Code):VM m (m.setLoop id st pend L.c):=by
 have gl:∀ i,(m.setLoop id st pend L.c).loop i = if i = id then some ⟨st,pend,L.c,m.clock + 1⟩ else m.loop i:=by intro i; simp [Mem.setLoop,Mem.loop]
 have gm:∀ i,(m.setLoop id st pend L.c).map i = m.map i:=fun i => rfl
 refine .ofX (Nat.le_succ _) (Nat.le_refl _) rfl ⟨fun i => ⟨fun j L' h => ?_,fun id M h => ?_⟩,fun j hi h => ?_,fun id _ h => h,fun i j L1 L' h h' => ?_,fun i id L L' h h' => ?_⟩
 ·rw [gl] at h
  show _ ≤ m.clock + 1 ∧ _ < m.next
  split at h
  ·rename_i e; subst e; cases h; exact ⟨Nat.le_refl _,(i.l _ _ hL).2⟩
  ·have:=i.l j L' h; omega
 ·have:=i.m id M h; show _ ≤ m.clock + 1 ∧ _ < m.next; omega
 ·rw [gl,if_neg (by rintro rfl; rw [hL] at h; cases h)]; exact h
 ·rw [gl] at h'
  split at h'
  ·rename_i e; subst e; rw [hL] at h; cases h; cases h'; exact ⟨rfl,.inr (Nat.lt_succ_self _)⟩
  ·rw [h] at h'; cases h'; exact ⟨rfl,.inl rfl⟩
 ·rw [gm,h] at h'; cases h'; exact .inl rfl
theorem VM.killLoop (m:Mem) (id:Nat):VM m (m.killLoop id):=by
 have gl:∀ i,(m.killLoop id).loop i = if i = id then none else m.loop i:=by intro i; simp [Mem.killLoop,Mem.loop]
 have gm:∀ i,(m.killLoop id).map i = m.map i:=fun i => rfl
 refine .ofX (Nat.le_refl _) (Nat.le_refl _) rfl ⟨fun i => ⟨fun j L' h => ?_,fun id M h => ?_⟩,fun j hi h => ?_,fun id _ h => h,fun i j L1 L' h h' => ?_,fun i id L L' h h' => ?_⟩
 ·rw [gl] at h
  split at h
  ·cases h
  ·exact i.l j L' h
 ·exact i.m id M h
 ·rw [gl]; split
  ·rfl
  ·exact h
 ·rw [gl] at h'
  split at h'
  ·cases h'
  ·rw [h] at h'; cases h'; exact ⟨rfl,.inl rfl⟩
 ·rw [gm,h] at h'; cases h'; exact .inl rfl
theorem VM.newMap (m:Mem):VM m m.newMap:=by
 have gm:∀ i,m.newMap.map i = if i = m.next then some ⟨[],0,m.clock + 1⟩ else m.map i:=by intro i; simp [Mem.newMap,Mem.map]
 have gl:∀ i,m.newMap.loop i = m.loop i:=fun i => rfl
 refine .ofX (Nat.le_succ _) (Nat.le_succ _) rfl ⟨fun i => ⟨fun id L h => ?_,fun id M h => ?_⟩,fun id hi h => h,fun id hi h => ?_,fun i id L L' h h' => ?_,fun i id L L' h h' => ?_⟩
 ·have:=i.l id L h; show _ ≤ m.clock + 1 ∧ _ < m.next + 1; omega
 ·rw [gm] at h
  show _ ≤ m.clock + 1 ∧ _ < m.next + 1
  split at h
  ·cases h; exact ⟨Nat.le_refl _,by omega⟩
  ·have:=i.m id M h; omega
 ·rw [gm,if_neg (by omega)]; exact h
 ·rw [gl,h] at h'; cases h'; exact ⟨rfl,.inl rfl⟩
 ·rw [gm,if_neg (by have:=(i.m id L h).2; omega),h] at h'; cases h'; exact .inl rfl
theorem VM.setMap (m:Mem) {id:Nat} {M:AMap} (hM:m.map id = some M) (es:List (Value × AV × Nat)) (ck:Nat):VM m (m.setMap id es ck):=by
 have gm:∀ i,(m.setMap id es ck).map i = if i = id then some ⟨es,ck,m.clock + 1⟩ else m.map i:=by intro i; simp [Mem.setMap,Mem.map]
 have gl:∀ i,(m.setMap id es ck).loop i = m.loop i:=fun i => rfl
 refine .ofX (Nat.le_succ _) (Nat.le_refl _) rfl ⟨fun i => ⟨fun id L h => ?_,fun j M' h => ?_⟩,fun id hi h => h,fun j hi h => ?_,fun i id L L' h h' => ?_,fun i j L L' h h' => ?_⟩
 ·have:=i.l id L h; show _ ≤ m.clock + 1 ∧ _ < m.next; omega
 ·rw [gm] at h
  show _ ≤ m.clock + 1 ∧ _ < m.next
  split at h
  ·rename_i e; subst e; cases h; exact ⟨Nat.le_refl _,(i.m _ _ hM).2⟩
  ·have:=i.m j M' h; omega
 ·rw [gm,if_neg (by rintro rfl; rw [hM] at h; cases h)]; exact h
 ·rw [gl,h] at h'; cases h'; exact ⟨rfl,.inl rfl⟩
 ·rw [gm] at h'
  split at h'
  ·cases h'; exact .inr (Nat.lt_succ_self _)
  ·rw [h] at h'; cases h'; exact .inl rfl
theorem VM.fz1 (m:Mem) (x:AV):VM m (fz1 m x).2:=by
 unfold Go.V.fz1
 split
 ·split
  ·rename_i cs f v hg
   split
   ·exact VM.mark m _ _ _ _ hg
   ·exact .refl m
  ·exact .refl m
 ·exact .refl m
 ·exact .refl m
theorem VM.fzs:∀ (l:List AV) (m:Mem),VM m (fzs m l).2
 | [],m => .refl m
 | x :: l,m => (VM.fz1 m x).trans (VM.fzs l _)
theorem VM.fzv (m:Mem) (x:AV):VM m (fzv m x).2:=by
 unfold Go.V.fzv
 split
 ·exact VM.fzs _ _
 ·exact VM.fz1 m x
theorem VM.fzvs:∀ (l:List AV) (m:Mem),VM m (fzvs m l).2
 | [],m => .refl m
 | x :: l,m => (VM.fzv m x).trans (VM.fzvs l _)
theorem VM.fzx {P:Program} (T:TypeId) (l:List AV) (m:Mem):VM m (fzx P T m l).2:=by
 unfold Go.V.fzx
 split
 ·exact .refl m
 ·exact VM.fzvs l m
theorem VM.fzr (m:Mem) (x:AV):VM m (fzr m x).2:=by
 unfold Go.V.fzr
 split
 ·exact VM.fzvs _ _
 ·exact VM.fzv m x
theorem VM.astore {T:TypeId} {a x:AV} {m m':Mem} (e:astore P T a x m = some m'):VM m m':=by
 unfold Go.V.astore at e
 split at e
 ·split at e
  ·rename_i hg
   split at e
   ·cases e; exact VM.set _ _ _ (by rw [hg]; rfl)
   ·cases e
  ·cases e
 ·cases e
theorem VM.aappend {T:TypeId} {s:AV} {zs:Option Nat} {src:Option (List AV)} {m m':Mem} {r:AV} (e:aappend P T s zs src m = some (r,m')):VM m m':=by
 unfold Go.V.aappend at e
 split at e
 ·split at e
  ·split at e
   ·split at e
    ·split at e <;> (try cases e) <;> exact .refl m
    ·dsimp only at e
     have h0:=fun l => VM.fzx (P:=P) T l m
     split at e
     ·split at e
      ·cases e; exact (h0 _).trans (.new _ _ _)
      ·cases e
     ·split at e
      ·cases e; exact (h0 _).trans (.new _ _ _)
      ·cases e
     ·split at e
      ·rename_i hg
       split at e
       ·split at e
        ·cases e; exact (h0 _).trans (.new _ _ _)
        ·split at e
         ·split at e
          ·cases e
          ·cases e; exact (h0 _).trans (.set _ _ _ (by rw [hg]; rfl))
         ·split at e
          ·cases e; exact (h0 _).trans ((VM.kill _ _).trans (.new _ _ _))
          ·cases e
       ·cases e
      ·cases e
     ·cases e
   ·cases e
  ·cases e
 ·cases e
theorem VM.acopy {T:TypeId} {d x:AV} {m m':Mem} {r:AV} (e:acopy P T d x m = some (r,m')):VM m m':=by
 unfold Go.V.acopy at e
 split at e
 ·split at e
  ·rename_i ys0 id off len _ _ _ _ _
   dsimp only at e
   split at e
   ·rename_i hg
    split at e
    ·cases e; exact (VM.fzvs _ _).trans (.set _ _ _ (by rw [hg]; rfl))
    ·cases e
   ·cases e
  ·split at e
   ·cases e; exact .refl m
   ·cases e
  ·cases e
 ·cases e
theorem VM.adelete {T:TypeId} {x k:AV} {m m':Mem} {r:AV} (e:adelete P T x k m = some (r,m')):VM m m':=by
 unfold Go.V.adelete at e
 repeat' split at e
 all_goals first
  | (cases e; exact VM.setMap m (by assumption) _ _)
  | cases e
theorem VM.amapUpdate {T:TypeId} {x k v:AV} {m m':Mem} (e:amapUpdate P T x k v m = some m'):VM m m':=by
 unfold Go.V.amapUpdate at e
 repeat' split at e
 all_goals first
  | (cases e; exact VM.setMap m (by assumption) _ _)
  | cases e
theorem VM.amapEntry {T:TypeId} {x k:AV} {m m':Mem} {r:AV} (e:amapEntry P T x k m = some (r,m')):VM m m':=by
 unfold Go.V.amapEntry at e
 repeat' split at e
 all_goals first
  | (cases e; exact VM.setMap m (by assumption) _ _)
  | (simp only [Option.map_eq_some_iff,Prod.mk.injEq] at e
     obtain ⟨_,_,_,rfl⟩:=e; exact VM.setMap m (by assumption) _ _)
  | cases e
theorem VM.aentryStore {x k v:AV} {m m':Mem} (e:aentryStore x k v m = some m'):VM m m':=by
 unfold Go.V.aentryStore at e
 repeat' split at e
 all_goals first
  | (cases e; exact VM.setMap m (by assumption) _ _)
  | cases e
theorem VM.amakeMap {T:TypeId} {x:Option AV} {m m':Mem} {r:AV} (e:amakeMap P T x m = some (r,m')):VM m m':=by
 unfold Go.V.amakeMap at e
 split at e
 ·cases e; exact VM.newMap m
 ·cases e; exact VM.newMap m
 ·cases e
theorem VM.abuiltin {b:Builtin} {ts:Array TypeId} {T:TypeId} {args:List AV} {m m':Mem} {r:AV} (e:abuiltin P b ts T args m = some (r,m')):VM m m':=by
 unfold Go.V.abuiltin at e
 split at e
 ·split at e
  ·split at e
   ·exact VM.aappend e
   ·cases e
   ·exact VM.aappend e
   ·cases e
  ·cases e
 ·split at e
  ·exact VM.acopy e
  ·cases e
 ·split at e
  ·exact VM.adelete e
  ·cases e
 ·simp only [Option.map_eq_some_iff,Prod.mk.injEq] at e
  obtain ⟨_,_,_,rfl⟩:=e; exact .refl _
theorem VM.aop {s:Sl} {o:Oper} {m m':Mem} {r:AV} (e:aop P s o m = some (r,m')):VM m m':=by
 obtain ⟨dst,op,type,pos,after,guard⟩:=o
 cases op <;> simp only [Go.V.aop] at e
 case move y => cases e; exact .refl _
 case assign y => cases e; exact .refl _
 case pick c y z => split at e <;> cases e; exact .refl _
 case alloc T =>
  simp only [Option.bind_eq_some_iff] at e
  obtain ⟨_,_,e⟩:=e
  split at e <;> cases e
  exact .new _ _ _
 case box T y => split at e <;> cases e; exact .new _ _ _
 case buildSlice T n ps =>
  unfold abuildSlice at e
  split at e
  ·split at e
   ·split at e
    ·dsimp only at e
     simp only [Option.map_eq_some_iff,Prod.mk.injEq] at e
     obtain ⟨_,_,_,rfl⟩:=e
     exact (VM.fzx (P:=P) T _ _).trans (.new _ _ _)
    ·cases e
   ·cases e
  ·cases e
 case store T y z =>
  simp only [Option.map_eq_some_iff,Prod.mk.injEq] at e
  obtain ⟨_,h,_,rfl⟩:=e
  exact VM.astore h
 case nilCheck y =>
  split at e
  ·cases e; exact .refl _
  ·cases e; exact .refl _
  ·split at e <;> cases e; exact .refl _
  ·cases e; exact .refl _
  ·cases e
 case mapUpdate T y z u =>
  simp only [Option.map_eq_some_iff,Prod.mk.injEq] at e
  obtain ⟨_,h,_,rfl⟩:=e
  exact VM.amapUpdate h
 case insert T y z u =>
  simp only [Option.map_eq_some_iff,Prod.mk.injEq] at e
  obtain ⟨_,h,_,rfl⟩:=e
  exact VM.amapUpdate h
 case mapEntry T y z => exact VM.amapEntry e
 case entryStore T y z u =>
  simp only [Option.map_eq_some_iff,Prod.mk.injEq] at e
  obtain ⟨_,h,_,rfl⟩:=e
  exact VM.aentryStore h
 case makeMap T r => exact VM.amakeMap e
 case unOp op T y =>
  simp only [Option.bind_eq_some_iff,Option.map_eq_some_iff,Prod.mk.injEq] at e
  obtain ⟨_,_,_,_,_,rfl⟩:=e; exact .refl _
 case convert T T' y =>
  simp only [Option.map_eq_some_iff,Prod.mk.injEq] at e
  obtain ⟨_,_,_,rfl⟩:=e; exact .refl _
 case makeInterface T y =>
  simp only [Option.map_eq_some_iff,Prod.mk.injEq] at e
  obtain ⟨_,_,_,rfl⟩:=e; exact .refl _
 case typeAssert y T' T ok =>
  simp only [Option.map_eq_some_iff,Prod.mk.injEq] at e
  obtain ⟨_,_,_,rfl⟩:=e; exact .refl _
 case makeFunc f fi ca => cases e; exact .refl _
 case makeSlice T l c =>
  unfold amakeSlice at e
  split at e
  ·split at e
   ·split at e <;> cases e; exact .new _ _ _
   ·cases e
  ·cases e
 case extract y i =>
  split at e
  ·simp only [Option.map_eq_some_iff,Prod.mk.injEq] at e
   obtain ⟨_,_,_,rfl⟩:=e; exact .refl _
  ·cases e
 case call c =>
  split at e
  ·exact VM.abuiltin e
  ·cases e
 all_goals first
  | (simp only [Option.map_eq_some_iff,Prod.mk.injEq] at e
     obtain ⟨_,_,_,rfl⟩:=e; exact .refl _)
  | cases e
def HVer (H:Calls1):Prop:=∀ fn args m v m',H fn args m = some (v,m') → VM m m'
theorem VM.astep {H:Calls1} (hH:HVer H) {s:Sl} {o:Oper} {m m':Mem} {r:AV} (e:astep P H s o m = some (r,m')):VM m m':=by
 unfold Go.V.astep at e
 split at e
 ·split at e
  ·exact hH _ _ _ _ _ e
  ·exact hH _ _ _ _ _ e
  ·cases e
 ·exact VM.aop e
theorem Awm {s:Sl} {o:Oper} {m m':Mem} {r:AV} (e:amlen P s o m = some (r,m')):VM m m':=by
 unfold amlen at e
 split at e
 ·repeat' split at e
  all_goals cases e
  exact .refl _
 ·split at e
  ·simp only [Option.map_eq_some_iff,Prod.mk.injEq] at e
   obtain ⟨_,_,_,rfl⟩:=e
   exact .refl _
  ·cases e
 ·rw [Alg P e]
  exact .refl _
 ·cases e
theorem Aj9 {s:Sl} {o:Oper} {m m':Mem} {r:AV} (e:amlen P s o m = some (r,m')):m' = m ∧ rank o = 0:=by
 unfold amlen at e
 split at e
 ·rename_i ho
  refine ⟨?_,by unfold rank; rw [ho]⟩
  repeat' split at e
  all_goals cases e
  rfl
 ·rename_i ho
  refine ⟨?_,by unfold rank; rw [ho]⟩
  split at e
  ·simp only [Option.map_eq_some_iff,Prod.mk.injEq] at e
   obtain ⟨_,_,_,h⟩:=e
   exact h.symm
  ·cases e
 ·rename_i ho
  exact ⟨Alg P e,by unfold rank; rw [ho]⟩
 ·cases e
theorem VM.astepU {H:Calls1} (hH:HVer H) {s:Sl} {o:Oper} {m m':Mem} {r:AV} (e:astepU P H s o m = some (r,m')):VM m m':=by
 unfold Go.V.astepU at e
 split at e
 ·rename_i q h
  cases e
  exact VM.astep hH h
 ·exact Awm e
theorem VM.aops {H:Calls1} (hH:HVer H) {N:Nat} {all:Array Oper}:∀ (l:List Oper) (s:Sl) (m:Mem) (s':Sl) (m':Mem),aops P H N all l s m = some (s',m') → VM m m'
 | [],s,m,s',m',e => by simp only [Go.V.aops,Option.some.injEq,Prod.mk.injEq] at e; obtain ⟨_,rfl⟩:=e; exact .refl _
 | o :: l,s,m,s',m',e => by
  simp only [Go.V.aops] at e
  split at e
  ·split at e
   ·rename_i h
    split at e
    ·exact (VM.astepU hH h).trans (VM.aops hH l _ _ _ _ e)
    ·cases e
   ·cases e
  ·split at e
   ·exact VM.aops hH l _ _ _ _ e
   ·cases e
theorem Agj {H:Calls1} {N:Nat} {all:Array Oper}:∀ (l:List Oper) (s:Sl) (m:Mem) (s':Sl) (m':Mem) (ms:List (Sl × Mem)),aopsT P H N all l s m = some (s',m',ms) → aops P H N all l s m = some (s',m')
 | [],s,m,s',m',ms,e => by simp only [aopsT,Option.some.injEq,Prod.mk.injEq] at e; obtain ⟨rfl,rfl,_⟩:=e; rfl
 | o :: l,s,m,s',m',ms,e => by
  simp only [aopsT] at e
  simp only [Go.V.aops]
  split at e
  ·rename_i hw
   rw [if_pos hw]
   split at e
   ·rename_i hst
    rw [Alb hst]
    dsimp only
    split at e
    ·simp only [Option.map_eq_some_iff,Prod.mk.injEq] at e
     obtain ⟨⟨a,b,c⟩,h,rfl,rfl,_⟩:=e
     exact Agj l _ _ _ _ _ h
    ·cases e
   ·cases e
  ·rename_i hw
   rw [if_neg hw]
   split at e
   ·simp only [Option.map_eq_some_iff,Prod.mk.injEq] at e
    obtain ⟨⟨a,b,c⟩,h,rfl,rfl,_⟩:=e
    exact Agj l _ _ _ _ _ h
   ·cases e
theorem Awi {H:Calls1} {N:Nat} {all:Array Oper} (hc:calm all = true):∀ (l:List Oper) (s:Sl) (m:Mem) (s':Sl) (m':Mem),aops P H N all l s m = some (s',m') → ∃ ms,aopsT P H N all l s m = some (s',m',ms)
 | [],s,m,s',m',e => by simp only [Go.V.aops,Option.some.injEq,Prod.mk.injEq] at e; obtain ⟨rfl,rfl⟩:=e; exact ⟨_,rfl⟩
 | o :: l,s,m,s',m',e => by
  simp only [Go.V.aops] at e
  simp only [aopsT]
  split at e
  ·rename_i hw
   rw [if_pos hw]
   split at e
   ·rename_i hst
    have ht:astepT P (calm all) H s o m = astepU P H s o m:=by unfold astepT; rw [if_pos hc]
    rw [ht,hst]
    dsimp only
    split at e
    ·rename_i hp
     obtain ⟨ms,h⟩:=Awi hc l _ _ _ _ e
     exact ⟨_,by rw [h]; rfl⟩
    ·cases e
   ·cases e
  ·rename_i hw
   rw [if_neg hw]
   split at e
   ·rename_i hp
    obtain ⟨ms,h⟩:=Awi hc l _ _ _ _ e
    exact ⟨_,by rw [h]; rfl⟩
   ·cases e
theorem VM.aloop {b:Sl → Mem → Option (Ex × Sl × Mem)} (hb:∀ s m e s' m',b s m = some (e,s',m') → VM m m'):∀ (n:Nat) (s:Sl) (m:Mem) (e:Ex) (s':Sl) (m':Mem),aloop b n s m = some (e,s',m') → VM m m'
 | 0,s,m,e,s',m',h => by cases h
 | n + 1,s,m,e,s',m',h => by
  simp only [Go.V.aloop] at h
  split at h
  ·rename_i s1 m1 h1
   exact (hb _ _ _ _ _ h1).trans (VM.aloop hb n _ _ _ _ _ h)
  ·exact hb _ _ _ _ _ h
theorem VM.acode {H:Calls1} (hH:HVer H) {N fuel:Nat}:∀ (c:Code) (s:Sl) (m:Mem) (e:Ex) (s':Sl) (m':Mem),acode P H N fuel c s m = some (e,s',m') → VM m m':=by
 intro c
 induction c with
 | skip => intro s m e s' m' h; simp only [Go.V.acode,Option.some.injEq,Prod.mk.injEq] at h; obtain ⟨_,_,rfl⟩:=h; exact .refl _
 | label l => intro s m e s' m' h; simp only [Go.V.acode,Option.some.injEq,Prod.mk.injEq] at h; obtain ⟨_,_,rfl⟩:=h; exact .refl _
 | exit l => intro s m e s' m' h; simp only [Go.V.acode,Option.some.injEq,Prod.mk.injEq] at h; obtain ⟨_,_,rfl⟩:=h; exact .refl _
 | ret => intro s m e s' m' h; simp only [Go.V.acode,Option.some.injEq,Prod.mk.injEq] at h; obtain ⟨_,_,rfl⟩:=h; exact .refl _
 | region id ops draw =>
  intro s m e s' m' h
  simp only [Go.V.acode] at h
  split at h
  ·split at h
   ·split at h
    ·rename_i h1
     split at h
     ·cases h; exact VM.aops hH _ _ _ _ _ (Agj _ _ _ _ _ _ h1)
     ·cases h
    ·cases h
   ·cases h
  ·split at h
   ·rename_i h1; cases h; exact VM.aops hH _ _ _ _ _ h1
   ·cases h
 | seq a b iha ihb =>
  intro s m e s' m' h
  simp only [Go.V.acode] at h
  split at h
  ·rename_i h1; exact (iha _ _ _ _ _ h1).trans (ihb _ _ _ _ _ h)
  ·exact iha _ _ _ _ _ h
 | cond c x y ihx ihy =>
  intro s m e s' m' h
  simp only [Go.V.acode] at h
  split at h
  ·split at h
   ·exact ihx _ _ _ _ _ h
   ·exact ihy _ _ _ _ _ h
  ·cases h
 | scope b ih =>
  intro s m e s' m' h
  simp only [Go.V.acode] at h
  split at h
  ·cases h
  ·exact ih _ _ _ _ _ h
 | block id b ih =>
  intro s m e s' m' h
  simp only [Go.V.acode] at h
  split at h
  ·rename_i h1
   split at h <;> cases h <;> exact ih _ _ _ _ _ h1
  ·exact ih _ _ _ _ _ h
 | loop b ih =>
  intro s m e s' m' h
  simp only [Go.V.acode] at h
  exact VM.aloop (fun s m e s' m' h => ih s m e s' m' h) _ _ _ _ _ _ h
 | rangeFunc g ps a c =>
  intro s m e s' m' h
  simp only [Go.V.acode] at h
  split at h
  ·split at h
   ·split at h
    ·rename_i h1
     split at h
     ·split at h
      ·cases h
      ·split at h
       ·cases h; exact ((VM.newLoop m _).trans (hH _ _ _ _ _ h1)).trans (VM.killLoop _ _)
       ·cases h
     ·cases h
    ·cases h
   ·cases h
  ·cases h
 | _ => intro s m e s' m' h; cases h
theorem Tr.get_filt {α:Type}:∀ (t:Tr α) (p:Nat → Bool) (i:Nat),(t.filt p).get i = if p i then t.get i else none
 | .nil,p,i => by simp [Tr.filt,Tr.get_n,Tr.get_nd]
 | .nd l v r,p,i => by
  simp only [Tr.filt,Tr.get_n,Tr.get_nd]
  by_cases h0:i = 0
  ·subst h0; simp
  ·rw [if_neg h0,if_neg h0]
   by_cases h1:i % 2 = 1
   ·rw [if_pos h1,if_pos h1,Tr.get_filt l,show 2 * (i / 2) + 1 = i by omega]
   ·rw [if_neg h1,if_neg h1,Tr.get_filt r,show 2 * (i / 2 - 1) + 2 = i by omega]
theorem VM.filt (m:Mem) (p:Nat → Bool):VM m (m.keep p):=by
 have hg:∀ j,(m.keep p).get j = if p j then m.get j else none:=fun j => Tr.get_filt m.t p j
 have hx:VMX m (m.keep p):=.same (Nat.le_refl _) (Nat.le_refl _) rfl rfl
 refine ⟨Nat.le_refl _,Nat.le_refl _,fun i => ⟨fun j c f' v' h => ?_,hx.inv i.2⟩,fun j hj hj' => ?_,fun i j c f' v' c'' f'' v'' h1 h2 => ?_,hx⟩
 ·rw [hg] at h
  split at h
  ·exact i.1 j c f' v' h
  ·cases h
 ·rw [hg]
  split
  ·exact hj'
  ·rfl
 ·rw [hg] at h2
  split at h2
  ·rw [h1] at h2; cases h2; exact .inl ⟨rfl,rfl⟩
  ·cases h2
theorem VM.thenL {f:Sl → Mem → Option (List (Ex × Sl × Mem))} {m0:Mem} (hf:∀ s m l,VM m0 m → f s m = some l → ∀ r ∈ l,VM m0 r.2.2):∀ (a l:List (Ex × Sl × Mem)),(∀ r ∈ a,VM m0 r.2.2) → Go.V.thenL f a = some l → ∀ r ∈ l,VM m0 r.2.2
 | [],l,_,h => by cases h; intro r hr; cases hr
 | (e,s,m) :: a,l,ha,h => by
  simp only [Go.V.thenL] at h
  split at h
  ·rename_i x y hx hy
   cases h
   intro r hr
   rcases List.mem_append.1 hr with hr | hr
   ·cases e with
    | normal => exact hf s m x (ha _ (List.mem_cons_self ..)) hx r hr
    | _ => cases hx; rw [List.mem_singleton.1 hr]; exact ha _ (List.mem_cons_self ..)
   ·exact VM.thenL hf a y (fun r hr => ha r (List.mem_cons_of_mem _ hr)) hy r hr
  ·cases h
theorem VM.acodeL {H:Calls1} (hH:HVer H) {N fuel:Nat}:∀ (c:Code) (s:Sl) (m:Mem) (l:List (Ex × Sl × Mem)),Go.V.acodeL P H N fuel c s m = some l → ∀ r ∈ l,VM m r.2.2:=by
 intro c
 have other:∀ (c:Code) (s:Sl) (m:Mem) (l:List (Ex × Sl × Mem)),(Go.V.acode P H N fuel c s m).map (fun r => [r]) = some l → ∀ r ∈ l,VM m r.2.2:=by
  intro c s m l h r hr
  obtain ⟨q,hq,rfl⟩:=Option.map_eq_some_iff.1 h
  rw [List.mem_singleton.1 hr]
  exact VM.acode hH _ _ _ _ _ _ hq
 induction c with
 | seq a b iha ihb =>
  intro s m l h
  simp only [Go.V.acodeL] at h
  split at h
  ·rename_i x hx
   exact VM.thenL (fun s1 m1 l1 h1 h2 r hr => h1.trans (ihb s1 m1 l1 h2 r hr)) x l (iha _ _ _ hx) h
  ·cases h
 | cond c x y ihx ihy =>
  intro s m l h
  simp only [Go.V.acodeL] at h
  split at h
  ·rename_i t _
   cases t
   ·exact ihy _ _ _ h
   ·exact ihx _ _ _ h
  ·cases h
 | block id b ih =>
  intro s m l h
  simp only [Go.V.acodeL] at h
  obtain ⟨x,hx,rfl⟩:=Option.map_eq_some_iff.1 h
  intro r hr
  obtain ⟨q,hq,rfl⟩:=List.mem_map.1 hr
  have:=ih _ _ _ hx q hq
  unfold outB
  split
  ·split <;> exact this
  ·exact this
 | region id ops draw =>
  intro s m l h
  simp only [Go.V.acodeL] at h
  split at h
  ·rename_i r hr
   cases h
   intro q hq
   rw [List.mem_singleton.1 hq]
   exact VM.acode hH _ _ _ _ _ _ hr
  ·split at h
   ·unfold choL at h
    split at h
    ·split at h
     ·rename_i h1 h2
      cases h
      intro q hq
      rcases List.mem_cons.1 hq with rfl | hq
      ·exact VM.aops hH _ _ _ _ _ h1
      ·rw [List.mem_singleton.1 hq]
       exact VM.aops hH _ _ _ _ _ h2
     ·cases h
    ·cases h
   ·cases h
 | _ => intro s m l h; exact other _ s m l h
theorem VM.bodyR {H:Calls1} (hH:HVer H) {N fuel:Nat} {c:Code} {s:Sl} {m:Mem} {e:Ex} {m':Mem} (h:Go.V.bodyR P H N fuel c s m = some (e,m')):VM m m':=by
 unfold Go.V.bodyR at h
 split at h
 ·rename_i h1
  cases h
  exact VM.acode hH _ _ _ _ _ _ h1
 ·obtain ⟨l,h1,h2⟩:=Option.bind_eq_some_iff.1 h
  unfold joinL at h2
  split at h2
  ·split at h2
   ·cases h2
    exact (VM.acodeL hH _ _ _ _ h1 _ (List.mem_cons_self ..)).trans (VM.filt _ _)
   ·cases h2
  ·cases h2
theorem VM.around {H:Calls1} (hH:HVer H) {n id:Nat} {args:List AV} {m m':Mem} {v:AV} (e:around P H n id args m = some (v,m')):VM m m':=by
 unfold Go.V.around at e
 split at e
 ·rename_i L hL
  split at e
  ·split at e
   ·rename_i s1 m1 h1
    split at e
    ·rename_i L1 hL1
     split at e
     ·split at e
      ·rename_i e1 m2 h2
       split at e
       ·rename_i L2 hL2
        cases e
        have a1:=VM.acode hH _ _ _ _ _ _ h1
        have a2:=VM.bodyR hH h2
        exact ((a1.trans (VM.setLoop _ hL1 _ _)).trans a2).trans (VM.setLoop _ hL2 _ _)
       ·cases e
      ·cases e
     ·cases e
    ·cases e
   ·cases e
  ·cases e
 ·cases e
variable {g:G} {B:Bs} {W w:World}
theorem Mem.get_cut (m:Mem) (n i:Nat):(m.cut n).get i = if i < n then m.get i else none:=by
 unfold Mem.cut Mem.get
 rw [Tr.get_filt]
 by_cases h:i < n <;> simp [h]
mutual
theorem Rel.bel {n:Nat} (hn:g.n ≤ n):∀ (x:AV) (v:Value),Rel g x v → x.bel n = true
 | .sc x,v,k => by simp [AV.bel]
 | .ptr id off,v,k => by simp only [Rel] at k; simp only [AV.bel]; simp; omega
 | .cptr x off,v,k => by
  simp only [Rel] at k
  obtain ⟨b,o,u,h1,_⟩:=k
  simpa [AV.bel] using Rel.bel hn x u h1
 | .sl id off len q ag cap,v,k => by simp only [Rel] at k; simp only [AV.bel]; simp; omega
 | .emp 0,v,k => by simp [AV.bel]
 | .emp 1,v,k => by simp [AV.bel]
 | .emp 2,v,k => by simp [AV.bel]
 | .emp (n + 3),v,k => by simp [AV.bel]
 | .lst xs,v,k => by
  simp only [Rel] at k
  obtain ⟨a,c,vs,q,_,h,_⟩:=k
  simpa [AV.bel] using Rels.bel hn xs vs h
 | .fn f fi ca,v,k => by
  simp only [Rel] at k
  obtain ⟨vf,vc,_,h1,h2⟩:=k
  simp [AV.bel,Rels.bel hn fi vf h1,Rels.bel hn ca vc h2]
 | .mp id,v,k => by simp only [Rel] at k; simp only [AV.bel]; simp; omega
 | .yl id,v,k => by simp only [Rel] at k; simp only [AV.bel]; simp; omega
 | .iface t x,v,k => by
  simp only [Rel] at k
  obtain ⟨u,_,h⟩:=k
  simpa [AV.bel] using Rel.bel hn x u h
 | .agg cs,v,k => by
  simp only [Rel] at k
  obtain ⟨vs,_,h,_⟩:=k
  simpa [AV.bel] using Rels.bel hn cs vs h
 | .tup cs,v,k => by
  simp only [Rel] at k
  obtain ⟨vs,_,h⟩:=k
  simpa [AV.bel] using Rels.bel hn cs vs h
theorem Rels.bel {n:Nat} (hn:g.n ≤ n):∀ (xs:List AV) (vs:List Value),Rels g xs vs → AV.bels n xs = true
 | [],vs,k => by simp [AV.bels]
 | x :: xs,vs,k => by
  simp only [Rels] at k
  obtain ⟨v,rest,_,h1,h2⟩:=k
  simp [AV.bels,Rel.bel hn x v h1,Rels.bel hn xs rest h2]
end
def G.back (g:G) (n:Nat):G:={ g with n:=n }
mutual
theorem Rel.back {n:Nat}:∀ (x:AV) (v:Value),Rel g x v → x.bel n = true → Rel (g.back n) x v
 | .sc x,v,k,_ => k
 | .ptr id off,v,k,hb => by
  simp only [Rel] at k ⊢
  simp only [AV.bel,decide_eq_true_eq] at hb
  exact ⟨hb,k.2⟩
 | .cptr x off,v,k,hb => by
  simp only [Rel] at k ⊢
  obtain ⟨b,o,u,h1,h2,h3⟩:=k
  exact ⟨b,o,u,Rel.back x u h1 (by simpa [AV.bel] using hb),h2,h3⟩
 | .sl id off len q ag cap,v,k,hb => by
  simp only [Rel] at k ⊢
  simp only [AV.bel,decide_eq_true_eq] at hb
  exact ⟨hb,k.2⟩
 | .emp 0,v,k,_ => k
 | .emp 1,v,k,_ => k
 | .emp 2,v,k,_ => k
 | .emp (n + 3),v,k,_ => k
 | .lst xs,v,k,hb => by
  simp only [Rel] at k ⊢
  obtain ⟨a,c,vs,q,h1,h2,h3,h4⟩:=k
  exact ⟨a,c,vs,q,h1,Rels.back xs vs h2 (by simpa [AV.bel] using hb),h3,h4⟩
 | .fn f fi ca,v,k,hb => by
  simp only [Rel] at k ⊢
  obtain ⟨vf,vc,h1,h2,h3⟩:=k
  simp only [AV.bel,Bool.and_eq_true] at hb
  exact ⟨vf,vc,h1,Rels.back fi vf h2 hb.1,Rels.back ca vc h3 hb.2⟩
 | .mp id,v,k,hb => by
  simp only [Rel] at k ⊢
  simp only [AV.bel,decide_eq_true_eq] at hb
  exact ⟨hb,k.2⟩
 | .yl id,v,k,hb => by
  simp only [Rel] at k ⊢
  simp only [AV.bel,decide_eq_true_eq] at hb
  exact ⟨hb,k.2⟩
 | .iface t x,v,k,hb => by
  simp only [Rel] at k ⊢
  obtain ⟨u,h1,h2⟩:=k
  exact ⟨u,h1,Rel.back x u h2 (by simpa [AV.bel] using hb)⟩
 | .agg cs,v,k,hb => by
  simp only [Rel] at k ⊢
  obtain ⟨vs,h1,h2,h3⟩:=k
  exact ⟨vs,h1,Rels.back cs vs h2 (by simpa [AV.bel] using hb),h3⟩
 | .tup cs,v,k,hb => by
  simp only [Rel] at k ⊢
  obtain ⟨vs,h1,h2⟩:=k
  exact ⟨vs,h1,Rels.back cs vs h2 (by simpa [AV.bel] using hb)⟩
theorem Rels.back {n:Nat}:∀ (xs:List AV) (vs:List Value),Rels g xs vs → AV.bels n xs = true → Rels (g.back n) xs vs
 | [],vs,k,_ => k
 | x :: xs,vs,k,hb => by
  simp only [Rels] at k ⊢
  obtain ⟨v,rest,h1,h2,h3⟩:=k
  simp only [AV.bels,Bool.and_eq_true] at hb
  exact ⟨v,rest,h1,Rel.back x v h2 hb.1,Rels.back xs rest h3 hb.2⟩
end
theorem Mem.loop_cut (m:Mem) (n i:Nat):(m.cut n).loop i = if i < n then m.loop i else none:=by
 unfold Mem.cut Mem.loop
 rw [Tr.get_filt]
 by_cases h:i < n <;> simp [h]
theorem Mem.map_cut (m:Mem) (n i:Nat):(m.cut n).map i = if i < n then m.map i else none:=by
 unfold Mem.cut Mem.map
 rw [Tr.get_filt]
 by_cases h:i < n <;> simp [h]
theorem VM.cut {m m':Mem} (h:VM m m'):VM m (m'.cut m.next):=by
 have hx:VMX m (m'.cut m.next):=by
  refine ⟨fun i => ⟨fun id L e => ?_,fun id M e => ?_⟩,fun id hi hg => ?_,fun id hi hg => ?_,fun i id L L' h1 h2 => ?_,fun i id L L' h1 h2 => ?_⟩
  ·rw [Mem.loop_cut] at e
   split at e
   ·rename_i hl; exact ⟨((h.x.inv i).l id L e).1,hl⟩
   ·cases e
  ·rw [Mem.map_cut] at e
   split at e
   ·rename_i hl; exact ⟨((h.x.inv i).m id M e).1,hl⟩
   ·cases e
  ·rw [Mem.loop_cut,h.x.lgone id hi hg]; split <;> rfl
  ·rw [Mem.map_cut,h.x.mgone id hi hg]; split <;> rfl
  ·rw [Mem.loop_cut] at h2
   split at h2
   ·exact h.x.lkept i id L L' h1 h2
   ·cases h2
  ·rw [Mem.map_cut] at h2
   split at h2
   ·exact h.x.mkept i id L L' h1 h2
   ·cases h2
 refine ⟨h.clock,Nat.le_refl _,fun i => ⟨fun id cs f v e => ?_,hx.inv i.2⟩,fun id hi hg => ?_,fun i id cs f v cs' f' v' h1 h2 => ?_,hx⟩
 ·rw [Mem.get_cut] at e
  split at e
  ·rename_i hl; exact ⟨((h.inv i).1 id cs f v e).1,hl⟩
  ·cases e
 ·rw [Mem.get_cut,h.gone id hi hg]; split <;> rfl
 ·rw [Mem.get_cut] at h2
  split at h2
  ·exact h.kept i id cs f v cs' f' v' h1 h2
  ·cases h2
theorem Ents.bels {n:Nat} (hn:g.n ≤ n):∀ {l:List (Value × AV × Nat)} {es:List MapEntry},Ents g l es → AV.bels n (l.map (·.2.1)) = true
 | [],es,h => by simp [AV.bels]
 | x :: l,es,h => by
  obtain ⟨v,es',_,h1,h2⟩:=h
  simp [AV.bels,Rel.bel hn _ _ h1,Ents.bels hn h2]
theorem Ents.back {n:Nat}:∀ {l:List (Value × AV × Nat)} {es:List MapEntry},Ents g l es → AV.bels n (l.map (·.2.1)) = true → Ents (g.back n) l es
 | [],es,h,_ => h
 | x :: l,es,h,hb => by
  obtain ⟨v,es',h0,h1,h2⟩:=h
  simp only [List.map_cons,AV.bels,Bool.and_eq_true] at hb
  exact ⟨v,es',h0,Rel.back _ _ h1 hb.1,Ents.back h2 hb.2⟩
theorem WX.back {n:Nat} {m2 mm:Mem} {w':World} (h:WX B g m2 w') (hn:n ≤ g.n) (hl:∀ id L,mm.loop id = some L → id < n ∧ m2.loop id = some L ∧ ∀ t,(L.c.s.at t).bel n = true)
  (hm:∀ id M,mm.map id = some M → id < n ∧ m2.map id = some M ∧ AV.bels n (M.es.map (·.2.1)) = true) (ho:∀ id,(mm.get id).isSome = true → (m2.get id).isSome = true):WX B (g.back n) mm w':=by
 refine ⟨fun id L e => ?_,fun i j hi hj he => ?_,fun id M e => ?_,fun i j hi hj he => ?_,h.df,h.lb,fun b o hb => have p:=h.pn b o hb; ⟨p.base,p.here,p.kind,p.fz,fun i hi => p.obj i (ho i hi),fun i hi => by
  obtain ⟨M,hM⟩:=Option.isSome_iff_exists.1 hi
  exact p.map i (by rw [(hm i M hM).2.1]; rfl)⟩⟩
 ·obtain ⟨a,b,c⟩:=hl id L e
  obtain ⟨_,d,fn,tmps,df,e1,e2,e3⟩:=h.lids id L b
  exact ⟨a,d,fn,tmps,df,e1,e2,fun t => Rel.back _ _ (e3 t) (c t)⟩
 ·obtain ⟨L,hL⟩:=Option.isSome_iff_exists.1 hi
  obtain ⟨L',hL'⟩:=Option.isSome_iff_exists.1 hj
  exact h.linj i j (by rw [(hl i L hL).2.1]; rfl) (by rw [(hl j L' hL').2.1]; rfl) he
 ·obtain ⟨a,b,c⟩:=hm id M e
  obtain ⟨_,d,es,e1,e2⟩:=h.mids id M b
  exact ⟨a,d,es,e1,e2.back c⟩
 ·obtain ⟨L,hL⟩:=Option.isSome_iff_exists.1 hi
  obtain ⟨L',hL'⟩:=Option.isSome_iff_exists.1 hj
  exact h.minj i j (by rw [(hm i L hL).2.1]; rfl) (by rw [(hm j L' hL').2.1]; rfl) he
theorem VM.gcw {k:Nat} {m m':Mem} {r:AV × Mem} {v:AV} (h:VM m r.2) (e:gcw k m r = some (v,m')):VM m m':=by
 unfold Go.V.gcw at e
 split at e
 ·cases e; exact h
 ·split at e
  ·cases e; exact .refl _
  ·cases e
 ·split at e
  ·cases e; exact h.cut
  ·cases e
theorem Aic {k:Nat} {m1 m2 m':Mem} {x v:AV} {u:Value} {g1 g3:G} {w':World} (h1:WR B W g1 m1 w) (hvi:VI m1) (hvm:VM m1 m2) (l:g1.le g3) (w3:WR B W g3 m2 w') (r3:Rel g3 x u) (e:gcw k m1 (x,m2) = some (v,m')) :
  ∃ g4,g1.le g4 ∧ Rel g4 v u ∧ WR B W g4 m' w':=by
 have old:∀ id cs f ver,m1.get id = some (.cells cs f ver) → AV.bels m1.next cs = true:=by
  intro id cs f ver hg
  obtain ⟨_,⟨_,vs,_,_,_,_,hr,_⟩,_⟩:=h1.objs id cs f ver hg
  exact Rels.bel (by rw [h1.n]; exact Nat.le_refl _) cs vs hr
 have lb:g1.le (g3.back m1.next):=⟨by simp [G.back,h1.n],l.mu,l.sz,l.ln,l.fz,l.df,l.lb,l.pn⟩
 have same:∀ id,sameO (m1.get id) (m2.get id) = true → m2.get id = m1.get id:=by
  intro id hs
  unfold sameO at hs
  split at hs
  ·rename_i cs f v cs' f' v' e1 e2
   simp only [Bool.and_eq_true,beq_iff_eq] at hs
   obtain ⟨rfl,rfl⟩:=hs
   rcases hvm.kept hvi id _ _ _ _ _ _ e1 e2 with ⟨_,rfl⟩ | h
   ·rw [e1,e2]
   ·have:=(hvi.1 id _ _ _ e1).1; omega
  ·rename_i e1 e2; rw [e1,e2]
  ·cases hs
 have obj:∀ id cs f ver,m2.get id = some (.cells cs f ver) → AV.bels m1.next cs = true → ObjR B (g3.back m1.next) id cs f w':=by
  intro id cs f ver hg hb
  obtain ⟨a1,⟨pre,vs,post,el,a2,a3,a4,a5,a6⟩,a7⟩:=w3.objs id cs f ver hg
  exact ⟨a1,⟨pre,vs,post,el,a2,a3,Rels.back cs vs a4 hb,a5,a6⟩,a7⟩
 have lbel:∀ id L1 L,m1.loop id = some L1 → m2.loop id = some L → ∀ t,(L.c.s.at t).bel m1.next = true:=by
  intro id L1 L e1 e2 t
  obtain ⟨hc,_⟩:=hvm.x.lkept hvi.2 id L1 L e1 e2
  obtain ⟨_,_,_,_,_,_,_,hr⟩:=h1.x.lids id L1 e1
  rw [hc]
  exact Rel.bel (by rw [h1.n]; exact Nat.le_refl _) _ _ (hr t)
 have lhas:∀ id L,id < m1.next → m2.loop id = some L → ∃ L1,m1.loop id = some L1:=by
  intro id L hi e2
  cases e1:m1.loop id with
  | some L1 => exact ⟨L1,rfl⟩
  | none => rw [hvm.x.lgone id hi e1] at e2; cases e2
 have mhas:∀ id M,id < m1.next → m2.map id = some M → ∃ M1,m1.map id = some M1:=by
  intro id L hi e2
  cases e1:m1.map id with
  | some L1 => exact ⟨L1,rfl⟩
  | none => rw [hvm.x.mgone id hi e1] at e2; cases e2
 have mold:∀ id M,m1.map id = some M → AV.bels m1.next (M.es.map (·.2.1)) = true:=by
  intro id M hM
  obtain ⟨_,_,es,_,hE⟩:=h1.x.mids id M hM
  exact hE.bels (by rw [h1.n]; exact Nat.le_refl _)
 have msame:∀ id,sameM (m1.map id) (m2.map id) = true → m2.map id = m1.map id:=by
  intro id hs
  unfold sameM at hs
  split at hs
  ·rename_i a b e1 e2
   simp only [beq_iff_eq] at hs
   rcases hvm.x.mkept hvi.2 id _ _ e1 e2 with rfl | h
   ·rw [e1,e2]
   ·have:=(hvi.2.m id _ e1).1; omega
  ·rename_i e1 e2; rw [e1,e2]
  ·cases hs
 have lsame:∀ id,sameL (m1.loop id) (m2.loop id) = true → m2.loop id = m1.loop id:=by
  intro id hs
  unfold sameL at hs
  split at hs
  ·rename_i a b e1 e2
   simp only [beq_iff_eq] at hs
   rcases (hvm.x.lkept hvi.2 id _ _ e1 e2).2 with rfl | h
   ·rw [e1,e2]
   ·have:=(hvi.2.l id _ e1).1; omega
  ·rename_i e1 e2; rw [e1,e2]
  ·cases hs
 have hn3:m1.next ≤ g3.n:=by rw [h1.n]; exact l.n
 unfold Go.V.gcw at e
 split at e
 ·cases e; exact ⟨g3,l,r3,w3⟩
 ·split at e
  ·rename_i hc
   cases e
   simp only [sameX,Bool.and_eq_true,List.all_eq_true,List.mem_range] at hc
   have sm:∀ id,id < m1.next → m2.get id = m1.get id:=fun id hi => same id (hc.1.2 id hi)
   have sl:∀ id,id < m1.next → m2.loop id = m1.loop id:=fun id hi => lsame id (hc.2 id hi).1
   have smp:∀ id,id < m1.next → m2.map id = m1.map id:=fun id hi => msame id (hc.2 id hi).2
   have hX:WX B (g3.back m1.next) m1 w':=by
    refine w3.x.back hn3 (fun id L e => ?_) (fun id M e => ?_) (fun id hi => ?_)
    rotate_right
    ·obtain ⟨o,ho⟩:=Option.isSome_iff_exists.1 hi
     have hlt:=h1.ids id o ho
     rw [← h1.n] at hlt
     rw [sm id hlt]; exact hi
    ·have hi:=(hvi.2.l id L e).2
     exact ⟨hi,(sl id hi).trans e,lbel id L L e ((sl id hi).trans e)⟩
    ·have hi:=(hvi.2.m id M e).2
     exact ⟨hi,(smp id hi).trans e,mold id M e⟩
   refine ⟨g3.back m1.next,lb,r3.back _ _ hc.1.1,w3.below,w3.base,rfl,?_,?_,?_,w3.fz,hX⟩
   ·intro id o hg; have:=h1.ids id o hg; rw [← h1.n] at this; exact this
   ·intro id cs f ver hg
    have hi:=h1.ids id _ hg
    rw [← h1.n] at hi
    exact obj id cs f ver ((sm id hi).trans hg) (old id cs f ver hg)
   ·intro i j hi hj he
    obtain ⟨o,ho⟩:=Option.isSome_iff_exists.1 hi
    obtain ⟨o',ho'⟩:=Option.isSome_iff_exists.1 hj
    have a:=h1.ids i o ho; have b:=h1.ids j o' ho'
    rw [← h1.n] at a b
    exact w3.inj i j (by rw [sm i a,ho]; rfl) (by rw [sm j b,ho']; rfl) he
  ·cases e
 ·split at e
  ·rename_i hc
   cases e
   simp only [keptX,Bool.and_eq_true,List.all_eq_true,List.mem_range,Bool.or_eq_true] at hc
   have hX:WX B (g3.back m1.next) (m2.cut m1.next) w':=by
    refine w3.x.back hn3 (fun id L e => ?_) (fun id M e => ?_) (fun id hi => ?_)
    rotate_right
    ·rw [Mem.get_cut] at hi
     split at hi
     ·exact hi
     ·cases hi
    ·rw [Mem.loop_cut] at e
     split at e
     ·rename_i hi
      obtain ⟨L1,h1'⟩:=lhas id L hi e
      exact ⟨hi,e,lbel id L1 L h1' e⟩
     ·cases e
    ·rw [Mem.map_cut] at e
     split at e
     ·rename_i hi
      refine ⟨hi,e,?_⟩
      rcases hc.2 id hi with h | h
      ·exact mold id M ((msame id h).symm.trans e)
      ·rw [e] at h; exact h
     ·cases e
   refine ⟨g3.back m1.next,lb,r3.back _ _ hc.1.1,w3.below,w3.base,rfl,?_,?_,?_,w3.fz,hX⟩
   ·intro id o hg
    rw [Mem.get_cut] at hg
    split at hg
    ·assumption
    ·cases hg
   ·intro id cs f ver hg
    rw [Mem.get_cut] at hg
    split at hg
    ·rename_i hi
     refine obj id cs f ver hg ?_
     rcases hc.1.2 id hi with h | h
     ·exact old id cs f ver ((same id h).symm.trans hg)
     ·rw [hg] at h; exact h
    ·cases hg
   ·intro i j hi hj he
    rw [Mem.get_cut] at hi hj
    refine w3.inj i j ?_ ?_ he
    ·split at hi
     ·exact hi
     ·cases hi
    ·split at hj
     ·exact hj
     ·cases hj
  ·cases e
end Go.V
