/- Part of a proof. -/
import Derived.Test.YtnhcmcfgemoehaaGreatDS6
import Derived.ProofKit
set_option maxHeartbeats 64000000
set_option linter.unusedSimpArgs false
set_option linter.unusedVariables false
set_option linter.unusedSectionVars false
namespace Go.Proofs.YtnhcmcfgemoehaaGreat
set_option maxRecDepth 4000
open Go.V
theorem Abc:Tryz.prog.follows .mixedOrders = true:=by kernel_rfl
theorem cl24:CloneAt Tryz.prog 62:=⟨fun m => by kernel_rfl,fun m => ⟨1,false,by kernel_rfl⟩⟩
theorem cl38:CloneAt Tryz.prog 110:=⟨fun m => by kernel_rfl,fun m => ⟨2,true,by kernel_rfl⟩⟩
theorem cl39:CloneAt Tryz.prog 111:=⟨fun m => by kernel_rfl,fun m => ⟨1,false,by kernel_rfl⟩⟩
theorem mcl37:ByHand Tryz.prog 109 mcloneH:=Anh Tryz.func109 (by kernel_rfl) rfl (by kernel_rfl) (by kernel_rfl)
noncomputable def ck:Cfg:=⟨fun _ => true,fun _ => true,fun f => if f == 62 || f == 110 || f == 111 then some (cloneH Tryz.prog f) else if f == 109 then some mcloneH else none,fun _ => 0⟩
theorem Arv (f:FuncId) (h:List AV → Mem → Option (AV × Mem)) (e:ck.hook f = some h):ByHand Tryz.prog f h:=by
 unfold ck at e
 dsimp only at e
 split at e
 ·rename_i hc
  cases e
  have:f = 62 ∨ f = 110 ∨ f = 111:=by simpa [or_assoc] using hc
  rcases this with rfl | rfl | rfl
  ·exact ⟨fun B W args m v m' e2 hv => Ac9 Abc cl24 e2 hv,fun args m v m' e2 => Agr (W:=default) e2⟩
  ·exact ⟨fun B W args m v m' e2 hv => Ac9 Abc cl38 e2 hv,fun args m v m' e2 => Agr (W:=default) e2⟩
  ·exact ⟨fun B W args m v m' e2 hv => Ac9 Abc cl39 e2 hv,fun args m v m' e2 => Agr (W:=default) e2⟩
 ·split at e
  ·rename_i hc
   have:f = 109:=by simpa using hc
   subst this
   cases e
   exact mcl37
  ·cases e
def leavesP:List Nat:=[20,37,39,32,63,42,66,76,113,118,134]
noncomputable def cp:Cfg:=⟨fun _ => false,fun _ => false,fun f => if f == 62 || f == 110 || f == 111 then some (cloneP Tryz.prog f) else if f == 109 then some mcloneH else if f == 7 || f == 33 then some (roH (limH Tryz.prog ck f)) else none,fun f => if leavesP.contains f then 0 else 1⟩
theorem Ar8 {P:Program} {cfg c2:Cfg} {n:Nat} {f:FuncId} {v:AV} {m:Mem} (hk:cfg.hook f = some (roH (limH P c2 f))) (h:(afn P c2 n (.func f) [] Mem.empty).map (·.1) = some v) (hv:v.out = true):EH P cfg (.func f) [] m v m:=by
 refine Ad0 hk ?_
 obtain ⟨⟨v',m'⟩,h1,h2⟩:=Option.map_eq_some_iff.1 h
 cases h2
 have h3:limH P c2 f [] Mem.empty = some (v',m'):=Ah4 (.of h1)
 unfold roH
 simp [fzvs,AV.bels,h3,hv]
def rws:List (List UInt8 × Int × Int) :=
 [([43],0,-1),
  ([45],1,-1),
  ([42],0,-1),
  ([113,117,111,116,105,101,110,116],2,2),
  ([114,101,109,97,105,110,100,101,114],2,2),
  ([109,111,100,117,108,111],2,2),
  ([61],1,-1),
  ([60],1,-1),
  ([62],1,-1),
  ([60,61],1,-1),
  ([62,61],1,-1),
  ([122,101,114,111,63],1,1),
  ([110,111,116],1,1),
  ([101,113,63],2,2),
  ([101,113,117,97,108,63],2,2),
  ([99,111,110,115],2,2),
  ([99,97,114],1,1),
  ([99,100,114],1,1),
  ([115,101,116,45,99,97,114,33],2,2),
  ([115,101,116,45,99,100,114,33],2,2),
  ([112,97,105,114,63],1,1),
  ([110,117,108,108,63],1,1),
  ([108,105,115,116],0,-1),
  ([108,101,110,103,116,104],1,1),
  ([97,112,112,101,110,100],0,-1),
  ([114,101,118,101,114,115,101],1,1),
  ([108,105,115,116,45,114,101,102],2,2),
  ([118,101,99,116,111,114],0,-1),
  ([109,97,107,101,45,118,101,99,116,111,114],1,2),
  ([118,101,99,116,111,114,45,114,101,102],2,2),
  ([118,101,99,116,111,114,45,115,101,116,33],3,3),
  ([118,101,99,116,111,114,45,108,101,110,103,116,104],1,1),
  ([115,116,114,105,110,103,45,108,101,110,103,116,104],1,1),
  ([115,116,114,105,110,103,45,114,101,102],2,2),
  ([115,116,114,105,110,103,45,97,112,112,101,110,100],0,-1),
  ([115,117,98,115,116,114,105,110,103],3,3),
  ([115,116,114,105,110,103,61,63],2,2),
  ([115,121,109,98,111,108,45,62,115,116,114,105,110,103],1,1),
  ([115,116,114,105,110,103,45,62,115,121,109,98,111,108],1,1),
  ([110,117,109,98,101,114,45,62,115,116,114,105,110,103],1,1),
  ([115,116,114,105,110,103,45,62,110,117,109,98,101,114],1,1),
  ([99,104,97,114,45,62,105,110,116,101,103,101,114],1,1),
  ([105,110,116,101,103,101,114,45,62,99,104,97,114],1,1),
  ([115,121,109,98,111,108,63],1,1),
  ([115,116,114,105,110,103,63],1,1),
  ([110,117,109,98,101,114,63],1,1),
  ([98,111,111,108,101,97,110,63],1,1),
  ([99,104,97,114,63],1,1),
  ([112,114,111,99,101,100,117,114,101,63],1,1),
  ([118,101,99,116,111,114,63],1,1),
  ([97,98,115],1,1),
  ([109,105,110],1,-1),
  ([109,97,120],1,-1),
  ([101,120,112,116],2,2),
  ([103,99,100],0,-1),
  ([],0,0),
  ([],0,0),
  ([],0,0),
  ([],0,0),
  ([],0,0),
  ([],0,0),
  ([],0,0),
  ([],0,0),
  ([],0,0),
  ([97,112,112,108,121],2,2),
  ([99,97,108,108,47,49,99,99],1,1),
  ([101,114,114,111,114],1,-1),
  ([115,112,97,119,110],1,1),
  ([121,105,101,108,100],0,0),
  ([106,111,105,110],1,1),
  ([115,101,108,102],0,0),
  ([109,97,107,101,45,99,104,97,110,110,101,108],1,1),
  ([115,101,110,100],2,2),
  ([114,101,99,101,105,118,101],1,1),
  ([99,108,111,115,101],1,1),
  ([109,97,107,101,45,109,117,116,101,120],0,0),
  ([108,111,99,107],1,1),
  ([117,110,108,111,99,107],1,1),
  ([109,97,107,101,45,99,111,110,100,105,116,105,111,110],0,0),
  ([119,97,105,116],2,2),
  ([115,105,103,110,97,108],1,1),
  ([98,114,111,97,100,99,97,115,116],1,1),
  ([109,97,107,101,45,101,110,103,105,110,101],1,1),
  ([114,117,110,45,101,110,103,105,110,101],4,4),
  ([100,105,115,112,108,97,121],1,1)]
def rowC (r:List UInt8 × Int × Int):List AV:=[.sc (.string ⟨⟨r.1⟩⟩),int r.2.1,int r.2.2]
def tableA:AV:=.agg (rws.flatMap rowC)
theorem Aga:rws.length = 85:=rfl
theorem Ann (l:List (List UInt8 × Int × Int)):(l.flatMap rowC).length = 3 * l.length:=by
 induction l with
 | nil => rfl
 | cons r l ih => rw [List.flatMap_cons,List.length_append,ih,List.length_cons]; show 3 + _ = _; omega
theorem Ar6:∀ (l:List (List UInt8 × Int × Int)) (i:Nat) (r:List UInt8 × Int × Int),l[i]? = some r → ((l.flatMap rowC).drop (i * 3)).take 3 = rowC r
 | [],i,r,h => by simp at h
 | q :: l,0,r,h => by
  simp at h; subst h
  rfl
 | q :: l,i + 1,r,h => by
  have:=Ar6 l i r (by simpa using h)
  rw [List.flatMap_cons,show (i + 1) * 3 = (rowC q).length + i * 3 by show _ = 3 + _; omega,List.drop_append,List.drop_eq_nil_of_le (by omega),Nat.add_sub_cancel_left]
  exact this
theorem run22:(afn Tryz.prog ck 3 (.func 33) [] Mem.empty).map (·.1) = some tableA:=by kernel_rfl
theorem Ary:tableA.out = true:=by kernel_rfl
theorem run6:(afn Tryz.prog ck 40 (.func 7) [] Mem.empty).map (·.1) = some (.sc (.bool true)):=by kernel_rfl
theorem g6 (m:Mem):EH Tryz.prog cp (.func 7) [] m (.sc (.bool true)) m:=Ar8 rfl run6 rfl
theorem Avh {i:Nat} {r:List UInt8 × Int × Int} (h:rws[i]? = some r):aindex Tryz.prog 87 tableA (int i) = some (.agg (rowC r)):=by
 have hi:i < 85:=by
  have:=(List.getElem?_eq_some_iff.1 h).1
  rwa [Aga] at this
 have hl:(rws.flatMap rowC).length = 255:=by rw [Ann,Aga]
 unfold aindex tableA
 have h0:¬ ((i:Int) < 0):=by omega
 simp only [h0,if_false,A1p,Ars,Int.toNat_natCast,hi,if_true]
 rw [Afh A1q Ars,if_pos (by omega),Ar6 rws i r h]
attribute [irreducible] rws
end Go.Proofs.YtnhcmcfgemoehaaGreat
namespace Go.Proofs.YtnhcmcfgemoehaaGreat
open Go.V
def leavesA:List Nat:=[20,21,36,59,60,64,63,76,42,78,37,134,127,118,66,113,39,70,71,72,130,129,132,137,138,139,128,131,22,61,108,133,172,171,181,144,101,80,44,93,92,94,99,97,52,53,54,27,26,43,91,151,176]
def toldD:List Nat:=[23,35,79,100,106,40]
noncomputable def ca:Cfg:=⟨fun f => f == 64 || f == 78 || f == 131 || f == 176 || f == 30 || f == 56,fun f => f == 64 || f == 130 || f == 151 || f == 176,
 fun f => if f == 110 || f == 62 then some (cloneL Tryz.prog f) else if f == 111 then some (cloneP Tryz.prog f) else if f == 109 then some mcloneH else if f == 7 || f == 33 then some (roH (limH Tryz.prog ck f)) else if toldD.contains f then some (limH Tryz.prog cf f) else if f == 12 then some (fzH (limH Tryz.prog ck 12)) else none,
 fun f => if leavesA.contains f then 0 else 1⟩
theorem Aho {f:FuncId} (h:CloneAt Tryz.prog f):ByHand Tryz.prog f (cloneL Tryz.prog f):=⟨fun B W args m v m' e2 hv => Ag0 Abc h e2 hv,fun args m v m' e2 => Agq (W:=default) e2⟩
theorem Ani {f:FuncId} (h:CloneAt Tryz.prog f):ByHand Tryz.prog f (cloneP Tryz.prog f):=⟨fun B W args m v m' e2 hv => Amw Abc h e2 hv,fun args m v m' e2 => Aq5 (W:=default) e2⟩
theorem Ay9 (f:FuncId) (h:List AV → Mem → Option (AV × Mem)) (e:cf.hook f = some h):ByHand Tryz.prog f h:=by
 cases e
theorem Aza (f:FuncId) (h:List AV → Mem → Option (AV × Mem)) (e:ca.hook f = some h):ByHand Tryz.prog f h:=by
 unfold ca at e
 dsimp only at e
 split at e
 ·rename_i hc
  have:f = 110 ∨ f = 62:=by simpa using hc
  cases e
  rcases this with rfl | rfl
  ·exact Aho cl38
  ·exact Aho cl24
 ·split at e
  ·rename_i hc
   have:f = 111:=by simpa using hc
   subst this
   cases e
   exact Ani cl39
  ·split at e
   ·rename_i hc
    have:f = 109:=by simpa using hc
    subst this
    cases e
    exact mcl37
   ·split at e
    ·cases e; exact Ay7 (Aj9 Abc Arv f)
    ·split at e
     ·cases e; exact Aj9 Abc Ay9 f
     ·split at e
      ·rename_i hc
       have:f = 12:=by simpa using hc
       subst this
       cases e
       exact Ay8 (Aj9 Abc Arv 12)
      ·cases e
theorem hooksA (B:Bs) (W:World):Hooks Tryz.prog B W ca:=Akl Aza
theorem Ad2 {f:FuncId} {args:List AV} {r:AV} (h:Gives Tryz.prog cf f args r) (hf:ca.hook f = some (limH Tryz.prog cf f):=by rfl):Gives Tryz.prog ca f args r:=fun m0 args0 m hz => Ad0 hf (Ah4 (h m0 args0 m hz))
abbrev Val:=Int × Int
structure CeM where
 k:Int
 n:Int
 a:List Val
 s:List UInt8
structure ArM where
 room:Int
 cells:List CeM
 names:List (List UInt8)
abbrev strA (s:List UInt8):AV:=.sc (.string ⟨⟨s⟩⟩)
def valA (v:Val):AV:=.agg [int v.1,int v.2]
def vals (l:List Val):List AV:=l.map valA
def byts (s:List UInt8):List AV:=s.map fun b => .sc (.int .u8 b.toNat)
def ceA (c:CeM):AV:=.agg [int c.k,int c.n,.lst (vals c.a),.lst (byts c.s)]
def rowA (c:CeM) (x:AV):AV:=.agg [int c.k,int c.n,x,.lst (byts c.s)]
@[simp] theorem Acv (v:Val):(valA v).cells = [int v.1,int v.2]:=Eq.trans rfl rfl
@[simp] theorem A3f (v:Val):(valA v).okc = true:=Eq.trans rfl rfl
@[simp] theorem A3g (v:Val) (n:Nat):(valA v).bel n = true:=Eq.trans rfl rfl
@[simp] theorem Au9 (v:Val) (m:Mem):fzv m (valA v) = (valA v,m):=by simp [valA,fzv,fzs,fz1]
theorem Aaa (v:Val):AV.agg [int v.1,int v.2] = valA v:=Eq.trans rfl rfl
@[simp] theorem Aav (l:List Val):(vals l).length = l.length:=by simp [vals]
theorem Aeg (l:List Val) (i:Nat):(vals l)[i]? = (l[i]?).map valA:=by simp [vals]
@[simp] theorem Aef:vals [] = []:=rfl
theorem Aay (v:Val) (l:List Val):vals (v :: l) = valA v :: vals l:=rfl
theorem Ab8 (l r:List Val):vals (l ++ r) = vals l ++ vals r:=by simp [vals]
@[simp] theorem Ali (m:Mem):∀ l:List Val,fzvs m (vals l) = (vals l,m)
 | [] => rfl
 | v :: l => by simp [Aay,fzvs,Ali m l]
@[simp] theorem Arn (n:Nat):∀ l:List Val,AV.bels n (vals l) = true
 | [] => rfl
 | v :: l => by simp [Aay,AV.bels,Arn n l]
@[simp] theorem Aa4:∀ l:List Val,okAll 2 (vals l) = true
 | [] => rfl
 | v :: l => by rw [Aay,Aao,Aa4 l]; simp
theorem Ab0 (l:List Val):∀ y ∈ vals l,y.cells.length = 2 ∧ (if true then AV.agg y.cells = y else y.cells = [y]):=by
 intro y hy
 obtain ⟨p,_,rfl⟩:=List.mem_map.1 hy
 simp [valA]
@[simp] theorem A1a (s:List UInt8):(byts s).length = s.length:=by simp [byts]
@[simp] theorem A3w:byts [] = []:=rfl
@[simp] theorem Auc (m:Mem):∀ l:List UInt8,fzvs m (byts l) = (byts l,m)
 | [] => rfl
 | v :: l => by
  have:=Auc m l
  simp only [byts] at this
  simp [byts,fzvs,this]
@[simp] theorem Aud (n:Nat):∀ l:List UInt8,AV.bels n (byts l) = true
 | [] => rfl
 | v :: l => by
  have:=Aud n l
  simp only [byts] at this
  simp [byts,AV.bels,AV.bel,this]
@[simp] theorem Aie:∀ l:List UInt8,okAll 1 (byts l) = true
 | [] => rfl
 | v :: l => by
  have:=Aie l
  simp only [byts] at this
  simp [byts,Aao,this]
@[simp] theorem A4m (c:CeM):(ceA c).okc = true:=Eq.trans rfl rfl
@[simp] theorem Afv (c:CeM):(ceA c).cells = [int c.k,int c.n,.lst (vals c.a),.lst (byts c.s)]:=Eq.trans rfl rfl
@[simp] theorem A4o (c:CeM) (n:Nat):(ceA c).bel n = true:=by simp [ceA,AV.bel,AV.bels]
@[simp] theorem A4n (c:CeM) (m:Mem):fzv m (ceA c) = (ceA c,m):=by simp [ceA,fzv,fzs,fz1]
@[simp] theorem A3s (c:CeM) (x:AV):(rowA c x).okc = true:=Eq.trans rfl rfl
@[simp] theorem Ajj (c:CeM) (x:AV):(rowA c x).cells = [int c.k,int c.n,x,.lst (byts c.s)]:=Eq.trans rfl rfl
theorem Apa (c:CeM) (x:AV):AV.agg (rowA c x).cells = rowA c x:=Eq.trans rfl rfl
def Has (t:Nat → Option Nat) (n k:Nat) (ag:Bool) (e:AV) (m:Mem) (x:AV) (ys:List AV):Prop :=
 (ys = [] ∧ x = e) ∨ (ys ≠ [] ∧ ∃ id v,x = .sl id 0 ys.length k ag none ∧ id < m.next ∧ t id = some n ∧ m.get id = some (.cells (flat ys) false v))
theorem Has.mono {t t':Nat → Option Nat} {n k:Nat} {ag:Bool} {e x:AV} {m m':Mem} {ys:List AV} (h:Has t n k ag e m x ys) (hn:m.next ≤ m'.next) (hk:∀ j,j < m.next → t j = some n → m'.get j = m.get j ∧ t' j = some n):Has t' n k ag e m' x ys:=by
 rcases h with h | ⟨h,id,v,rfl,h1,h2,h3⟩
 ·exact .inl h
 ·obtain ⟨a,b⟩:=hk id h1 h2
  exact .inr ⟨h,id,v,rfl,by omega,b,by rw [a]; exact h3⟩
def symE (i:Nat):List (List UInt8) → List (Value × AV × Nat)
 | [] => []
 | s :: l => (.string ⟨⟨s⟩⟩,int i,i) :: symE (i + 1) l
structure ArT (t:Nat → Option Nat) (A M:Nat) (cs ns:AV) (xs:List AV) (a:ArM) (m:Mem):Prop where
 lt:A < m.next
 ta:t A = some 0
 get:∃ v,m.get A = some (.cells [int a.room,cs,ns,.mp M] false v)
 ml:M < m.next
 tm:t M = some 3
 map:∃ v,m.map M = some ⟨symE 0 a.names,a.names.length,v⟩
 cells:Has t 1 4 true (.emp 0) m cs (List.zipWith rowA a.cells xs)
 names:Has t 2 1 false (.emp 0) m ns (a.names.map strA)
 len:xs.length = a.cells.length
 row:∀ (i:Nat) c x,a.cells[i]? = some c → xs[i]? = some x → Has t (4 + i) 2 true (.emp 1) m x (vals c.a)
 sane:1 ≤ a.room ∧ a.room ≤ 65536 ∧ (a.cells.length:Int) ≤ a.room ∧ a.names.length ≤ 65536
def Ar (X:Nat → Prop) (A:Nat) (a:ArM) (m:Mem):Prop:=∃ t M cs ns xs,ArT t A M cs ns xs a m ∧ ∀ j,t j ≠ none → X j ∧ j < m.next
def Up (X:Nat → Prop) (A:Nat) (a:ArM) (m m':Mem):Prop:=∃ X',Ar X' A a m' ∧ KpC X m m' ∧ ∀ j,X' j → X j ∨ m.next ≤ j
theorem ArT.kc {t:Nat → Option Nat} {A M:Nat} {cs ns:AV} {xs:List AV} {a:ArM} {m m':Mem} {Y:Nat → Prop} (h:ArT t A M cs ns xs a m) (k:KpC Y m m') (hY:∀ j n,j < m.next → t j = some n → ¬ Y j):ArT t A M cs ns xs a m':=by
 obtain ⟨lt,ta,⟨v,get⟩,ml,tm,⟨v2,map⟩,cells,names,len,row,sane⟩:=h
 have keep:∀ j n,j < m.next → t j = some n → m'.get j = m.get j ∧ t j = some n:=fun j n hj ht => ⟨k.get j hj (hY j n hj ht),ht⟩
 exact ⟨Nat.lt_of_lt_of_le lt k.next,ta,⟨v,by rw [(keep _ _ lt ta).1]; exact get⟩,Nat.lt_of_lt_of_le ml k.next,tm,⟨v2,by rw [(k.x M ml (hY _ _ ml tm)).2]; exact map⟩,cells.mono k.next fun j => keep j _,names.mono k.next fun j => keep j _,len,fun i c x hc hx => (row i c x hc hx).mono k.next fun j => keep j _,sane⟩
section
variable {X Y:Nat → Prop} {A:Nat} {a b:ArM} {m m1 m':Mem}
theorem Ar.kc (h:Ar X A a m) (k:KpC Y m m') (hY:∀ j,X j → Y j → m.next ≤ j):Ar X A a m':=by
 obtain ⟨t,M,cs,ns,xs,h,hx⟩:=h
 refine ⟨t,M,cs,ns,xs,h.kc k fun j n hj ht y => ?_,fun j hj => ⟨(hx j hj).1,Nat.lt_of_lt_of_le (hx j hj).2 k.next⟩⟩
 have:=hY j (hx j (by rw [ht]; simp)).1 y
 omega
theorem Ar.kp (h:Ar X A a m) (k:Kp m m'):Ar X A a m':=h.kc (Y:=fun _ => False) (.of (.of k)) fun _ _ h => h.elim
theorem Ar.mono (h:Ar X A a m) (k:∀ j,j < m.next → X j → Y j):Ar Y A a m:=by
 obtain ⟨t,M,cs,ns,xs,h,hx⟩:=h
 exact ⟨t,M,cs,ns,xs,h,fun j hj => ⟨k j (hx j hj).2 (hx j hj).1,(hx j hj).2⟩⟩
theorem Ar.lt (h:Ar X A a m):A < m.next:=by
 obtain ⟨_,_,_,_,_,h,_⟩:=h
 exact h.lt
theorem Ar.own (h:Ar X A a m):X A:=by
 obtain ⟨_,_,_,_,_,h,hx⟩:=h
 exact (hx A (by rw [h.ta]; simp)).1
theorem Ar.sane (h:Ar X A a m):1 ≤ a.room ∧ a.room ≤ 65536 ∧ (a.cells.length:Int) ≤ a.room ∧ a.names.length ≤ 65536:=by
 obtain ⟨_,_,_,_,_,h,_⟩:=h
 exact h.sane
theorem Up.refl (h:Ar X A a m):Up X A a m m:=⟨X,h,.refl _ _,fun _ h => .inl h⟩
theorem Up.kp (h:Ar X A a m) (k:Kp m m'):Up X A a m m':=⟨X,h.kp k,.of (.of k),fun _ h => .inl h⟩
theorem Up.after {X1:Nat → Prop} (k:KpC X m m1) (hx:∀ j,X1 j → X j ∨ m.next ≤ j) (h:Up X1 A a m1 m'):Up X A a m m':=by
 obtain ⟨X2,h1,h2,h3⟩:=h
 have hn:=k.next
 refine ⟨X2,h1,(KpC.cut ((k.mono fun j h => .inl h).trans (h2.mono hx))),fun j hj => ?_⟩
 rcases h3 j hj with h | h
 ·exact hx j h
 ·exact .inr (by omega)
end
theorem Ark {c:CeM} {x:AV}:∀ {l:List CeM} {xs:List AV} {i:Nat},l[i]? = some c → xs[i]? = some x → (List.zipWith rowA l xs)[i]? = some (rowA c x)
 | [],_,i,h,_ => by simp at h
 | _ :: _,[],i,_,h => by simp at h
 | a :: l,b :: xs,0,h,k => by simp at h k; subst h; subst k; rfl
 | a :: l,b :: xs,i + 1,h,k => by simpa using Ark (l:=l) (xs:=xs) (i:=i) (by simpa using h) (by simpa using k)
theorem Ahj:∀ (l:List CeM) (xs:List AV),okAll 4 (List.zipWith rowA l xs) = true
 | [],_ => rfl
 | _ :: _,[] => rfl
 | a :: l,b :: xs => by rw [List.zipWith_cons_cons,Aao,Ahj l xs]; simp
theorem ArT.at {t:Nat → Option Nat} {A M:Nat} {cs ns:AV} {xs:List AV} {a:ArM} {m:Mem} (h:ArT t A M cs ns xs a m) {i:Nat} {c:CeM} (hc:a.cells[i]? = some c) :
  ∃ C v x,cs = .sl C 0 a.cells.length 4 true none ∧ C < m.next ∧ t C = some 1 ∧ m.get C = some (.cells (flat (List.zipWith rowA a.cells xs)) false v) ∧ xs[i]? = some x ∧ (List.zipWith rowA a.cells xs)[i]? = some (rowA c x) ∧ Has t (4 + i) 2 true (.emp 1) m x (vals c.a):=by
 have hi:=(List.getElem?_eq_some_iff.1 hc).1
 obtain ⟨x,hx⟩:∃ x,xs[i]? = some x:=⟨_,List.getElem?_eq_getElem (by rw [h.len]; exact hi)⟩
 have hz:=Ark hc hx
 rcases h.cells with ⟨e,_⟩ | ⟨_,C,v,h1,h2,h3,h4⟩
 ·rw [e] at hz; simp at hz
 ·exact ⟨C,v,x,by rw [h1]; simp [h.len],h2,h3,h4,hx,hz,h.row i c x hc hx⟩
end Go.Proofs.YtnhcmcfgemoehaaGreat
namespace Go.Proofs.YtnhcmcfgemoehaaGreat
open Go.V
attribute [local simp] Nat.add_assoc
def isIn (n:Int):Bool:=decide (-1152921504606846976 ≤ n) && decide (n ≤ 1152921504606846975)
theorem q74 (n:Int):Gives Tryz.prog ca 74 [int n] (.sc (.bool (isIn n))):=by
 refine Aag Tryz.func74 rfl rfl rfl rfl (by simp) (by simp [Tryz.f74]) (by simp [Tryz.f74]) fun m => ?_
 simp [Tryz.f74,show ca.keepRes 74 = false from rfl]
 by_cases h:-1152921504606846976 ≤ n
 ·simp [h,isIn]
 ·simp [h,isIn]
def below (n k:Int):Bool:=decide (0 ≤ n) && decide (n < k)
theorem q75 (n k:Int):Gives Tryz.prog ca 75 [int n,int k] (.sc (.bool (below n k))):=by
 refine Aag Tryz.func75 rfl rfl rfl rfl (by simp) (by simp [Tryz.f75]) (by simp [Tryz.f75]) fun m => ?_
 simp [Tryz.f75,show ca.keepRes 75 = false from rfl]
 by_cases h:0 ≤ n
 ·simp [h,below]
 ·simp [h,below]
theorem Auj {x y:Operand} {i j:Nat}:abin Tryz.prog .eql 46 x y (.ptr i j) (.sc (.pointer none)) = some (.sc (.bool false)):=by
 have:nilTest Tryz.prog 46 (.ptr i j) (.sc (.pointer none)) = some false:=by
  unfold nilTest
  rw [Tryz.underlying46]
 simp [abin,plain,this]
section
variable {X:Nat → Prop} {A:Nat} {a:ArM} {m:Mem}
theorem q34 (h:Ar X A a m):EH Tryz.prog ca (.func 34) [.ptr A 0] m (.sc (.bool false)) m:=by
 obtain ⟨t,M,cs,ns,xs,h,hx⟩:=h
 obtain ⟨v,hv⟩:=h.get
 have hs:=h.sane.1
 have hr:¬ a.room = 0:=by omega
 refine Abj Tryz.func34 rfl rfl rfl rfl (args1:=[.ptr A 0]) (m1:=m) (by simp) (by simp) (by simp [Tryz.f34]) (by simp [Tryz.f34]) ?_
 simp [Tryz.f34,show ca.keepRes 34 = false from rfl,Auj,hv,hr]
def goodM (a:ArM) (v:Val):Bool :=
 if v.1 = 1 then isIn v.2 else if v.1 = 2 then below v.2 2 else if v.1 = 3 then below v.2 128 else if v.1 = 4 then decide (v.2 = 0) else
 if v.1 = 5 then below v.2 a.names.length else if v.1 = 6 then below v.2 65536 else if v.1 = 7 then below v.2 a.cells.length else false
theorem Acd {t:Nat → Option Nat} {n k T e:Nat} {ag:Bool} {m m':Mem} {x:AV} {ys:List AV} {R:TypeId} (h:Has t n k ag (.emp 0) m x ys) (hT:Tryz.prog.underlying T = some (.slice e)):abuiltin Tryz.prog .len #[T] R [x] m' = some (int ys.length,m'):=by
 rcases h with ⟨rfl,rfl⟩ | ⟨_,id,v,rfl,_⟩
 ·exact Adb hT
 ·rw [Abw hT]
set_option maxRecDepth 20000 in
theorem q41 (h:Ar X A a m) (v:Val):EH Tryz.prog ca (.func 41) [.ptr A 0,valA v] m (.sc (.bool (goodM a v))) m:=by
 obtain ⟨t,M,cs,ns,xs,h,hx⟩:=h
 obtain ⟨w,hv⟩:=h.get
 have hA:=h.lt
 have n0:A ≠ m.next:=by omega
 have lc:=fun m' R => Acd (T:=74) (R:=R) (m':=m') h.cells Tryz.underlying74
 have ln:=fun m' R => Acd (T:=85) (R:=R) (m':=m') h.names Tryz.underlying85
 simp only [List.length_zipWith,h.len,Nat.min_self,List.length_map] at lc ln
 obtain ⟨k,n⟩:=v
 refine Abj Tryz.func41 rfl rfl rfl rfl (args1:=[.ptr A 0,valA (k,n)]) (m1:=m) (by simp) (by simp) (by simp [Tryz.f41]) (by simp [Tryz.f41]) ?_
 simp only [Tryz.f41,show ca.keepRes 41 = false from rfl]
 unfold goodM
 by_cases k1:k = 1
 ·simp [k1,(q74 n).go]
 ·by_cases k2:k = 2
  ·simp [k2,(q75 n _).go]
  ·by_cases k3:k = 3
   ·simp [k3,(q75 n _).go]
   ·by_cases k4:k = 4
    ·simp [k4]
    ·by_cases k5:k = 5
     ·simp [k5]
      refine Aah (by kernel_rfl) (by kernel_rfl) ?_
      simp [hv,n0,ln,(q75 n _).go]
     ·by_cases k6:k = 6
      ·simp [k6,(q75 n _).go]
      ·by_cases k7:k = 7
       ·simp [k7]
        refine Aah (by kernel_rfl) (by kernel_rfl) ?_
        simp [hv,n0,lc,(q75 n _).go]
       ·simp [k1,k2,k3,k4,k5,k6,k7]
end
end Go.Proofs.YtnhcmcfgemoehaaGreat
namespace Go.Proofs.YtnhcmcfgemoehaaGreat
set_option maxRecDepth 4000
open Go.V
attribute [local simp] Nat.add_assoc
def Fresh (m m':Mem) (x:AV) (l:List Val):Prop:=(l = [] ∧ x = .emp 1) ∨ (l ≠ [] ∧ ∃ id v,x = .sl id 0 l.length 2 true none ∧ m.next ≤ id ∧ id < m'.next ∧ m'.get id = some (.cells (flat (vals l)) false v))
theorem Fresh.okc {m m':Mem} {x:AV} {l:List Val} (h:Fresh m m' x l):x.okc = true ∧ x.cells = [x]:=by
 rcases h with ⟨_,rfl⟩ | ⟨_,id,v,rfl,_⟩ <;> exact ⟨rfl,rfl⟩
theorem Fresh.keep {m m0 m' m2:Mem} {x:AV} {l:List Val} (h:Fresh m m' x l) (h0:m0.next ≤ m.next) (h1:m'.next ≤ m2.next) (k:∀ j,m.next ≤ j → j < m'.next → m2.get j = m'.get j):Fresh m0 m2 x l:=by
 rcases h with h | ⟨h,id,v,rfl,h2,h3,h4⟩
 ·exact .inl h
 ·exact .inr ⟨h,id,v,rfl,by omega,by omega,by rw [k id h2 h3]; exact h4⟩
def El (m:Mem) (x:AV) (l:List Val):Prop:=x = .lst (vals l) ∨ (l = [] ∧ x = .emp 1) ∨ (l ≠ [] ∧ ∃ id v f,x = .sl id 0 l.length 2 true none ∧ id < m.next ∧ m.get id = some (.cells (flat (vals l)) f v))
theorem El.elems {m:Mem} {x:AV} {l:List Val} (h:El m x l):elemsOf m x = some (vals l):=by
 rcases h with rfl | ⟨rfl,rfl⟩ | ⟨h,id,v,f,rfl,h1,h2⟩
 ·rfl
 ·rfl
 ·simp only [elemsOf,h2]
  have:=Adr (k:=2) (ag:=true) rfl (vals l) (Ab0 l)
  rw [Aav] at this
  rw [if_pos ⟨by rw [Aa6 (Aa4 l)]; simp,rfl⟩,List.drop_zero,this]
theorem El.kp {m m':Mem} {x:AV} {l:List Val} (h:El m x l) (k:Kp m m'):El m' x l:=by
 rcases h with rfl | ⟨rfl,rfl⟩ | ⟨h,id,v,f,rfl,h1,h2⟩
 ·exact .inl rfl
 ·exact .inr (.inl ⟨rfl,rfl⟩)
 ·exact .inr (.inr ⟨h,id,v,f,rfl,Nat.lt_of_lt_of_le h1 k.next,by rw [k.get id h1]; exact h2⟩)
theorem El.of {t:Nat → Option Nat} {n:Nat} {m:Mem} {x:AV} {l:List Val} (h:Has t n 2 true (.emp 1) m x (vals l)):El m x l:=by
 rcases h with ⟨h,rfl⟩ | ⟨h,id,v,rfl,h1,_,h2⟩
 ·exact .inr (.inl ⟨(by cases l with | nil => rfl | cons a l => cases h),rfl⟩)
 ·exact .inr (.inr ⟨fun e => h (by rw [e]; rfl),id,v,false,by rw [Aav],h1,h2⟩)
theorem El.not_nil {m:Mem} {x:AV} {v:Val} {l:List Val} (h:El m x (v :: l)) {xo yo:Operand}:abin Tryz.prog .eql 66 xo yo x (.emp 0) = some (.sc (.bool false)):=by
 have:nilTest Tryz.prog 66 x (.emp 0) = some false ∧ plain x = none:=by
  rcases h with rfl | ⟨h,_⟩ | ⟨h,id,w,f,rfl,_⟩
  ·exact ⟨by simp [nilTest,Tryz.underlying66,Aay],rfl⟩
  ·cases h
  ·exact ⟨by simp [nilTest,Tryz.underlying66],rfl⟩
 simp [abin,this.1,this.2]
theorem A1v {m:Mem} {x:AV} {v:Val} {l:List Val} (h:El m x (v :: l)) (hb:l.length < 4096):EH Tryz.prog cf0 (.func 110) [x] m (.sl (m.next + 1) 0 (l.length + 1) 2 true none) ((m.new [] false).new (flat (vals (v :: l))) false):=by
 refine eh_of ?_
 refine Aas Tryz.func110 rfl rfl (by simp [Tryz.f110]) (by simp [Tryz.f110]) fun Q hQ => ?_
 simp only [Tryz.f110,show cf0.keepRes 110 = true from rfl,show cf0.keepArgs 110 = true from rfl] at hQ ⊢
 have k1:Kp m (m.new [] false):=.new _ _ _
 have hs:srcOf (m.new [] false) x = some (vals (v :: l)):=by
  have e:=(h.kp k1).elems
  rw [← e]
  rcases h with rfl | ⟨h,_⟩ | ⟨_,id,w,f,rfl,_⟩
  ·rfl
  ·cases h
  ·rfl
 have q:=Aiu (P:=Tryz.prog) (T:=66) (k:=2) (ag:=true) (ag':=true) (id:=m.next) (ys:=vals (v :: l)) (ys':=vals (v :: l)) (m:=m.new [] false) (m':=m.new [] false) (v:=m.clock + 1) el66 (by simp [Aay]) (Aa4 _) (by simp) (by simp) (by simp; omega)
 simp [h.not_nil,abuildSlice,fillAt,zeros,hs,q]
 refine hQ _ _ _ ⟨.inr rfl,_,rfl,?_⟩
 simp [oneOf]
theorem As0 {m m1:Mem} (h:Kp m m1):Kp m m1.skip:=by
 unfold Mem.skip
 exact (h.newr _ _).kill h.next
theorem q110 {m:Mem} {x:AV} {l:List Val} (h:El m x l) (hb:l.length ≤ 4096):wph Tryz.prog ca (.func 110) [x] m fun v m' => Kp m m' ∧ Fresh m m' v l:=by
 have he:=h.elems
 cases l with
 | nil =>
  have e:cloneL Tryz.prog 110 [x] m = some (.emp 1,m.skip):=by
   simp only [cloneL,he,Aef]
  exact ⟨_,_,Ad0 rfl e,As0 (.refl m),.inl ⟨rfl,rfl⟩⟩
 | cons v l =>
  have e:cloneL Tryz.prog 110 [x] m = some (.sl (m.next + 1) 0 (l.length + 1) 2 true none,(m.new [] false).new (flat (vals (v :: l))) false):=by
   simp only [cloneL,he,Aay]
   exact Ah4 (A1v h (by simp at hb; omega))
  exact ⟨_,_,Ad0 rfl e,by simp,.inr ⟨by simp,_,_,rfl,by omega,by simp,by simp; rfl⟩⟩
theorem Apw (s:List UInt8):∀ y ∈ byts s,y.cells.length = 1 ∧ (if false then AV.agg y.cells = y else y.cells = [y]):=by
 intro y hy
 obtain ⟨x,_,rfl⟩:=List.mem_map.1 hy
 simp
theorem q111 {m:Mem} (s:List UInt8) (hb:s.length < 2 ^ 21):EH Tryz.prog ca (.func 111) [.lst (byts s)] m (.lst (byts s)) m:=by
 refine At1 rfl (by simp) ?_
 intro x0 l0 e0
 cases s with
 | nil => cases e0
 | cons x s =>
 refine ⟨(m.new [] false).new (flat (byts (x :: s))) false,.inr ⟨1,false,m.next + 1,m.clock + 2,eh_of ?_,by simp,by omega,by simp,rfl,Apw _,Aie _⟩⟩
 refine Aas Tryz.func111 rfl rfl (by simp [Tryz.f111]) (by simp [Tryz.f111]) fun Q hQ => ?_
 simp only [Tryz.f111,show cf0.keepRes 111 = true from rfl,show cf0.keepArgs 111 = true from rfl] at hQ ⊢
 have e1:nilTest Tryz.prog 76 (.lst (byts (x :: s))) (.emp 0) = some false:=Al3 (T:=76) Tryz.underlying76
 have e2:=Aiu (m:=m.new [] false) (m':=m.new [] false) (ys:=byts (x :: s)) (ys':=byts (x :: s)) (id:=m.next) (v:=m.clock + 1) (ag':=false) el76 (by simp [byts]) (Aie _) (by simp [fzx]) (by simp) (by simp at hb ⊢; omega)
 simp [abin,plain,e1,abuildSlice,zeros,fillAt,abuiltin,srcOf,elemsOf,e2]
 refine hQ _ _ _ ⟨.inr rfl,_,rfl,?_⟩
 simp [oneOf]
theorem q64 {m:Mem} {c:CeM} {x0:AV} (h:El m x0 c.a) (hb:c.a.length ≤ 4096) (hs:c.s.length ≤ 4096):wph Tryz.prog ca (.func 64) [rowA c x0] m fun v m' => Kp m m' ∧ ∃ x,v = rowA c x ∧ Fresh m m' x c.a:=by
 refine Aas Tryz.func64 rfl rfl (by simp [Tryz.f64]) (by simp [Tryz.f64]) fun Q hQ => ?_
 simp only [Tryz.f64,show ca.keepRes 64 = true from rfl,show ca.keepArgs 64 = true from rfl] at hQ ⊢
 simp
 refine Aax (by kernel_rfl) ?_
 simp [rowA]
 refine Aae (q110 (h.kp (by simp)) hb) ?_
 rintro v m2 ⟨k2,hf⟩
 have hn:=k2.next
 simp at hn
 have g1:m2.get m.next = some (.cells [int c.k,int c.n,x0,.lst (byts c.s)] false (m.clock + 1)):=by
  rw [k2.get m.next (by simp)]; simp
 have g2:m2.get (m.next + 1) = some (.cells [int 0,int 0,.emp 0,.emp 0] false (m.clock + 2)):=by
  rw [k2.get (m.next + 1) (by simp)]; simp
 have ok:=hf.okc
 simp [g1,(q111 c.s (by omega)).go,g2,ok]
 refine Abh (l:=[(2,4)]) (by kernel_rfl) (?_:List.all _ _ = true) ?_
 ·simp [metAtD,metOkD,rank,verKeptD,Region.wanted,Mem.ver,g1]
 simp [g1,g2,ok]
 refine hQ _ _ _ ?_
 rw [Aaf]
 simp [aresult,oneOf,ok]
 have kk:Kp m m2:=(by simp:Kp m ((m.new [int c.k,int c.n,x0,AV.lst (byts c.s)] false).new [AV.sc (Value.int IntKind.i64 0),AV.sc (Value.int IntKind.i64 0),AV.emp 0,AV.emp 0] false)).trans k2
 refine ⟨kk,v,rfl,hf.keep (by simp) (by simp) fun j hj _ => ?_⟩
 simp at hj
 have a1:j ≠ m.next:=by omega
 have a2:j ≠ m.next + 1:=by omega
 simp [a1,a2]
def fi {α:Type} (p:α → Bool) (l:List α):Int:=match l.findIdx? p with | some i => (i:Int) | none => -1
theorem Atu {α:Type} {p:α → Bool} {l:List α} {i:Nat} {x:α} (hx:l[i]? = some x) (h:p x = true) (hn:∀ j y,j < i → l[j]? = some y → p y = false):fi p l = (i:Int):=by
 obtain ⟨hi,e⟩:=List.getElem?_eq_some_iff.1 hx
 have:l.findIdx? p = some i:=by
  rw [List.findIdx?_eq_some_iff_getElem]
  refine ⟨hi,by rw [e]; exact h,fun j hj => ?_⟩
  rw [hn j _ hj (List.getElem?_eq_getElem (by omega))]
  simp
 rw [fi,this]
theorem Atv {α:Type} {p:α → Bool} {l:List α} (hn:∀ j y,j < l.length → l[j]? = some y → p y = false):fi p l = -1:=by
 have:l.findIdx? p = none:=by
  rw [List.findIdx?_eq_none_iff]
  intro y hy
  obtain ⟨j,hj,e⟩:=List.mem_iff_getElem.1 hy
  rw [hn j y hj (by rw [List.getElem?_eq_getElem hj,e])]
 rw [fi,this]
theorem Ayr {α:Type} (p:α → Bool) (l:List α):decide (0 ≤ fi p l) = l.any p:=by
 unfold fi
 cases h:l.findIdx? p with
 | none =>
  rw [List.findIdx?_eq_none_iff] at h
  have:l.any p = false:=List.any_eq_false.2 fun x hx => by simp [h x hx]
  simp [this]
 | some i =>
  rw [List.findIdx?_eq_some_iff_getElem] at h
  obtain ⟨hi,h1,_⟩:=h
  have:l.any p = true:=List.any_eq_true.2 ⟨_,List.getElem_mem hi,h1⟩
  simp [this]
section
variable {X:Nat → Prop} {A B:Nat} {a:ArM} {m:Mem}
theorem q161 (h:Ar X A a m) (hB:has m B [.ptr A 0]) (v:Val):EH Tryz.prog ca (.func 161) [valA v,.ptr B 0] m (.sc (.bool (!goodM a v))) m:=by
 obtain ⟨bl,bv,be⟩:=hB
 have bn:B ≠ m.next:=by omega
 have q:=q41 (h.kp (m':=m.new [int v.1,int v.2] false) (by simp)) v
 refine Abj Tryz.func161 rfl rfl rfl rfl (args1:=[valA v,.ptr B 0]) (m1:=m) (by simp [fzvs]) (by simp) (by simp [Tryz.f161]) (by simp [Tryz.f161]) ?_
 simp [Tryz.f161,show ca.keepRes 161 = false from rfl,be,bn,q.go,Aaa]
theorem Aak {l:List Val} {i:Nat} {v:Val} (h:l[i]? = some v):aindexAddr Tryz.prog 66 (.lst (vals l)) (int i) = some ((valA v).cptr 0):=Aam Tryz.underlying66 Abf (by rw [Aeg,h]; rfl) (by simp)
theorem q179 (h:Ar X A a m) (hB:has m B [.ptr A 0]) (l:List Val) (hl:l.length < 2 ^ 21):EH Tryz.prog ca (.func 179) [.lst (vals l),.fn (.func 161) [] [.ptr B 0]] m (int (fi (fun v => !goodM a v) l)) m:=by
 refine Abj Tryz.func179 rfl rfl rfl rfl (args1:=[.lst (vals l),.fn (.func 161) [] [.ptr B 0]]) (m1:=m) (by simp [fzvs]) (by simp) (by simp [Tryz.f179]) (by simp [Tryz.f179]) ?_
 simp [Tryz.f179,show ca.keepRes 179 = false from rfl]
 refine Aar 8 l.length (fun i s m' => m' = m ∧ ∀ j v,j < i → l[j]? = some v → (!goodM a v) = false) (by simp) (by omega) ⟨rfl,fun _ _ h => by omega⟩ ?_
 rintro i s m' hi e8 ⟨rfl,hno⟩ hs hw Q' hn he
 have e0:s.at 0 = .lst (vals l):=(hs 0 (by kernel_rfl)).trans (by simp)
 have e1:s.at 1 = .fn (.func 161) [] [.ptr B 0]:=(hs 1 (by kernel_rfl)).trans (by simp)
 have e7:s.at 7 = int l.length:=(hs 7 (by kernel_rfl)).trans (by simp)
 clear hs
 simp [e8,e7]
 refine Aad (fun h => ?_) fun h => ?_
 ·have hlt:i < l.length:=by simpa using h
  obtain ⟨v,hv⟩:∃ v,l[i]? = some v:=⟨_,List.getElem?_eq_getElem hlt⟩
  simp [e8,e0,e1,Aak hv,(q161 ‹Ar X A a m'› hB v).go,Aaa]
  cases hc:goodM a v with
  | false =>
   simp
   refine he _ _ _ (by simp) ?_
   simp
   exact (Atu hv (by simp [hc]) hno).symm
  | true =>
   simp [e8,hw]
   refine hn _ _ hlt (by simp) ⟨rfl,fun j v' hj hvj => ?_⟩
   rcases Nat.lt_or_ge j i with h2 | h2
   ·exact hno j v' h2 hvj
   ·obtain rfl:j = i:=by omega
    rw [hv] at hvj
    cases hvj
    simp [hc]
 ·have hge:i = l.length:=by have:=of_decide_eq_false h; omega
  subst hge
  simp
  refine he _ _ _ (by simp) ?_
  simp
  exact (Atv hno).symm
theorem q162 (h:Ar X A a m) (hB:has m B [.ptr A 0]) (l:List Val) (hl:l.length < 2 ^ 21):EH Tryz.prog ca (.func 162) [.lst (vals l),.fn (.func 161) [] [.ptr B 0]] m (.sc (.bool (l.any fun v => !goodM a v))) m:=by
 refine Abj Tryz.func162 rfl rfl rfl rfl (args1:=[.lst (vals l),.fn (.func 161) [] [.ptr B 0]]) (m1:=m) (by simp [fzvs]) (by simp) (by simp [Tryz.f162]) (by simp [Tryz.f162]) ?_
 simp [Tryz.f162,show ca.keepRes 162 = false from rfl,(q179 h hB l hl).go]
 exact Ayr _ _
end
def hi7 (b:UInt8):Bool:=decide (128 ≤ b.toNat)
theorem q164 (b:UInt8):Gives Tryz.prog ca 164 [.sc (.int .u8 b.toNat)] (.sc (.bool (hi7 b))):=by
 refine Aag Tryz.func164 rfl rfl rfl rfl (by simp) (by simp [Tryz.f164]) (by simp [Tryz.f164]) fun m => ?_
 simp [Tryz.f164,show ca.keepRes 164 = false from rfl,hi7]
 omega
theorem A1b {l:List UInt8} {i:Nat} {v:UInt8} (h:l[i]? = some v):aindexAddr Tryz.prog 76 (.lst (byts l)) (int i) = some ((AV.sc (.int .u8 v.toNat)).cptr 0):=Aam Tryz.underlying76 Alj (by simp [byts,h]) (by simp)
theorem q180 (l:List UInt8) (hl:l.length < 2 ^ 21):Gives Tryz.prog ca 180 [.lst (byts l),.fn (.func 164) [] []] (int (fi hi7 l)):=by
 refine Aag Tryz.func180 rfl rfl rfl rfl (by simp [fzvs]) (by simp [Tryz.f180]) (by simp [Tryz.f180]) fun m => ?_
 simp [Tryz.f180,show ca.keepRes 180 = false from rfl]
 refine Aar 8 l.length (fun i s m' => m' = m ∧ ∀ j v,j < i → l[j]? = some v → hi7 v = false) (by simp) (by omega) ⟨rfl,fun _ _ h => by omega⟩ ?_
 rintro i s m' hi e8 ⟨rfl,hno⟩ hs hw Q' hn he
 have e0:s.at 0 = .lst (byts l):=(hs 0 (by kernel_rfl)).trans (by simp)
 have e1:s.at 1 = .fn (.func 164) [] []:=(hs 1 (by kernel_rfl)).trans (by simp)
 have e7:s.at 7 = int l.length:=(hs 7 (by kernel_rfl)).trans (by simp)
 clear hs
 simp [e8,e7]
 refine Aad (fun h => ?_) fun h => ?_
 ·have hlt:i < l.length:=by simpa using h
  obtain ⟨v,hv⟩:∃ v,l[i]? = some v:=⟨_,List.getElem?_eq_getElem hlt⟩
  simp [e8,e0,e1,A1b hv,(q164 v).go]
  cases hc:hi7 v with
  | true =>
   simp
   refine he _ _ _ (by simp) ?_
   simp
   exact (Atu hv hc hno).symm
  | false =>
   simp [e8,hw]
   refine hn _ _ hlt (by simp) ⟨rfl,fun j v' hj hvj => ?_⟩
   rcases Nat.lt_or_ge j i with h2 | h2
   ·exact hno j v' h2 hvj
   ·obtain rfl:j = i:=by omega
    rw [hv] at hvj
    cases hvj
    exact hc
 ·have hge:i = l.length:=by have:=of_decide_eq_false h; omega
  subst hge
  simp
  refine he _ _ _ (by simp) ?_
  simp
  exact (Atv hno).symm
theorem q163 (l:List UInt8) (hl:l.length < 2 ^ 21):Gives Tryz.prog ca 163 [.lst (byts l),.fn (.func 164) [] []] (.sc (.bool (l.any hi7))):=by
 refine Aag Tryz.func163 rfl rfl rfl rfl (by simp [fzvs]) (by simp [Tryz.f163]) (by simp [Tryz.f163]) fun m => ?_
 simp [Tryz.f163,show ca.keepRes 163 = false from rfl,(q180 l hl).go]
 exact Ayr _ _
def kindM (c:CeM):Bool :=
 if c.k = 1 then decide (c.n = 0) && (decide (c.s.length = 0) && decide (c.a.length = 2)) else
 if c.k = 2 then decide (c.n = 0) && decide (c.s.length = 0) else
 if c.k = 3 then decide (c.n = 0) && decide (c.a.length = 0) else
 if c.k = 4 then decide (c.n = 0) && (decide (c.s.length = 0) && decide (c.a.length = 1)) else
 if c.k = 5 then decide (c.s.length = 0) && (decide (c.a.length ≤ 64) && below c.n 1024) else
 decide (5 < c.k) && (decide (c.k ≤ 11) && (decide (c.s.length + c.a.length = 0) && (decide (0 ≤ c.n) && decide (c.n ≤ 4611686018427387904))))
def fitsM (a:ArM) (c:CeM):Bool:=!decide (4096 < c.a.length) && (!decide (4096 < c.s.length) && (!(c.a.any fun v => !goodM a v) && (!c.s.any hi7 && kindM c)))
theorem q107 {X:Nat → Prop} {A:Nat} {a:ArM} {m:Mem} (h:Ar X A a m) (c:CeM) (ha:c.a.length < 2 ^ 21) (hs:c.s.length < 2 ^ 21):EH Tryz.prog ca (.func 107) [.ptr A 0,ceA c] m (.sc (.bool (fitsM a c))) m:=by
 refine Abj Tryz.func107 rfl rfl rfl rfl (args1:=[.ptr A 0,ceA c]) (m1:=m) (by simp [fzvs]) (by simp) (by simp [Tryz.f107]) (by simp [Tryz.f107]) ?_
 simp only [Tryz.f107,show ca.keepRes 107 = false from rfl]
 have q1:=q162 (h.kp (m':=(m.new [.ptr A 0] false).new (ceA c).cells false) (by simp)) (B:=m.next) ⟨by simp,m.clock + 1,by simp⟩ c.a ha
 simp at q1
 by_cases h1:4096 < c.a.length
 ·have h1':(4096:Int) < c.a.length:=by omega
  simp [h1',fitsM,h1,undefV,undef]
 have h1':¬ (4096:Int) < c.a.length:=by omega
 by_cases h2:4096 < c.s.length
 ·have h2':(4096:Int) < c.s.length:=by omega
  simp [h1',h2',fitsM,h1,h2]
 have h2':¬ (4096:Int) < c.s.length:=by omega
 have hfit:fitsM a c = (!(c.a.any fun v => !goodM a v) && (!c.s.any hi7 && kindM c)):=by simp [fitsM,h1,h2]
 rw [hfit]
 generalize (c.a.any fun v => !goodM a v) = b1 at q1 ⊢
 have q2:=q163 c.s hs
 generalize c.s.any hi7 = b2 at q2 ⊢
 cases b1 with
 | true =>
  simp [h1',h2',q1.go,undefV,undef]
 | false =>
 cases b2 with
 | true =>
  simp [h1',h2',q1.go,q2.go]
 | false =>
 have hk:∀ n:Nat,((n:Int) = 0) = (n = 0) ∧ ((n:Int) = 1) = (n = 1) ∧ ((n:Int) = 2) = (n = 2) ∧ ((n:Int) ≤ 64) = (n ≤ 64):=fun n => by
  refine ⟨propext ?_,propext ?_,propext ?_,propext ?_⟩ <;> omega
 have wl:IntKind.i64.wrap ((c.s.length:Int) + c.a.length) = (c.s.length:Int) + c.a.length:=IntWalk.i64_in _ (by omega)
 have wz:((c.s.length:Int) + c.a.length = 0) = (c.s.length + c.a.length = 0):=propext (by omega)
 simp [h1',h2',q1.go,q2.go]
 unfold kindM
 by_cases k1:c.k = 1
 ·by_cases e1:c.n = 0
  ·by_cases e2:c.s.length = 0
   ·simp [k1,e1,e2,hk]
   ·simp [k1,e1,e2,hk,undefV,undef]
  ·simp [k1,e1,undefV,undef]
 by_cases k2:c.k = 2
 ·by_cases e1:c.n = 0
  ·simp [k2,e1,hk]
  ·simp [k2,e1,undefV,undef]
 by_cases k3:c.k = 3
 ·by_cases e1:c.n = 0
  ·simp [k3,e1,hk]
  ·simp [k3,e1,undefV,undef]
 by_cases k4:c.k = 4
 ·by_cases e1:c.n = 0
  ·by_cases e2:c.s.length = 0
   ·simp [k4,e1,e2,hk]
   ·simp [k4,e1,e2,hk,undefV,undef]
  ·simp [k4,e1,undefV,undef]
 by_cases k5:c.k = 5
 ·by_cases e1:c.s.length = 0
  ·by_cases e2:c.a.length ≤ 64
   ·simp [k5,e1,e2,hk,(q75 c.n 1024).go]
   ·simp [k5,e1,e2,hk,undefV,undef]
  ·simp [k5,e1,hk,undefV,undef]
 by_cases e1:5 < c.k
 ·by_cases e2:c.k ≤ 11
  ·by_cases e3:c.s.length + c.a.length = 0
   ·by_cases e4:0 ≤ c.n
    ·simp [k1,k2,k3,k4,k5,e1,e2,wl,wz,e3,e4]
    ·simp [k1,k2,k3,k4,k5,e1,e2,wl,wz,e3,e4,undefV,undef]
   ·simp [k1,k2,k3,k4,k5,e1,e2,wl,wz,undefV,undef]
    by_cases z1:c.s = []
    ·have z2:¬ c.a = []:=fun z => e3 (by simp [z1,z])
     simp [z1,z2,undefV,undef]
    ·simp [z1,undefV,undef]
  ·simp [k1,k2,k3,k4,k5,e1,e2,undefV,undef]
 ·simp [k1,k2,k3,k4,k5,e1,undefV,undef]
def ixM (a:ArM) (v:Val):Option Nat:=if v.1 = 7 ∧ goodM a v = true then some v.2.toNat else none
theorem Ab6 {a:ArM} {v:Val} {i:Nat} (h:ixM a v = some i):v = (7,(i:Int)) ∧ ∃ c,a.cells[i]? = some c:=by
 unfold ixM at h
 split at h
 ·rename_i hc
  obtain ⟨k,n⟩:=v
  obtain ⟨h7,hg⟩:=hc
  simp only at h7
  subst h7
  have hb:below n a.cells.length = true:=by simpa [goodM] using hg
  simp [below] at hb
  simp only [Option.some.injEq] at h
  have e:n = (i:Int):=by omega
  exact ⟨by rw [e],_,List.getElem?_eq_getElem (by omega)⟩
 ·cases h
def blk:AV → Nat | .sl id _ _ _ _ _ => id | _ => 0
def cellP (a:ArM) (cs:AV) (v:Val):AV:=match ixM a v with | some i => .ptr (blk cs) (i * 4) | none => .sc (.pointer none)
section
variable {X:Nat → Prop} {A M:Nat} {a:ArM} {m:Mem} {t:Nat → Option Nat} {cs ns:AV} {xs:List AV}
theorem q77 (h:ArT t A M cs ns xs a m) (hx:∀ j,t j ≠ none → X j ∧ j < m.next) (v:Val):EH Tryz.prog ca (.func 77) [.ptr A 0,valA v] m (cellP a cs v) m:=by
 have hAr:Ar X A a m:=⟨t,M,cs,ns,xs,h,hx⟩
 have hA:=h.lt
 have k1:Kp m (m.new [int v.1,int v.2] false):=by simp
 have q1:=q34 (hAr.kp k1)
 have q2:=q41 (hAr.kp k1) v
 obtain ⟨w,hv⟩:=h.get
 have hbel:(cellP a cs v).bel m.next = true:=by
  unfold cellP
  cases hi:ixM a v with
  | none => rfl
  | some i =>
   obtain ⟨_,c,hc⟩:=Ab6 hi
   obtain ⟨C,_,x,rfl,hC,_⟩:=h.at hc
   simp [blk,AV.bel,hC]
 refine Abj Tryz.func77 rfl rfl rfl rfl (args1:=[.ptr A 0,valA v]) (m1:=m) (by simp [fzvs]) hbel (by simp [Tryz.f77]) (by simp [Tryz.f77]) ?_
 simp only [Tryz.f77,show ca.keepRes 77 = false from rfl]
 simp [q1.go]
 by_cases h7:v.1 = 7
 rotate_left
 ·have:cellP a cs v = .sc (.pointer none):=by simp [cellP,ixM,h7]
  rw [this]
  simp [h7,undefV,undef]
 obtain ⟨k,n⟩:=v
 simp only at h7
 subst h7
 have q2':EH Tryz.prog ca (.func 41) [.ptr A 0,.agg [int 7,int n]] (m.new [int 7,int n] false) (.sc (.bool (goodM a (7,n)))) (m.new [int 7,int n] false):=q2
 simp
 cases hg:goodM a (7,n) with
 | false =>
  have:cellP a cs (7,n) = .sc (.pointer none):=by simp [cellP,ixM,hg]
  rw [this]
  rw [hg] at q2'
  simp [q2'.go]
 | true =>
  rw [hg] at q2'
  obtain ⟨i,hi⟩:∃ i,ixM a (7,n) = some i:=⟨n.toNat,by simp [ixM,hg]⟩
  obtain ⟨hvi,c,hc⟩:=Ab6 hi
  obtain ⟨C,vc,x,rfl,hC,htC,hgC,hxi,hzi,hrow⟩:=h.at hc
  have hil:=(List.getElem?_eq_some_iff.1 hc).1
  have hix:=Aaj (P:=Tryz.prog) (q:=.i64) (ag:=true) (c:=none) (id:=C) (off:=0) (len:=a.cells.length) (i:=i) Tryz.underlying74 Ab1 hil
  have hcp:cellP a (.sl C 0 a.cells.length 4 true none) (7,n) = .ptr C (i * 4):=by simp [cellP,hi,blk]
  rw [hcp]
  have nA:A ≠ m.next:=by omega
  have hv2:n = (i:Int):=by cases hvi; rfl
  simp [q2'.go]
  refine Aah (by kernel_rfl) (by kernel_rfl) ?_
  simp [hv,nA,hv2,hix]
end
theorem Fresh.fz {m0 m m':Mem} {x:AV} {l:List Val} (h:Fresh m m' x l) (h0:m0.next ≤ m.next) (k:Kp m0 m'):∃ m2,fz1 m' x = (.lst (vals l),m2) ∧ Kp m0 m2:=by
 rcases h with ⟨rfl,rfl⟩ | ⟨h,id,v,rfl,h1,h2,h3⟩
 ·exact ⟨m',rfl,k⟩
 ·have e:=Ady (k:=2) (ag:=true) (cap:=none) (ys:=vals l) rfl h3 (Ab0 l) (Aa4 l)
  rw [Aav] at e
  exact ⟨_,e,k.mark (by omega) _ _⟩
def zeroC:CeM:=⟨0,0,[],[]⟩
def getM (a:ArM) (v:Val):CeM × Int:=match ixM a v with | some i => (a.cells.getD i zeroC,0) | none => (zeroC,110)
theorem eq135 {x y:Operand} {i j:Nat}:abin Tryz.prog .eql 135 x y (.ptr i j) (.sc (.pointer none)) = some (.sc (.bool false)):=by
 have:nilTest Tryz.prog 135 (.ptr i j) (.sc (.pointer none)) = some false:=by
  unfold nilTest
  rw [Tryz.underlying135]
 simp [abin,plain,this]
theorem Ass {x y:Operand}:abin Tryz.prog .eql 135 x y (.sc (.pointer none)) (.sc (.pointer none)) = some (.sc (.bool true)):=by kernel_rfl
theorem Aoi:abuild Tryz.prog 78 [] = some (.agg [int 0,int 0,.emp 0,.emp 0]):=by simp [abuild,placesOf,fillAt]
section
variable {X:Nat → Prop} {A:Nat} {a:ArM} {m:Mem}
def Small (a:ArM):Prop:=∀ c ∈ a.cells,c.a.length ≤ 4096 ∧ c.s.length ≤ 4096
theorem q57 (hA:Ar X A a m) (hs:Small a) (v:Val):EH Tryz.prog ca (.func 57) [.ptr A 0,valA v] m (.tup [ceA (getM a v).1,int (getM a v).2]) m:=by
 refine Abj Tryz.func57 rfl rfl rfl rfl (args1:=[.ptr A 0,valA v]) (m1:=m) (by simp [fzvs]) (by simp [AV.bel,AV.bels]) (by simp [Tryz.f57]) (by simp [Tryz.f57]) ?_
 have k1:Kp m ((m.new [int v.1,int v.2] false).new [int 0,int 0,.emp 0,.emp 0] false):=by simp
 have q1:=q34 (hA.kp k1)
 obtain ⟨t,M,cs,ns,xs,h,hx⟩:=hA.kp k1
 have q2:=q77 h hx v
 simp only [Tryz.f57,show ca.keepRes 57 = false from rfl]
 simp [q1.go,Aaa,q2.go]
 cases hi:ixM a v with
 | none =>
  have e1:cellP a cs v = .sc (.pointer none):=by simp [cellP,hi]
  simp [e1,Ass,Aoi,getM,hi,ceA,zeroC]
 | some i =>
  obtain ⟨rfl,c,hc⟩:=Ab6 hi
  obtain ⟨C,vc,x,rfl,hC,htC,hgC,hxi,hzi,hrow⟩:=h.at hc
  have e1:cellP a (.sl C 0 a.cells.length 4 true none) (7,(i:Int)) = .ptr C (i * 4):=by simp [cellP,hi,blk]
  obtain ⟨f1,f2⟩:=Abq (Ahj a.cells xs) hzi
  have hsm:=hs c (List.mem_of_getElem? hc)
  simp [e1,eq135,hgC,f1,f2]
  have hget:getM a (7,(i:Int)) = (c,0):=by simp [getM,hi,List.getD_eq_getElem?_getD,hc]
  rw [hget]
  refine Aae (q64 (c:=c) (x0:=x) (.of hrow) hsm.1 hsm.2) ?_
  rintro _ m2 ⟨k2,x2,rfl,hf⟩
  have ok:=hf.okc
  have g2:m2.get (m.next + 1) = some (.cells [int 0,int 0,.emp 0,.emp 0] false (m.clock + 2)):=by rw [k2.get (m.next + 1) (by simp)]; simp
  simp [rowA,g2]
  obtain ⟨m3,z1,z2⟩:=(hf.keep (m2:=m2.set (m.next + 1) [int c.k,int c.n,x2,.lst (byts c.s)]) (m0:=m) (by simp) (by simp) fun j hj _ => by
   simp at hj
   have:j ≠ m.next + 1:=by omega
   simp [this]).fz (m0:=m) (Nat.le_refl _) (((k1.trans k2).set (by omega) _))
  simp [fzs,z1,z2,ceA]
end
theorem q20 {m:Mem} {n:Int} (h1:1 ≤ n) (h2:n ≤ 65536):EH Tryz.prog ca (.func 20) [int n] m (.tup [.ptr (m.next + 1) 0,int 0]) (m.newMap.new [int n,.emp 0,.emp 0,.mp m.next] false):=by
 have a1:¬ n < 1:=by omega
 have a2:¬ 65536 < n:=by omega
 refine eh_of ?_
 refine Aas Tryz.func20 rfl rfl (by simp [Tryz.f20]) (by simp [Tryz.f20]) fun Q hQ => ?_
 simp only [Tryz.f20,show ca.keepRes 20 = false from rfl,show ca.keepArgs 20 = false from rfl] at hQ ⊢
 simp [a1,a2,Acr Arx,abuild,placesOf,fillAt]
 refine hQ _ _ _ ?_
 simp
theorem A3e {m:Mem} {n:Int} (h1:1 ≤ n) (h2:n ≤ 65536):Ar (fun j => m.next ≤ j) (m.next + 1) ⟨n,[],[]⟩ (m.newMap.new [int n,.emp 0,.emp 0,.mp m.next] false):=by
 refine ⟨fun j => if j = m.next + 1 then some 0 else if j = m.next then some 3 else none,m.next,.emp 0,.emp 0,[],⟨by simp,by simp,⟨_,by simp; rfl⟩,by simp,by simp,⟨_,by simp [symE]; rfl⟩,.inl ⟨rfl,rfl⟩,.inl ⟨rfl,rfl⟩,rfl,fun i c x h => by simp at h,h1,h2,by simp; omega,by simp⟩,fun j hj => ?_⟩
 dsimp only at hj
 split at hj
 ·rename_i e; subst e; simp
 ·split at hj
  ·rename_i e; subst e; simp
  ·exact absurd rfl hj
def pushM (a:ArM) (c:CeM):ArM:=⟨a.room,a.cells ++ [c],a.names⟩
def allocM (a:ArM) (c:CeM):ArM × Val × Int:=if fitsM a c = true then (if a.room ≤ a.cells.length then (a,(0,0),111) else (pushM a c,(7,(a.cells.length:Int)),0)) else (a,(0,0),110)
theorem Aj6 {c:CeM} {x:AV}:∀ (l:List CeM) (xs:List AV),xs.length = l.length → List.zipWith rowA (l ++ [c]) (xs ++ [x]) = List.zipWith rowA l xs ++ [rowA c x]:=by
 intro l xs h
 rw [List.zipWith_append h.symm]
 rfl
theorem A1g {X:Nat → Prop} {A M N:Nat} {a:ArM} {c:CeM} {m m':Mem} {t:Nat → Option Nat} {cs ns x:AV} {xs:List AV} (h:ArT t A M cs ns xs a m) (hx:∀ j,t j ≠ none → X j ∧ j < m.next)
  (k:KpC (fun j => j = A ∨ owns cs j) m m') (hN:m.next ≤ N) (hN2:N < m'.next) (hgN:∃ v,m'.get N = some (.cells (flat (List.zipWith rowA a.cells xs ++ [rowA c x])) false v)) (hgA:∃ v,m'.get A = some (.cells [int a.room,.sl N 0 (a.cells.length + 1) 4 true none,ns,.mp M] false v))
  (hf:Fresh m m' x c.a) (hxN:¬ owns x N) (hr:(a.cells.length:Int) < a.room):Up X A (pushM a c) m m':=by
 obtain ⟨lt,ta,⟨v,get⟩,ml,tm,⟨v2,map⟩,cells,names,len,row,sane⟩:=h
 have hC:∀ j,owns cs j → t j = some 1:=by
  intro j hj
  rcases cells with ⟨_,rfl⟩ | ⟨_,C,w,rfl,_,h2,_⟩
  ·exact hj.elim
  ·have:C = j:=hj
   rw [← this]; exact h2
 have tc:∀ j n,j < m.next → t j = some n → n ≠ 0 → n ≠ 1 → m'.get j = m.get j ∧ (m'.loop j = m.loop j ∧ m'.map j = m.map j):=by
  intro j n hj ht h0 h1
  have hn:¬ (j = A ∨ owns cs j):=by
   rintro (rfl | h)
   ·rw [ta] at ht; cases ht; exact h0 rfl
   ·rw [hC j h] at ht; cases ht; exact h1 rfl
  exact ⟨k.get j hj hn,k.x j hj hn⟩
 have kn:=k.next
 have told:∀ j,j < m.next → (if j < m.next then t j else if j < m'.next then (if j = N then some 1 else some (4 + a.cells.length)) else none) = t j:=fun j hj => if_pos hj
 refine ⟨fun j => X j ∨ m.next ≤ j,⟨fun j => if j < m.next then t j else if j < m'.next then (if j = N then some 1 else some (4 + a.cells.length)) else none,M,.sl N 0 (a.cells.length + 1) 4 true none,ns,xs ++ [x],⟨by omega,(told A lt).trans ta,hgA,by omega,(told M ml).trans tm,⟨v2,by rw [(tc M 3 ml tm (by omega) (by omega)).2.2]; exact map⟩,?_,?_,by simp [pushM,len],?_,?_⟩,?_⟩,?_,fun j h => h⟩
 ·obtain ⟨w,hw⟩:=hgN
  refine .inr ⟨by simp [pushM,Aj6 _ _ len],N,w,by simp [pushM,Aj6 _ _ len,len],hN2,?_,by simp only [pushM,Aj6 _ _ len]; exact hw⟩
  have:¬ N < m.next:=by omega
  simp [this,hN2]
 ·refine names.mono kn fun j hj ht => ⟨(tc j 2 hj ht (by omega) (by omega)).1,(told j hj).trans ht⟩
 ·intro i c' x' hc' hx'
  simp only [pushM] at hc'
  rcases Nat.lt_or_ge i a.cells.length with hi | hi
  ·rw [List.getElem?_append_left hi] at hc'
   rw [List.getElem?_append_left (by omega)] at hx'
   refine (row i c' x' hc' hx').mono kn fun j hj ht => ⟨(tc j (4 + i) hj ht (by omega) (by omega)).1,(told j hj).trans ht⟩
  ·have hlen:=(List.getElem?_eq_some_iff.1 hc').1
   simp at hlen
   obtain rfl:i = a.cells.length:=by omega
   rw [List.getElem?_append_right (by omega)] at hc'
   rw [List.getElem?_append_right (by omega),len] at hx'
   simp at hc' hx'
   subst hc'
   subst hx'
   rcases hf with ⟨e1,e2⟩ | ⟨h,id,w,rfl,h1,h2,h3⟩
   ·exact .inl ⟨by rw [e1]; rfl,e2⟩
   ·refine .inr ⟨by cases hca:c.a with | nil => exact absurd hca h | cons y l => simp [Aay],id,w,by simp,h2,?_,h3⟩
    have a1:¬ id < m.next:=by omega
    have a2:id ≠ N:=fun e => hxN e
    simp [a1,h2,a2]
 ·obtain ⟨s1,s2,s3,s4⟩:=sane
  exact ⟨s1,s2,by simp [pushM]; omega,s4⟩
 ·intro j hj
  dsimp only at hj
  by_cases h1:j < m.next
  ·rw [if_pos h1] at hj
   exact ⟨.inl (hx j hj).1,by omega⟩
  ·rw [if_neg h1] at hj
   by_cases h2:j < m'.next
   ·exact ⟨.inr (by omega),h2⟩
   ·rw [if_neg h2] at hj
    exact absurd rfl hj
 ·refine k.mono fun j hj => ?_
  rcases hj with rfl | hj
  ·exact (hx j (by rw [ta]; simp)).1
  ·exact (hx j (by rw [hC j hj]; simp)).1
theorem Has.acc {t:Nat → Option Nat} {n k:Nat} {ag:Bool} {m:Mem} {x:AV} {ys:List AV} (h:Has t n k ag (.emp 0) m x ys):Acc Mem.empty m k ag ys x:=by
 rcases h with h | ⟨h,id,v,h1,h2,_,h3⟩
 ·exact .inl h
 ·exact .inr ⟨h,id,v,h1,Nat.zero_le _,h2,h3⟩
theorem Aan:abuild Tryz.prog 51 [] = some (.agg [int 0,int 0]):=by simp [abuild,placesOf,fillAt]
theorem Ada (x y:Int):abuild Tryz.prog 51 [(0,int x),(1,int y)] = some (valA (x,y)):=by simp [abuild,placesOf,fillAt,valA]
theorem q60 {X:Nat → Prop} {A:Nat} {a:ArM} {m:Mem} (hA:Ar X A a m) (c:CeM) (ha:c.a.length < 2 ^ 21) (hs:c.s.length < 2 ^ 21):wph Tryz.prog ca (.func 60) [.ptr A 0,ceA c] m fun v m' => v = .tup [valA (allocM a c).2.1,int (allocM a c).2.2] ∧ Up X A (allocM a c).1 m m':=by
 refine Aas Tryz.func60 rfl rfl (by simp [Tryz.f60]) (by simp [Tryz.f60]) fun Q hQ => ?_
 simp only [Tryz.f60,show ca.keepRes 60 = false from rfl,show ca.keepArgs 60 = false from rfl] at hQ ⊢
 have k1:Kp m ((m.new (ceA c).cells false).new [int 0,int 0] false):=by simp
 have q1:=q34 (hA.kp k1)
 have q2:=q107 (hA.kp k1) c ha hs
 have hA1:=hA.kp k1
 simp only [Afv] at k1 q1 q2 hA1
 have ecA:AV.agg [int c.k,int c.n,.lst (vals c.a),.lst (byts c.s)] = ceA c:=rfl
 simp [q1.go,ecA,q2.go]
 unfold allocM at hQ
 cases hfit:fitsM a c with
 | false =>
  rw [hfit] at hQ
  simp [Aan]
  refine hQ _ _ _ ?_
  rw [Aaf]
  simp [aresult,oneOf,valA]
  exact Up.kp hA (by simp)
 | true =>
  rw [hfit] at hQ
  obtain ⟨t,M,cs,ns,xs,h0,hx0⟩:=id hA
  have h:=h0.kc (Y:=fun _ => False) (.of (.of k1)) fun _ _ _ _ h => h
  have hx:∀ j,t j ≠ none → X j ∧ j < m.next:=hx0
  have ownC:∀ j,owns cs j → j < m.next ∧ t j = some 1:=by
   intro j hj
   rcases h0.cells with ⟨_,rfl⟩ | ⟨_,C,u,rfl,hc1,hc2,_⟩
   ·exact hj.elim
   ·have e:C = j:=hj
    subst e
    exact ⟨hc1,hc2⟩
  obtain ⟨w,hv⟩:=h.get
  have hAlt:=h.lt
  have lc:=fun m' R => Acd (T:=74) (R:=R) (m':=m') h.cells Tryz.underlying74
  simp only [List.length_zipWith,h.len,Nat.min_self] at lc
  simp
  refine Aah (by kernel_rfl) (by kernel_rfl) ?_
  simp [hv,lc]
  refine Aad (fun hr => ?_) fun hr => ?_
  ·have hr':a.room ≤ a.cells.length:=by simpa using hr
   simp [Aan]
   refine hQ _ _ _ ?_
   rw [Aaf]
   simp [aresult,oneOf,valA,hr']
   exact Up.kp hA (by simp)
  ·have hr':¬ a.room ≤ a.cells.length:=by simpa using hr
   rw [if_pos rfl,if_neg hr'] at hQ
   have hcs:c.a.length ≤ 4096 ∧ c.s.length ≤ 4096:=by
    have:=hfit
    simp [fitsM] at this
    omega
   have nA:A ≠ m.next:=by have:=hA.lt; omega
   have nA1:A ≠ m.next + 1:=by have:=hA.lt; omega
   simp
   refine Aax (by kernel_rfl) ?_
   simp [hv]
   refine Aae (q64 (c:=c) (x0:=.lst (vals c.a)) (.inl rfl) hcs.1 hcs.2) ?_
   rintro _ m2 ⟨k2,x2,rfl,hf⟩
   have hv2:=(k2.get A (by have:=hA.lt; simp; omega)).trans hv
   have n2:=k2.next
   simp at n2
   have hsrc:=Abv (m:=m2.new (rowA c x2).cells false) (id:=m2.next) (c:=some 1) (k:=4) (ag:=true) (x:=rowA c x2) (w:=m2.clock + 1) (f:=false) rfl (by simp) (by simp) (Apa c x2)
   obtain ⟨m3,p1,p2,⟨w3,p3⟩,p4,p5⟩:=Acs (T:=74) ((h.cells.acc.kp k2).kp (.new m2 (rowA c x2).cells false)) (Ahj _ _) el74 (zs:=[rowA c x2]) (zs':=[rowA c x2]) (List.cons_ne_nil _ _) (by simp [Aao,Aba]) (by simp) (.refl _) (by have:=h.sane; simp [h.len]; omega)
   simp only [Ajj] at hsrc p1 p2 p3 p4 p5
   have nA2:A < m2.next:=by have:=hA.lt; omega
   have nA3:A ≠ m2.next:=by omega
   have wl:IntKind.i64.wrap ((a.cells.length:Int) + 1 - 1) = (a.cells.length:Int):=by rw [IntWalk.i64_in _ (by have:=h.sane; omega)]; omega
   have nown:¬ owns cs A:=fun hh => by
    have:=(ownC A hh).2
    rw [h.ta] at this
    cases this
   have hb3:m3.get (m.next + 1) = some (.cells [int 0,int 0] false (m.clock + 2)):=by
    rw [p4 (m.next + 1) (by simp; omega) (fun hh => by have:=(ownC _ hh).1; omega)]
    have:m.next + 1 ≠ m2.next:=by omega
    simp [this]
    rw [k2.get (m.next + 1) (by simp)]
    simp
   have hv3:m3.get A = some (.cells [int a.room,cs,ns,.mp M] false w):=by
    rw [p4 A (by simp; omega) nown]
    have:A ≠ m2.next:=by omega
    simp [this]
    exact hv2
   simp [rowA,abuildSlice,zeros,fillAt]
   simp [rowA] at hsrc p1
   simp [abuiltin,hsrc,p1,hv3]
   refine Abh (l:=[(4,6),(4,7)]) (by kernel_rfl) (?_:List.all _ _ = true) ?_
   ·simp [metAtD,metOkD,rank,verKeptD,Region.wanted,Mem.ver,hv,hv2,nA,nA1,nA3]
   have nA4:=Ne.symm nA1
   simp [hv3,Abw Tryz.underlying74,h.len,wl,Ada,hb3,nA1,nA4]
   refine hQ _ _ _ ?_
   rw [Aaf]
   have wl2:IntKind.i64.wrap (a.cells.length:Int) = (a.cells.length:Int):=IntWalk.i64_in _ (by have:=h.sane; omega)
   simp [aresult,oneOf,wl2]
   refine ⟨rfl,?_⟩
   have p5n:m2.next + 1 < m3.next:=by rw [p2]; simp
   have kc:KpC (fun j => j = A ∨ owns cs j) m ((m3.set A [int a.room,AV.sl (m2.next + 1) 0 (a.cells.length + 1) 4 true none,ns,AV.mp M]).set (m.next + 1) [int 7,int a.cells.length]):=by
    refine ⟨by simp; omega,fun j hj hn => ?_,fun j hj hn => ?_⟩
    ·have a1:j ≠ A:=fun e => hn (.inl e)
     have a2:¬ owns cs j:=fun e => hn (.inr e)
     have a3:j ≠ m.next + 1:=by omega
     have a4:j ≠ m2.next:=by omega
     have a5:j ≠ m.next:=by omega
     have:=p4 j (by simp; omega) a2
     simp [a4] at this
     simp [a1,a3,this]
     rw [k2.get j (by simp; omega)]
     simp [a3,a5]
    ·have b1:=p5 j (by simp; omega)
     have b2:=k2.x j (by simp; omega)
     simp at b1 b2
     simp
     exact ⟨b1.1.trans b2.1,b1.2.trans b2.2⟩
   refine A1g (N:=m2.next + 1) (x:=x2) h0 hx0 kc (by omega) (by simp; omega) ⟨w3,?_⟩ ⟨m3.clock + 1,?_⟩ (hf.keep (by simp) (by simp; omega) fun j hj1 hj2 => ?_) (fun hh => ?_) (by omega)
   ·have b1:m2.next + 1 ≠ A:=by omega
    have b2:m2.next ≠ m.next:=by omega
    simp [b1,b2]
    simpa using p3
   ·simp [nA1]
   ·simp at hj1
    have b1:j ≠ A:=by have:=hA.lt; omega
    have b2:j ≠ m.next + 1:=by omega
    have b3:j ≠ m2.next:=by omega
    have:=p4 j (by simp; omega) (fun hh => by have:=(ownC _ hh).1; omega)
    simp [b3] at this
    simp [b1,b2,this]
   ·rcases hf with ⟨_,rfl⟩ | ⟨_,id,u,rfl,_,hid,_⟩
    ·exact hh
    ·have e:id = m2.next + 1:=hh
     omega
def nameM (a:ArM) (s:List UInt8):ArM:=⟨a.room,a.cells,a.names ++ [s]⟩
def symM (a:ArM) (s:List UInt8):ArM × Val × Int :=
 if Sym s = true then (match a.names.findIdx? fun x => decide (x = s) with
  | some i => (a,(5,(i:Int)),0)
  | none => if 4096 ≤ a.names.length then (a,(0,0),111) else (nameM a s,(5,(a.names.length:Int)),0)) else (a,(0,0),110)
theorem Ahq:∀ (l:List (List UInt8)) (i:Nat),(symE i l).map (·.1) = l.map fun s => Value.string ⟨⟨s⟩⟩
 | [],_ => rfl
 | s :: l,i => by simp [symE,Ahq l (i + 1)]
theorem Ao8:∀ (l:List (List UInt8)) (i k:Nat) (s:List UInt8),l[k]? = some s → (symE i l)[k]? = some (.string ⟨⟨s⟩⟩,int ((i + k:Nat):Int),i + k)
 | [],_,k,_,h => by simp at h
 | x :: l,i,0,s,h => by simp at h; subst h; simp [symE]
 | x :: l,i,k + 1,s,h => by
  have:=Ao8 l (i + 1) k s (by simpa using h)
  simp [symE,this]
  omega
theorem Aln:∀ (l:List (List UInt8)) (i:Nat) (s:List UInt8),symE i (l ++ [s]) = symE i l ++ [(.string ⟨⟨s⟩⟩,int ((i + l.length:Nat):Int),i + l.length)]
 | [],i,s => by simp [symE]
 | x :: l,i,s => by
  simp [symE,Aln l (i + 1) s]
  omega
theorem A1h {X:Nat → Prop} {A M N:Nat} {a:ArM} {s:List UInt8} {m m':Mem} {t:Nat → Option Nat} {cs ns:AV} {xs:List AV} (h:ArT t A M cs ns xs a m) (hx:∀ j,t j ≠ none → X j ∧ j < m.next)
  (k:KpC (fun j => j = A ∨ j = M ∨ owns ns j) m m') (hN:m.next ≤ N) (hN2:N < m'.next) (hgN:∃ v,m'.get N = some (.cells (flat ((a.names ++ [s]).map strA)) false v)) (hgA:∃ v,m'.get A = some (.cells [int a.room,cs,.sl N 0 (a.names.length + 1) 1 false none,.mp M] false v))
  (hM:∃ v,m'.map M = some ⟨symE 0 (a.names ++ [s]),a.names.length + 1,v⟩) (hl:a.names.length < 4096):Up X A (nameM a s) m m':=by
 obtain ⟨lt,ta,⟨v,get⟩,ml,tm,⟨v2,map⟩,cells,names,len,row,sane⟩:=h
 have hC:∀ j,owns ns j → t j = some 2:=by
  intro j hj
  rcases names with ⟨_,rfl⟩ | ⟨_,C,w,rfl,_,h2,_⟩
  ·exact hj.elim
  ·have:C = j:=hj
   rw [← this]; exact h2
 have tc:∀ j n,j < m.next → t j = some n → n ≠ 0 → n ≠ 2 → n ≠ 3 → m'.get j = m.get j:=by
  intro j n hj ht h0 h1 h3
  refine k.get j hj ?_
  rintro (rfl | rfl | h)
  ·rw [ta] at ht; cases ht; exact h0 rfl
  ·rw [tm] at ht; cases ht; exact h3 rfl
  ·rw [hC j h] at ht; cases ht; exact h1 rfl
 have kn:=k.next
 have told:∀ j,j < m.next → (if j < m.next then t j else if j = N then some 2 else none) = t j:=fun j hj => if_pos hj
 refine ⟨fun j => X j ∨ m.next ≤ j,⟨fun j => if j < m.next then t j else if j = N then some 2 else none,M,cs,.sl N 0 (a.names.length + 1) 1 false none,xs,⟨by omega,(told A lt).trans ta,hgA,by omega,(told M ml).trans tm,by simpa [nameM] using hM,?_,?_,len,?_,?_⟩,?_⟩,?_,fun j h => h⟩
 ·exact cells.mono kn fun j hj ht => ⟨tc j 1 hj ht (by omega) (by omega) (by omega),(told j hj).trans ht⟩
 ·obtain ⟨w,hw⟩:=hgN
  have:¬ N < m.next:=by omega
  exact .inr ⟨by simp [nameM],N,w,by simp [nameM],hN2,by simp [this],hw⟩
 ·intro i c x hc hx'
  exact (row i c x hc hx').mono kn fun j hj ht => ⟨tc j (4 + i) hj ht (by omega) (by omega) (by omega),(told j hj).trans ht⟩
 ·obtain ⟨s1,s2,s3,s4⟩:=sane
  exact ⟨s1,s2,s3,by simp [nameM]; omega⟩
 ·intro j hj
  dsimp only at hj
  by_cases h1:j < m.next
  ·rw [if_pos h1] at hj
   exact ⟨.inl (hx j hj).1,by omega⟩
  ·rw [if_neg h1] at hj
   by_cases h2:j = N
   ·subst h2; exact ⟨.inr hN,hN2⟩
   ·rw [if_neg h2] at hj
    exact absurd rfl hj
 ·refine k.mono fun j hj => ?_
  rcases hj with rfl | rfl | hj
  ·exact (hx j (by rw [ta]; simp)).1
  ·exact (hx j (by rw [tm]; simp)).1
  ·exact (hx j (by rw [hC j hj]; simp)).1
theorem Ah0 (l:List (List UInt8)):okAll 1 (l.map strA) = true:=by
 induction l with
 | nil => rfl
 | cons s l ih => rw [List.map_cons,Aao,ih]; simp
theorem q59 {X:Nat → Prop} {A:Nat} {a:ArM} {m:Mem} (hA:Ar X A a m) (s:List UInt8) (hs:s.length < 2 ^ 62):wph Tryz.prog ca (.func 59) [.ptr A 0,strA s] m fun v m' => v = .tup [valA (symM a s).2.1,int (symM a s).2.2] ∧ Up X A (symM a s).1 m m':=by
 refine Aas Tryz.func59 rfl rfl (by simp [Tryz.f59]) (by simp [Tryz.f59]) fun Q hQ => ?_
 simp only [Tryz.f59,show ca.keepRes 59 = false from rfl,show ca.keepArgs 59 = false from rfl] at hQ ⊢
 have k1:Kp m (m.new [int 0,int 0] false):=by simp
 have q1:=q34 (hA.kp k1)
 have q2:=Ad2 (g12 s hs)
 simp [q1.go,q2.go]
 unfold symM at hQ
 cases hsy:Sym s with
 | false =>
  rw [hsy] at hQ
  simp [Aan]
  refine hQ _ _ _ ?_
  rw [Aaf]
  simp [aresult,oneOf,valA]
  exact Up.kp hA (by simp)
 | true =>
  rw [hsy,if_pos rfl] at hQ
  obtain ⟨t,M,cs,ns,xs,h0,hx0⟩:=id hA
  have h:=h0.kc (Y:=fun _ => False) (.of (.of k1)) fun _ _ _ _ h => h
  obtain ⟨w,hv⟩:=h.get
  obtain ⟨w2,hmap⟩:=h.map
  have hl:=Aoq (P:=Tryz.prog) (ok:=true) Arx Tryz.underlying9 hmap (Ahq a.names 0) s
  have nA:A ≠ m.next:=by have:=hA.lt; omega
  have hAlt:=hA.lt
  simp [hv]
  cases hf:a.names.findIdx? fun x => decide (x = s) with
  | some i =>
   rw [hf] at hl hQ
   have hi:i < a.names.length:=by
    rw [List.findIdx?_eq_some_iff_getElem] at hf
    exact hf.1
   have hg:=Ao8 a.names 0 i _ (List.getElem?_eq_getElem hi)
   simp only [hg,Nat.zero_add] at hl
   have wi:IntKind.i64.wrap (i:Int) = (i:Int):=IntWalk.i64_in _ (by have:=h.sane; omega)
   simp [hl,Ada,wi]
   refine hQ _ _ _ ?_
   rw [Aaf]
   simp [aresult,oneOf]
   exact ⟨rfl,Up.kp hA (by simp)⟩
  | none =>
   rw [hf] at hl hQ
   simp only [Aoz,Option.map_some] at hl
   have ln:=fun m' R => Acd (T:=85) (R:=R) (m':=m') h.names Tryz.underlying85
   simp only [List.length_map] at ln
   simp [hl,hv,ln]
   refine Aad (fun hr => ?_) fun hr => ?_
   ·have hr':4096 ≤ a.names.length:=by have:=of_decide_eq_true hr; omega
    dsimp only at hQ
    rw [if_pos hr'] at hQ
    simp [Aan]
    refine hQ _ _ _ ?_
    rw [Aaf]
    simp [aresult,oneOf]
    exact ⟨rfl,Up.kp hA (by simp)⟩
   ·have hr':¬ 4096 ≤ a.names.length:=by have:=of_decide_eq_false hr; omega
    dsimp only at hQ
    rw [if_neg hr'] at hQ
    have hu:=Ai6 (P:=Tryz.prog) Arx Tryz.underlying9 hmap (Ahq a.names 0) hf (int a.names.length)
    have ownC:∀ j,owns ns j → j < m.next ∧ t j = some 2:=by
     intro j hj
     rcases h0.names with ⟨_,rfl⟩ | ⟨_,C,u,rfl,hc1,hc2,_⟩
     ·exact hj.elim
     ·have e:C = j:=hj
      subst e
      exact ⟨hc1,hc2⟩
    have nM:M ≠ A:=fun e => by have q:=h0.tm; rw [e,h0.ta] at q; cases q
    have nown:∀ j,owns ns j → ¬ j = M:=fun j hj e => by have q:=(ownC j hj).2; rw [e,h0.tm] at q; cases q
    have nownA:¬ owns ns A:=fun hh => by have q:=(ownC A hh).2; rw [h0.ta] at q; cases q
    obtain ⟨M1,hM1⟩:∃ M1,M1 = (m.new [int 0,int 0] false).setMap M (symE 0 a.names ++ [(.string ⟨⟨s⟩⟩,int a.names.length,a.names.length)]) (a.names.length + 1):=⟨_,rfl⟩
    have g1:∀ j,M1.get j = (m.new [int 0,int 0] false).get j:=fun j => by rw [hM1]; simp
    have n1:M1.next = m.next + 1:=by rw [hM1]; simp
    have kM:KpC (fun j => j = M) m M1:=⟨by omega,fun j hj _ => by rw [g1,Mem.get_new,if_neg (by omega)],fun j hj hn => by rw [hM1]; simp [show j ≠ M from hn,Ne.symm (show j ≠ M from hn)]⟩
    have hvA:M1.get A = some (.cells [int a.room,cs,ns,.mp M] false w):=by rw [g1]; exact hv
    have hsrc:=Abv (m:=M1.new (strA s).cells false) (id:=M1.next) (c:=some 1) (k:=1) (ag:=false) (x:=strA s) (w:=M1.clock + 1) (f:=false) rfl (by simp) (by simp) (by simp)
    obtain ⟨m3,p1,p2,⟨w3,p3⟩,p4,p5⟩:=Acs (T:=85) ((Aa9 h0.names.acc kM nown).kp (.new M1 (strA s).cells false)) (Ah0 _) el85 (zs:=[strA s]) (zs':=[strA s]) (List.cons_ne_nil _ _) (by simp [Aao,Aba]) (by simp) (.refl _) (by simp; omega)
    have hv3:m3.get A = some (.cells [int a.room,cs,ns,.mp M] false w):=by
     rw [p4 A (by simp; omega) nownA]
     have:A ≠ M1.next:=by omega
     simp [this]
     exact hvA
    simp [hv,hu,abuildSlice,zeros,fillAt]
    rw [← hM1]
    simp [n1] at hsrc p1
    have wl:IntKind.i64.wrap (a.names.length:Int) = (a.names.length:Int):=IntWalk.i64_in _ (by omega)
    have nA4:m.next ≠ A:=Ne.symm nA
    have hb3:m3.get m.next = some (.cells [int 0,int 0] false (m.clock + 1)):=by
     rw [p4 m.next (by simp; omega) (fun hh => by have:=(ownC _ hh).1; omega)]
     have:m.next ≠ M1.next:=by omega
     simp [this,g1]
    simp [abuiltin,hsrc,p1,hv3,Ada,wl,hb3,nA4,nA]
    refine hQ _ _ _ ?_
    rw [Aaf]
    simp [aresult,oneOf,wl]
    refine ⟨rfl,?_⟩
    simp at p2 p3
    refine A1h (N:=m.next + 2) h0 hx0 (⟨by simp; omega,fun j hj hn => ?_,fun j hj hn => ?_⟩:KpC (fun j => j = A ∨ j = M ∨ owns ns j) m _) (by omega) (by simp; omega) ⟨w3,?_⟩ ⟨m3.clock + 1,?_⟩ ?_ (by omega)
    ·have a1:j ≠ A:=fun e => hn (.inl e)
     have a2:¬ owns ns j:=fun e => hn (.inr (.inr e))
     have a3:j ≠ m.next:=by omega
     have:=p4 j (by simp; omega) a2
     simp [show j ≠ M1.next by omega,g1,a3] at this
     simp [a1,a3,this]
    ·have a2:j ≠ M:=fun e => hn (.inr (.inl e))
     have b1:=p5 j (by simp; omega)
     have b2:=kM.x j hj a2
     simp at b1 b2
     simp
     exact ⟨b1.1.trans b2.1,b1.2.trans b2.2⟩
    ·have b1:m.next + 2 ≠ A:=by omega
     simp [b1]
     rw [n1] at p3
     simpa using p3
    ·simp [nA]
    ·have b1:=p5 M (by have:=h0.ml; simp; omega)
     simp at b1
     refine ⟨?_,?_⟩
     rotate_left
     ·simp [b1.2]
      rw [hM1]
      simp [Aln]
      rfl
theorem A1e {J:Nat → Mem → Prop} {lo db:Nat} (l:List Dat) (hl:l.length < 2 ^ 21)
  (hJ:∀ k x m,l[k]? = some x → J (k + 1) m → wph Tryz.prog ca (.yield lo) [int k,enc x] m fun v m' => v = .sc (.bool true) ∧ J k m')
  (hb:∀ k m,J k m → has m db [.lst (encs l)]) (m:Mem) (h:J l.length m):wph Tryz.prog ca (.func 108) [.yl lo,.ptr db 0] m fun v m' => v = .tup [] ∧ J 0 m':=by
 refine Aas Tryz.func108 rfl rfl (by simp [Tryz.f108]) (by simp [Tryz.f108]) fun Q hQ => ?_
 simp only [Tryz.f108,show ca.keepRes 108 = false from rfl,show ca.keepArgs 108 = false from rfl] at hQ ⊢
 obtain ⟨bl,bv,be⟩:=hb _ _ h
 have w0:IntKind.i64.wrap ((l.length:Int) - 1) = (l.length:Int) - 1:=IntWalk.i64_in _ (by omega)
 simp [be,w0]
 refine Abs (fun k s m' => k ≤ l.length ∧ s.at 3 = int ((k:Int) - 1) ∧ s.at 0 = .yl lo ∧ s.at 1 = .ptr db 0 ∧ J k m') l.length ⟨Nat.le_refl _,by simp,by simp,by simp,h⟩ ?_
 rintro k s m' ⟨hk,e3,e0,e1,hJk⟩ Q' hn he
 obtain ⟨bl,bv,be⟩:=hb _ _ hJk
 simp [e3]
 cases k with
 | zero =>
  simp
  refine he _ _ _ (by simp) ?_
  simp
  exact hQ _ _ _ (by rw [Agm (.inl rfl)]; exact ⟨rfl,hJk⟩)
 | succ k =>
  obtain ⟨x,hx⟩:∃ x,l[k]? = some x:=⟨_,List.getElem?_eq_getElem (by omega)⟩
  have hx':(encs l)[k]? = some (enc x):=by rw [Acq,hx]; rfl
  have e3':s.at 3 = int (k:Int):=by rw [e3]; congr 3; omega
  have ek:((k:Int) + 1 - 1) = (k:Int):=by omega
  have hix:=Aam (P:=Tryz.prog) (q:=.i64) Tryz.underlying43 Abp hx' (Aa1 x)
  have h0:(0:Int) ≤ k:=by omega
  have w1:IntKind.i64.wrap ((k:Int) - 1) = (k:Int) - 1:=IntWalk.i64_in _ (by omega)
  have h1:(1:Int) ≤ (k:Int) + 1:=by omega
  simp [e0,e1,e3',be,hix,ek,h1]
  refine Aae (hJ k x m' hx hJk) ?_
  rintro v m2 ⟨rfl,hJ2⟩
  simp [e3',w1]
  refine hn k _ _ (by omega) ⟨by omega,by simp,by simp [e0],by simp [e1],hJ2⟩
end Go.Proofs.YtnhcmcfgemoehaaGreat
namespace Go.V
variable {P:Program}
theorem Aic {q:IntKind} {k:Int}:∀ (ks:List Int) (i:Nat),Instr.findNow (.int q) (.int .i64 k) (ks.map fun x => ⟨.int .i64 x,undef,0⟩) i = some ((ks.findIdx? fun x => decide (x = k)).map fun j => (j + i,undef))
 | [],i => rfl
 | x :: ks,i => by
  simp only [List.map_cons,Instr.findNow,List.findIdx?_cons]
  have h:Instr.sameNow (.int q) (.int .i64 k) (.int .i64 x) = some (decide (x = k)):=by
   show some _ = _
   congr 1
   rw [Bool.eq_iff_iff]
   simp only [decide_eq_true_eq]
   constructor
   ·intro h; first | exact (by simpa using h:k = x).symm | exact (by simpa using h)
   ·intro h; subst h; simp
  rw [h]
  by_cases e:x = k
  ·simp [e]
  ·simp only [e,decide_false,Aic ks (i + 1)]
   cases ks.findIdx? fun x => decide (x = k) with
   | none => simp
   | some j => simp; omega
theorem Am9 {T:TypeId} {q:IntKind} (hT:P.underlying T = some (.int q)) (k:Int) (ks:List Int):afind P T (.int .i64 k) (ks.map fun x => .int .i64 x) = some (ks.findIdx? fun x => decide (x = k)):=by
 have e:(ks.map fun x => Value.int .i64 x).map (fun x => (⟨x,undef,0⟩:MapEntry)) = ks.map fun x => ⟨.int .i64 x,undef,0⟩:=by rw [List.map_map]; rfl
 unfold afind
 rw [hT]
 dsimp only
 rw [e,Aic]
 cases ks.findIdx? fun x => decide (x = k) <;> simp
theorem Ap1 {T:TypeId} {q:IntKind} (hT:P.underlying T = some (.int q)) (e:Bool) (k:Int):akey P T e (.sc (.int .i64 k)) = some (.int .i64 k):=by
 have h:pureRun P (Instr.checkKey e 10000 T (.int .i64 k)) = some ():=by
  rw [show (10000:Nat) = 9999 + 1 from rfl]
  unfold Instr.checkKey
  rw [Aai,Aal hT]
  rfl
 unfold akey
 simp [plain,h]
theorem Ae3 {t kt et:TypeId} {q:IntKind} (h:tmap P t = some (kt,et)) (hk:P.underlying kt = some (.int q)) {m:Mem} {id:Nat} {M:AMap} (hM:m.map id = some M) {ks:List Int} (hs:M.es.map (·.1) = ks.map fun x => .int .i64 x) (k:Int) (ok:Bool) :
  alookup P t (.mp id) (.sc (.int .i64 k)) ok m = (match ks.findIdx? fun x => decide (x = k) with
   | some i => (match M.es[i]? with | some (_,v,_) => some (if ok then .tup [v,.sc (.bool true)] else v) | Option.none => Option.none)
   | Option.none => (tzero P et).map fun z => if ok then .tup [z,.sc (.bool false)] else z):=by
 unfold alookup amapOf
 simp only [h,hM,Option.map_some,Ap1 hk,hs,Am9 hk]
 cases ks.findIdx? fun x => decide (x = k) <;> rfl
theorem Aaw {t kt et:TypeId} {q:IntKind} (h:tmap P t = some (kt,et)) (hk:P.underlying kt = some (.int q)) {m:Mem} {id:Nat} {M:AMap} (hM:m.map id = some M) {ks:List Int} (hs:M.es.map (·.1) = ks.map fun x => .int .i64 x) {k:Int} (hn:(ks.findIdx? fun x => decide (x = k)) = none) (v:AV) :
  amapUpdate P t (.mp id) (.sc (.int .i64 k)) v m = some (m.setMap id (M.es ++ [(.int .i64 k,v,M.ck)]) (M.ck + 1)):=by
 unfold amapUpdate
 simp only [h,hM,Ap1 hk,hs,Am9 hk,hn]
end Go.V
namespace Go.Proofs.YtnhcmcfgemoehaaGreat
set_option maxRecDepth 4000
mutual
theorem eqb_refl:∀ d:Dat,eqb d d = true
 | .mk K N S M L T => by simp [eqb,eqbs_refl L,eqbs_refl T]
theorem eqbs_refl:∀ l:List Dat,eqbs l l = true
 | [] => by simp [eqbs]
 | d :: l => by simp [eqbs,eqb_refl d,eqbs_refl l]
end
theorem An0 {K N:Int} {S:List UInt8} {M:List Int} {L T:List Dat} (h:good (.mk K N S M L T) = true):alone (.mk K N S M L T) = true ∧ goods L = true ∧ goods T = true:=by
 rw [good] at h
 simpa using h
end Go.Proofs.YtnhcmcfgemoehaaGreat
