/- Part of a proof. -/
import Derived.Test.YthegkphhfleghaaGreatCP6
import Derived.ProofKit
set_option maxHeartbeats 64000000
set_option linter.unusedSimpArgs false
set_option linter.unusedVariables false
set_option linter.unusedSectionVars false
namespace Go.Proofs.YthegkphhfleghaaGreat
set_option maxRecDepth 4000
set_option maxRecDepth 4000
set_option maxRecDepth 4000
open Go.V
theorem follows_mixed:Tryz.prog.follows .mixedOrders = true:=by kernel_rfl
theorem cl24:CloneAt Tryz.prog 26:=⟨fun m => by kernel_rfl,fun m => ⟨1,false,by kernel_rfl⟩⟩
theorem cl38:CloneAt Tryz.prog 50:=⟨fun m => by kernel_rfl,fun m => ⟨2,true,by kernel_rfl⟩⟩
theorem cl39:CloneAt Tryz.prog 51:=⟨fun m => by kernel_rfl,fun m => ⟨1,false,by kernel_rfl⟩⟩
theorem mcl37:ByHand Tryz.prog 49 mcloneH:=Ahm Tryz.func49 (by kernel_rfl) rfl (by kernel_rfl) (by kernel_rfl)
noncomputable def ck:Cfg:=⟨fun _ => true,fun _ => true,fun f => if f == 26 || f == 50 || f == 51 then some (cloneH Tryz.prog f) else if f == 49 then some mcloneH else none,fun _ => 0⟩
theorem Akj (f:FuncId) (h:List AV → Mem → Option (AV × Mem)) (e:ck.hook f = some h):ByHand Tryz.prog f h:=by
 unfold ck at e
 dsimp only at e
 split at e
 ·rename_i hc
  cases e
  have:f = 26 ∨ f = 50 ∨ f = 51:=by simpa [or_assoc] using hc
  rcases this with rfl | rfl | rfl
  ·exact ⟨fun B W args m v m' e2 hv => Ab5 follows_mixed cl24 e2 hv,fun args m v m' e2 => Aei (W:=default) e2⟩
  ·exact ⟨fun B W args m v m' e2 hv => Ab5 follows_mixed cl38 e2 hv,fun args m v m' e2 => Aei (W:=default) e2⟩
  ·exact ⟨fun B W args m v m' e2 hv => Ab5 follows_mixed cl39 e2 hv,fun args m v m' e2 => Aei (W:=default) e2⟩
 ·split at e
  ·rename_i hc
   have:f = 49:=by simpa using hc
   subst this
   cases e
   exact mcl37
  ·cases e
theorem A45 {P:Program} {cfg c2:Cfg} {n:Nat} {f:FuncId} {v:AV} {m:Mem} (hk:cfg.hook f = some (roH (limH P c2 f))) (h:(afn P c2 n (.func f) [] Mem.empty).map (·.1) = some v) (hv:v.out = true):EH P cfg (.func f) [] m v m:=by
 refine Abh hk ?_
 obtain ⟨⟨v',m'⟩,h1,h2⟩:=Option.map_eq_some_iff.1 h
 cases h2
 have h3:limH P c2 f [] Mem.empty = some (v',m'):=Afh (.of h1)
 unfold roH
 simp [fzvs,AV.bels,h3,hv]
def rws:List (List UInt8 × Int × Int) :=
 [([43],0,-1),
  ([45],1,-1),
  ([42],0,-1),
  ([113,117,111,116,105,101,110,116],2,2),
  ([114,101,109,97,105,110,100,101,114],2,2),
  ([109,111,100,117,108,111],2,2),
  ([61],1,-1),
  ([60],1,-1),
  ([62],1,-1),
  ([60,61],1,-1),
  ([62,61],1,-1),
  ([122,101,114,111,63],1,1),
  ([110,111,116],1,1),
  ([101,113,63],2,2),
  ([101,113,117,97,108,63],2,2),
  ([99,111,110,115],2,2),
  ([99,97,114],1,1),
  ([99,100,114],1,1),
  ([115,101,116,45,99,97,114,33],2,2),
  ([115,101,116,45,99,100,114,33],2,2),
  ([112,97,105,114,63],1,1),
  ([110,117,108,108,63],1,1),
  ([108,105,115,116],0,-1),
  ([108,101,110,103,116,104],1,1),
  ([97,112,112,101,110,100],0,-1),
  ([114,101,118,101,114,115,101],1,1),
  ([108,105,115,116,45,114,101,102],2,2),
  ([118,101,99,116,111,114],0,-1),
  ([109,97,107,101,45,118,101,99,116,111,114],1,2),
  ([118,101,99,116,111,114,45,114,101,102],2,2),
  ([118,101,99,116,111,114,45,115,101,116,33],3,3),
  ([118,101,99,116,111,114,45,108,101,110,103,116,104],1,1),
  ([115,116,114,105,110,103,45,108,101,110,103,116,104],1,1),
  ([115,116,114,105,110,103,45,114,101,102],2,2),
  ([115,116,114,105,110,103,45,97,112,112,101,110,100],0,-1),
  ([115,117,98,115,116,114,105,110,103],3,3),
  ([115,116,114,105,110,103,61,63],2,2),
  ([115,121,109,98,111,108,45,62,115,116,114,105,110,103],1,1),
  ([115,116,114,105,110,103,45,62,115,121,109,98,111,108],1,1),
  ([110,117,109,98,101,114,45,62,115,116,114,105,110,103],1,1),
  ([115,116,114,105,110,103,45,62,110,117,109,98,101,114],1,1),
  ([99,104,97,114,45,62,105,110,116,101,103,101,114],1,1),
  ([105,110,116,101,103,101,114,45,62,99,104,97,114],1,1),
  ([115,121,109,98,111,108,63],1,1),
  ([115,116,114,105,110,103,63],1,1),
  ([110,117,109,98,101,114,63],1,1),
  ([98,111,111,108,101,97,110,63],1,1),
  ([99,104,97,114,63],1,1),
  ([112,114,111,99,101,100,117,114,101,63],1,1),
  ([118,101,99,116,111,114,63],1,1),
  ([97,98,115],1,1),
  ([109,105,110],1,-1),
  ([109,97,120],1,-1),
  ([101,120,112,116],2,2),
  ([103,99,100],0,-1),
  ([],0,0),
  ([],0,0),
  ([],0,0),
  ([],0,0),
  ([],0,0),
  ([],0,0),
  ([],0,0),
  ([],0,0),
  ([],0,0),
  ([97,112,112,108,121],2,2),
  ([99,97,108,108,47,49,99,99],1,1),
  ([101,114,114,111,114],1,-1),
  ([115,112,97,119,110],1,1),
  ([121,105,101,108,100],0,0),
  ([106,111,105,110],1,1),
  ([115,101,108,102],0,0),
  ([109,97,107,101,45,99,104,97,110,110,101,108],1,1),
  ([115,101,110,100],2,2),
  ([114,101,99,101,105,118,101],1,1),
  ([99,108,111,115,101],1,1),
  ([109,97,107,101,45,109,117,116,101,120],0,0),
  ([108,111,99,107],1,1),
  ([117,110,108,111,99,107],1,1),
  ([109,97,107,101,45,99,111,110,100,105,116,105,111,110],0,0),
  ([119,97,105,116],2,2),
  ([115,105,103,110,97,108],1,1),
  ([98,114,111,97,100,99,97,115,116],1,1),
  ([109,97,107,101,45,101,110,103,105,110,101],1,1),
  ([114,117,110,45,101,110,103,105,110,101],4,4),
  ([100,105,115,112,108,97,121],1,1)]
def rowC (r:List UInt8 × Int × Int):List AV:=[.sc (.string ⟨⟨r.1⟩⟩),int r.2.1,int r.2.2]
def tableA:AV:=.agg (rws.flatMap rowC)
theorem Af3:rws.length = 85:=rfl
theorem Anx (l:List (List UInt8 × Int × Int)):(l.flatMap rowC).length = 3 * l.length:=by
 induction l with
 | nil => rfl
 | cons r l ih => rw [List.flatMap_cons,List.length_append,ih,List.length_cons]; show 3 + _ = _; omega
theorem Atr:∀ (l:List (List UInt8 × Int × Int)) (i:Nat) (r:List UInt8 × Int × Int),l[i]? = some r → ((l.flatMap rowC).drop (i * 3)).take 3 = rowC r
 | [],i,r,h => by simp at h
 | q :: l,0,r,h => by
  simp at h; subst h
  rfl
 | q :: l,i + 1,r,h => by
  have:=Atr l i r (by simpa using h)
  rw [List.flatMap_cons,show (i + 1) * 3 = (rowC q).length + i * 3 by show _ = 3 + _; omega,List.drop_append,List.drop_eq_nil_of_le (by omega),Nat.add_sub_cancel_left]
  exact this
theorem run22:(afn Tryz.prog ck 3 (.func 178) [] Mem.empty).map (·.1) = some tableA:=by kernel_rfl
theorem Ath:tableA.out = true:=by kernel_rfl
theorem Ax1 {i:Nat} {r:List UInt8 × Int × Int} (h:rws[i]? = some r):aindex Tryz.prog 270 tableA (int i) = some (.agg (rowC r)):=by
 have hi:i < 85:=by
  have:=(List.getElem?_eq_some_iff.1 h).1
  rwa [Af3] at this
 have hl:(rws.flatMap rowC).length = 255:=by rw [Anx,Af3]
 unfold aindex tableA
 have h0:¬ ((i:Int) < 0):=by omega
 simp only [h0,if_false,A2w,Apq,Int.toNat_natCast,hi,if_true]
 rw [Afc A2y Apq,if_pos (by omega),Atr rws i r h]
attribute [irreducible] rws
end Go.Proofs.YthegkphhfleghaaGreat
namespace Go.Proofs.YthegkphhfleghaaGreat
set_option maxRecDepth 4000
set_option maxRecDepth 4000
open Go.V
attribute [local simp] Nat.add_assoc
end Go.Proofs.YthegkphhfleghaaGreat
namespace Go.Proofs.YthegkphhfleghaaGreat
set_option maxRecDepth 4000
set_option maxRecDepth 4000
mutual
theorem eqb_refl:∀ d:Dat,eqb d d = true
 | .mk K N S M L T => by simp [eqb,eqbs_refl L,eqbs_refl T]
theorem eqbs_refl:∀ l:List Dat,eqbs l l = true
 | [] => by simp [eqbs]
 | d :: l => by simp [eqbs,eqb_refl d,eqbs_refl l]
end
theorem Ax6 {d:Dat} (h:chk d = 0):sam d d = true:=by simp [sam,h,eqb_refl]
theorem Auu {K N:Int} {S:List UInt8} {M:List Int} {L T:List Dat} (h:good (.mk K N S M L T) = true):alone (.mk K N S M L T) = true ∧ goods L = true ∧ goods T = true:=by
 rw [good] at h
 simpa using h
mutual
def pre:Dat → List Dat
 | .mk K N S M L T => .mk K N S M L T :: (pres L ++ pres T)
def pres:List Dat → List Dat
 | [] => []
 | d :: l => pre d ++ pres l
end
mutual
theorem rgo_pre:∀ (d:Dat) (deep:Int) (r:RS),r.e = 0 → (rgo d deep r).e = 0 → (rgo d deep r).ps = r.ps ++ pre d
 | .mk K N S M L T,deep,r,h,he => by
  rw [rgo,if_neg (by simp [h])] at he ⊢
  split at he
  ·simp at he
  rw [if_neg ‹_›]
  split at he
  ·simp at he
  rw [if_neg ‹_›]
  split at he
  ·simp at he
  rw [if_neg ‹_›]
  generalize hr1:(⟨r.ps ++ [Dat.mk K N S M L T],r.ds ++ [deep],0⟩:RS) = r1 at he ⊢
  have e1:r1.e = 0:=by rw [← hr1]
  have e2:(rgos L (deep + 1) r1).e = 0:=by
   by_cases e:(rgos L (deep + 1) r1).e = 0
   ·exact e
   ·rw [rgos_err T _ _ e] at he; exact absurd he e
  rw [rgos_pre T _ _ e2 he,rgos_pre L _ _ e1 e2,← hr1,pre]
  simp
theorem rgos_pre:∀ (l:List Dat) (deep:Int) (r:RS),r.e = 0 → (rgos l deep r).e = 0 → (rgos l deep r).ps = r.ps ++ pres l
 | [],deep,r,h,he => by simp [rgos,pres]
 | d :: l,deep,r,h,he => by
  rw [rgos] at he ⊢
  have e2:(rgo d deep r).e = 0:=by
   by_cases e:(rgo d deep r).e = 0
   ·exact e
   ·rw [rgos_err l _ _ e] at he; exact absurd he e
  rw [rgos_pre l _ _ e2 he,rgo_pre d _ _ h e2,pres]
  simp
end
def nsame:Dat → Dat → Bool
 | .mk K N S M L T,.mk K' N' S' M' L' T' => decide (K = K') && (decide (N = N') && (decide (S = S') && (decide (M = M') && (decide (L.length = L'.length) && decide (T.length = T'.length)))))
def all2:List Dat → List Dat → Bool
 | [],[] => true
 | a :: l,b :: r => nsame a b && all2 l r
 | _,_ => false
theorem Aev:∀ {l r:List Dat},eqbs l r = true → l.length = r.length
 | [],[],_ => rfl
 | [],_ :: _,h => by simp [eqbs] at h
 | _ :: _,[],h => by simp [eqbs] at h
 | a :: l,b :: r,h => by simp only [eqbs,Bool.and_eq_true] at h; simp [Aev h.2]
mutual
theorem all2_pre:∀ (a b:Dat) (x y:List Dat),all2 (pre a ++ x) (pre b ++ y) = (eqb a b && all2 x y)
 | .mk K N S M L T,.mk K' N' S' M' L' T',x,y => by
  simp only [pre,List.cons_append,all2,nsame,eqb,List.append_assoc]
  by_cases hl:L.length = L'.length
  ·by_cases ht:T.length = T'.length
   ·rw [all2_pres L L' _ _ hl,all2_pres T T' _ _ ht]
    simp [hl,ht,Bool.and_assoc]
   ·have:eqbs T T' = false:=by
     cases h:eqbs T T' with
     | false => rfl
     | true => exact absurd (Aev h) ht
    simp [ht,this]
  ·have:eqbs L L' = false:=by
    cases h:eqbs L L' with
    | false => rfl
    | true => exact absurd (Aev h) hl
   simp [hl,this]
theorem all2_pres:∀ (l r:List Dat) (x y:List Dat),l.length = r.length → all2 (pres l ++ x) (pres r ++ y) = (eqbs l r && all2 x y)
 | [],[],x,y,h => by simp [pres,eqbs]
 | [],_ :: _,x,y,h => by simp at h
 | _ :: _,[],x,y,h => by simp at h
 | a :: l,b :: r,x,y,h => by
  simp only [pres,List.append_assoc,eqbs]
  rw [all2_pre a b,all2_pres l r x y (by simpa using h),Bool.and_assoc]
end
end Go.Proofs.YthegkphhfleghaaGreat
namespace Go.Proofs.YthegkphhfleghaaGreat
set_option maxRecDepth 4000
set_option maxRecDepth 4000
open Go.V
attribute [local simp] Nat.add_assoc
mutual
theorem pre_fits:∀ (d:Dat),d.fits → fitss (pre d)
 | .mk K N S M L T,h => by
  have h2:=h
  rw [Dat.fits] at h2
  rw [pre,fitss]
  exact ⟨h,fitss_append (pres_fits L h2.2.1) (pres_fits T h2.2.2)⟩
theorem pres_fits:∀ (l:List Dat),fitss l → fitss (pres l)
 | [],h => trivial
 | d :: l,h => by
  rw [fitss] at h
  rw [pres]
  exact fitss_append (pre_fits d h.1) (pres_fits l h.2)
theorem fitss_append:∀ {a b:List Dat},fitss a → fitss b → fitss (a ++ b)
 | [],b,_,h => h
 | d :: a,b,h,h2 => by
  rw [fitss] at h
  exact ⟨h.1,fitss_append h.2 h2⟩
end
end Go.Proofs.YthegkphhfleghaaGreat
namespace Go.Proofs.YthegkphhfleghaaGreat
set_option maxRecDepth 4000
set_option maxRecDepth 4000
open Go.V
def here:List Nat:=[123,59,164,165,94,83]
noncomputable def cw:Cfg:=⟨fun _ => false,fun _ => false,fun f => if here.contains f then none else some (limH Tryz.prog cf f),fun f => if f == 83 then 1 else 0⟩
theorem cw_eh {f:FuncId} {args:List AV} {r:AV} {m m':Mem} (h:EH Tryz.prog cf (.func f) args m r m') (hf:cw.hook f = some (limH Tryz.prog cf f):=by rfl):EH Tryz.prog cw (.func f) args m r m':=Abh hf (Afh h)
theorem Ahd {f:FuncId} {args:List AV} {r:AV} (h:Gives Tryz.prog cf f args r) (hf:cw.hook f = some (limH Tryz.prog cf f):=by rfl):Gives Tryz.prog cw f args r:=fun m0 args0 m hz => cw_eh (h m0 args0 m hz) hf
def vis (go:List Dat → Bool) (l:List Dat):List Dat → List Dat × Bool
 | [] => (l,false)
 | x :: xs => if go (l ++ [x]) then vis go (l ++ [x]) xs else (l ++ [x],true)
theorem Ai9 (go:List Dat → Bool):∀ (a b l:List Dat),vis go l (a ++ b) = if (vis go l a).2 then ((vis go l a).1,true) else vis go (vis go l a).1 b
 | [],b,l => by simp [vis]
 | x :: a,b,l => by
  simp only [List.cons_append,vis]
  split
  ·exact Ai9 go a b _
  ·rfl
structure Sees (J:List Dat → (Nat → Prop) → Mem → Prop) (go:List Dat → Bool) (fn:Fn) (fi ca:List AV):Prop where
 keep:∀ l F m m',J l F m → KpX (fun i => ¬ F i) m m' → J l F m'
 lt:∀ l F m,J l F m → ∀ i,F i → i < m.next
 see:∀ l F m x,J l F m → (l = [] ∨ go l = true) → x.fits → wph Tryz.prog cw fn (fi ++ [enc x] ++ ca) m fun v m' => v = .sc (.bool (go (l ++ [x]))) ∧ ∃ F',J (l ++ [x]) F' m' ∧ (∀ i,F' i → F i ∨ m.next ≤ i) ∧ KpC F m m'
structure St2 (m:Mem) (P Q S T D:Nat) (p q:Int) (see:AV) (st:Bool):Prop where
 p:has m P [int p]
 q:has m Q [int q]
 s:has m S [see]
 t:has m T [.sc (.bool st)]
 d:has m D [.fn (.func 94) [] [.ptr P 0,.ptr Q 0,.ptr S 0,.ptr T 0,.ptr D 0]]
def tq (F:Nat → Prop) (P Q T:Nat) (i:Nat):Prop:=F i ∨ i = P ∨ i = Q ∨ i = T
theorem Axv {F F1:Nat → Prop} {P Q T:Nat} {m m1 m2:Mem} (h:KpC (tq F P Q T) m m1) (hf:∀ i,F1 i → F i ∨ m.next ≤ i) (k:KpC (tq F1 P Q T) m1 m2):KpC (tq F P Q T) m m2:=by
 have key:∀ id,id < m.next → ¬ tq F P Q T id → ¬ tq F1 P Q T id:=by
  rintro id hi hx (x | x)
  ·rcases hf id x with y | y
   ·exact hx (.inl y)
   ·omega
  ·exact hx (.inr x)
 exact ⟨Nat.le_trans h.next k.next,fun id hi hx => (k.get id (Nat.lt_of_lt_of_le hi h.next) (key id hi hx)).trans (h.get id hi hx),fun id hi hx => ⟨(k.x id (Nat.lt_of_lt_of_le hi h.next) (key id hi hx)).1.trans (h.x id hi hx).1,(k.x id (Nat.lt_of_lt_of_le hi h.next) (key id hi hx)).2.trans (h.x id hi hx).2⟩⟩
theorem KpC.after {X Y:Nat → Prop} {m m1 m2:Mem} (h:Kp m m1) (k:KpC Y m1 m2) (hf:∀ i,i < m.next → Y i → X i):KpC X m m2 :=
 ⟨Nat.le_trans h.next k.next,fun id hi hx => (k.get id (Nat.lt_of_lt_of_le hi h.next) fun y => hx (hf id hi y)).trans (h.get id hi),fun id hi hx => ⟨(k.x id (Nat.lt_of_lt_of_le hi h.next) fun y => hx (hf id hi y)).1.trans (h.x id hi).1,(k.x id (Nat.lt_of_lt_of_le hi h.next) fun y => hx (hf id hi y)).2.trans (h.x id hi).2⟩⟩
theorem St2.kp {m m':Mem} {P Q S T D:Nat} {p q:Int} {see:AV} {st:Bool} (h:St2 m P Q S T D p q see st) (k:Kp m m'):St2 m' P Q S T D p q see st:=⟨h.p.kp k,h.q.kp k,h.s.kp k,h.t.kp k,h.d.kp k⟩
theorem St2.kc {X:Nat → Prop} {m m':Mem} {P Q S T D:Nat} {p q:Int} {see:AV} {st:Bool} (h:St2 m P Q S T D p q see st) (k:KpC X m m') (hp:¬ X P) (hq:¬ X Q) (hs:¬ X S) (ht:¬ X T) (hd:¬ X D):St2 m' P Q S T D p q see st:=⟨h.p.kc k hp,h.q.kc k hq,h.s.kc k hs,h.t.kc k ht,h.d.kc k hd⟩
theorem neqFn {x y:Operand} {f:Fn} {a b:List AV}:abin Tryz.prog .neq 177 x y (.fn f a b) (.sc .nilFunc) = some (.sc (.bool true)):=by
 have:nilTest Tryz.prog 177 (.fn f a b) (.sc .nilFunc) = some false:=by
  unfold nilTest
  rw [Tryz.underlying177]
 simp [abin,plain,this]
theorem As0 {go:List Dat → Bool}:∀ {x l:List Dat},(vis go l x).2 = false → (l = [] ∨ go l = true) → ((vis go l x).1 = [] ∨ go (vis go l x).1 = true)
 | [],l,_,h => h
 | x :: xs,l,he,h => by
  simp only [vis] at he ⊢
  split at he
  ·rename_i hg; rw [if_pos hg]; exact As0 he (.inr hg)
  ·cases he
theorem see58 {J:List Dat → (Nat → Prop) → Mem → Prop} {go':List Dat → Bool} {fs:FuncId} {ca:List AV} (hJ:Sees J go' (.func fs) [] ca) (P Qq S T D:Nat) (hd:P ≠ Qq ∧ P ≠ S ∧ P ≠ T ∧ P ≠ D ∧ Qq ≠ S ∧ Qq ≠ T ∧ Qq ≠ D ∧ S ≠ T ∧ T ≠ D):∀ (n:Nat) (d:Dat),d.size ≤ n → d.fits → ∀ (deep p q:Int) (l:List Dat) (F:Nat → Prop) (m:Mem),(¬ F P ∧ ¬ F Qq ∧ ¬ F S ∧ ¬ F T ∧ ¬ F D) → 0 ≤ deep ∧ deep ≤ 1000 → 0 ≤ p → St2 m P Qq S T D p q (.fn (.func fs) [] ca) false → J l F m → (l = [] ∨ go' l = true) → (wk d deep p q).1 = 0 →
  wph Tryz.prog cw (.func 94) [enc d,int deep,.ptr P 0,.ptr Qq 0,.ptr S 0,.ptr T 0,.ptr D 0] m fun v m' => v = int 0 ∧ (∃ F',J (vis go' l (pre d)).1 F' m' ∧ ∀ i,F' i → F i ∨ m.next ≤ i) ∧ KpC (tq F P Qq T) m m' ∧ ∃ p' q',St2 m' P Qq S T D p' q' (.fn (.func fs) [] ca) (vis go' l (pre d)).2 ∧ ((vis go' l (pre d)).2 = false → p' = (wk d deep p q).2.1 ∧ q' = (wk d deep p q).2.2):=by
 intro n
 induction n with
 | zero => intro d hs; cases d; simp [Dat.size] at hs
 | succ n ih =>
  intro d hs hfit deep p q l F m hF hdeep hp hst hJl hgo h0
  have hd0:=d
  obtain ⟨K,N,Sx,M,L,Tx⟩:=d
  obtain ⟨d1,d2,d3,d4,d5,d6,d7,d8,d9⟩:=hd
  obtain ⟨nP,nQ,nS,nT,nD⟩:=hF
  refine Aaf Tryz.func94 rfl rfl (by simp [Tryz.f94]) (by simp [Tryz.f94]) fun Q hQ => ?_
  simp only [Tryz.f94,show cw.keepRes 94 = false from rfl,show cw.keepArgs 94 = false from rfl] at hQ ⊢
  simp only [enc]
  obtain ⟨pl,pv,pe⟩:=hst.p
  obtain ⟨ql,qv,qe⟩:=hst.q
  have pn:P ≠ m.next:=by omega
  have e1:¬ 64 < deep:=by intro h; simp [wk,h] at h0
  have e2:¬ 4096 ≤ p:=by intro h; simp [wk,e1,h] at h0
  have ha:alone (.mk K N Sx M L Tx) = true:=by
   cases h:alone (.mk K N Sx M L Tx) with
   | true => rfl
   | false => simp [wk,e1,e2,h] at h0
  simp [e1,pe,pn,e2]
  refine Aar (Ahd (g59 (Abg hfit))) (fun m1 k1 => ?_) (by simp [enc])
  have st1:St2 m1 P Qq S T D p q (.fn (.func fs) [] ca) false:=(hst.kp (.new _ _ _)).kp k1
  have kn1:Kp m m1:=(Kp.new _ _ _).trans k1
  have b1:=k1.get m.next (by simp)
  simp at b1
  simp [ha]
  obtain ⟨pl1,pv1,pe1⟩:=st1.p
  obtain ⟨ql1,qv1,qe1⟩:=st1.q
  obtain ⟨sl1,sv1,se1⟩:=st1.s
  obtain ⟨tl1,tv1,te1⟩:=st1.t
  have w1:IntKind.i64.wrap (p + 1) = p + 1:=IntWalk.i64_in _ (by omega)
  have n1:m.next < m1.next:=by have:=k1.next; simp at this; omega
  have d1':=Ne.symm d1
  have d2':=Ne.symm d2
  have d3':=Ne.symm d3
  have d5':=Ne.symm d5
  have d6':=Ne.symm d6
  have q1:m.next ≠ P:=by omega
  have q2:m.next ≠ Qq:=by omega
  have kx1:KpX (fun i => ¬ F i) m ((m1.set P [int (p + 1)]).set Qq [int (max q deep)]):=(((KpX.of kn1).set nP _).set nQ _)
  have hJ1:=hJ.keep _ _ _ _ hJl kx1
  have hF1:=hJ.lt _ _ _ hJl
  simp [pe1,qe1,se1,te1,w1,d1,d1',d2,d2',d3,d3',d5,d5',d6,d6',amax2,neqFn,b1,q1,q2]
  obtain ⟨em,hem⟩:∃ em,em = (m1.set P [int (p + 1)]).set Qq [int (max q deep)]:=⟨_,rfl⟩
  have hs1:St2 em P Qq S T D (p + 1) (max q deep) (.fn (.func fs) [] ca) false:=by
   rw [hem]
   have kk:KpX (two P Qq) m1 ((m1.set P [int (p + 1)]).set Qq [int (max q deep)]):=((KpX.refl _ _).set (.inl rfl) _).set (.inr rfl) _
   refine ⟨⟨by simp; omega,?_⟩,⟨by simp; omega,?_⟩,st1.s.kept kk (by unfold two; omega),st1.t.kept kk (by unfold two; omega),st1.d.kept kk (by unfold two; omega)⟩
   ·simp [d1]
   ·simp
  have hen:em.next = m1.next:=by rw [hem]; rfl
  have hbx:has em m.next (enc (.mk K N Sx M L Tx)).cells:=by
   rw [hem]
   refine ⟨by simp; omega,?_⟩
   simp [q1,q2,b1,enc]
  rw [← hem] at hJ1 ⊢
  have hkm:KpC (tq F P Qq T) m em:=by
   rw [hem]
   exact .of ((((KpX.of kn1).set (X:=tq F P Qq T) (.inr (.inl rfl)) _).set (.inr (.inr (.inl rfl))) _))
  refine Aae (by simpa [enc] using hJ.see l F em (.mk K N Sx M L Tx) hJ1 hgo hfit) ?_
  rintro v m2 ⟨rfl,F2,hJ2,hF2,kc2⟩
  have hF2m:∀ i,F2 i → F i ∨ m.next ≤ i:=fun i hi => (hF2 i hi).imp id fun h => by omega
  have st2:=hs1.kc kc2 nP nQ nS nT nD
  have hb2:=hbx.kc kc2 (fun h => by have:=hF1 _ h; omega)
  have hn2:=kc2.next
  have old:∀ j,j < m.next → ¬ F j → ¬ F2 j:=fun j h1 h2 h => (hF2m j h).elim h2 fun h => by omega
  have hF2P:=old P pl nP
  have hF2Q:=old Qq ql nQ
  have hF2S:=old S hst.s.1 nS
  have hF2T:=old T hst.t.1 nT
  have hF2D:=old D hst.d.1 nD
  obtain ⟨pl2,pv2,pe2⟩:=st2.p
  obtain ⟨ql2,qv2,qe2⟩:=st2.q
  obtain ⟨sl2,sv2,se2⟩:=st2.s
  obtain ⟨tl2,tv2,te2⟩:=st2.t
  obtain ⟨bl2,bv2,be2⟩:=hb2
  have q3:m.next ≠ T:=by have:=hst.t.1; omega
  simp [enc] at be2
  simp [te2,be2,q3,abuildSlice,fillAt,zeros]
  have hL:fitss L:=by rw [Dat.fits] at hfit; exact hfit.2.1
  have hT:fitss Tx:=by rw [Dat.fits] at hfit; exact hfit.2.2
  have hsz:sizes L ≤ n ∧ sizes Tx ≤ n:=by rw [Dat.size] at hs; omega
  obtain ⟨g0,hg0⟩:∃ g0,g0 = go' (l ++ [.mk K N Sx M L Tx]):=⟨_,rfl⟩
  rw [← hg0]
  let Ls:Nat → List Dat:=fun o => if o = 0 then L else Tx
  let rem:Nat → Int → Int → Int × Int × Int:=fun o p q => if o = 0 then nxt (wks L (deep + 1) p q) fun p q => wks Tx (deep + 1) p q else if o = 1 then wks Tx (deep + 1) p q else (0,p,q)
  let rpre:Nat → List Dat:=fun o => if o = 0 then pres L ++ pres Tx else if o = 1 then pres Tx else []
  have hrem:wk (.mk K N Sx M L Tx) deep p q = rem 0 (p + 1) (max q deep):=by
   simp [wk,e1,e2,ha,rem]
  have hpre:vis go' l (pre (.mk K N Sx M L Tx)) = if g0 then vis go' (l ++ [.mk K N Sx M L Tx]) (rpre 0) else (l ++ [.mk K N Sx M L Tx],true):=by
   simp [pre,vis,rpre,hg0]
  rw [hrem] at h0
  let slots:Sl → Prop:=fun s => s.at 1 = int deep ∧ s.at 2 = .ptr P 0 ∧ s.at 3 = .ptr Qq 0 ∧ s.at 4 = .ptr S 0 ∧ s.at 5 = .ptr T 0 ∧ s.at 6 = .ptr D 0 ∧ s.at 44 = .sl m2.next 0 2 1 false (some 2) ∧ s.at 45 = int 2
  let mems:Mem → Int → Int → List Dat → Bool → Prop:=fun m' p' q' l' st => St2 m' P Qq S T D p' q' (.fn (.func fs) [] ca) st ∧ has m' m2.next [.lst (encs L),.lst (encs Tx)] ∧ KpC (tq F P Qq T) m m' ∧ (st = false → p ≤ p') ∧ (∃ F',J l' F' m' ∧ (∀ i,F' i → F i ∨ m.next ≤ i) ∧ ¬ F' P ∧ ¬ F' Qq ∧ ¬ F' S ∧ ¬ F' T ∧ ¬ F' D ∧ ¬ F' m2.next) ∧ (st = false → l' = [] ∨ go' l' = true)
  let left:Bool → List Dat → List Dat → Prop:=fun st l' r => vis go' l (pre (.mk K N Sx M L Tx)) = if st then (l',true) else vis go' l' r
  have fin:∀ (m':Mem) (p' q':Int) (l':List Dat) (st:Bool),mems m' p' q' l' st → left st l' [] → (st = false → (0,p',q') = rem 0 (p + 1) (max q deep)) → ∀ (s':Sl),s'.at 9 = int 0 → Q .ret s' m':=by
   rintro m' p' q' l' st ⟨a1,a2,a3,a4,⟨F',a5,a7,_⟩,a6⟩ hl hw s' h9
   refine hQ _ _ _ (Aab (.inr rfl) h9 ?_)
   have hv:vis go' l (pre (.mk K N Sx M L Tx)) = (l',st):=by rw [hl]; cases st <;> simp [vis]
   rw [hv]
   refine ⟨rfl,⟨F',a5,a7⟩,a3,p',q',a1,fun h => ?_⟩
   rw [hrem,← hw h]
   exact ⟨rfl,rfl⟩
  refine Ac2 (fun k s m' => ∃ (o:Nat) (p' q':Int) (l':List Dat) (st:Bool),k = 2 - o ∧ o ≤ 2 ∧ slots s ∧ s.at 46 = int o ∧ mems m' p' q' l' st ∧ left st l' (rpre o) ∧ (st = false → rem o p' q' = rem 0 (p + 1) (max q deep))) 2 ⟨0,p + 1,max q deep,l ++ [.mk K N Sx M L Tx],!g0,rfl,by omega,by simp [slots],by simp,?_,?_,fun _ => rfl⟩ ?_
  ·have stx:∀ m':Mem,m' = (m2.set T [.sc (.bool !g0)]).new [.lst (encs L),.lst (encs Tx)] false → mems m' (p + 1) (max q deep) (l ++ [.mk K N Sx M L Tx]) (!g0):=by
    rintro m' rfl
    have kk:KpX (fun i => i = T) m2 ((m2.set T [.sc (.bool !g0)]).new [.lst (encs L),.lst (encs Tx)] false):=((KpX.refl (fun i => i = T) m2).set (id:=T) rfl _).new _ _
    have kc:=KpC.of kk
    refine ⟨⟨st2.p.kept kk (by omega),st2.q.kept kk (by omega),st2.s.kept kk (by omega),⟨by simp; omega,?_⟩,st2.d.kept kk (by omega)⟩,⟨by simp,?_⟩,(hkm.trans (kc2.mono fun j hj => .inl hj)).trans (kc.mono fun j hj => .inr (.inr (.inr hj))),fun _ => by omega,⟨F2,hJ.keep _ _ _ _ hJ2 (kk.mono fun j _ hj => by rw [hj]; exact hF2T),hF2m,hF2P,hF2Q,hF2S,hF2T,hF2D,fun h => by have:=hJ.lt _ _ _ hJ2 _ h; omega⟩,fun h => .inr ?_⟩
    ·have:T ≠ m2.next:=by omega
     simp [this]
    ·simp
    ·rw [← hg0]; simpa using h
   exact stx _ rfl
  ·show vis go' l (pre (.mk K N Sx M L Tx)) = _
   rw [hpre]
   cases g0 <;> simp
  ·rintro k s m2' ⟨o,p2,q2,l2,stp,rfl,ho,hsl,h46,hmem,hleft,hw⟩ Q' hn he
   obtain ⟨s1,s2,s3,s4,s5,s6,s44,s45⟩:=hsl
   have hmem0:=hmem
   obtain ⟨st2',hb2',kx2,hp2,_,hgo2⟩:=hmem
   obtain ⟨bl3,bv3,be3⟩:=hb2'
   simp [s45,h46]
   refine Aas (fun h => ?_) fun h => ?_
   ·have ho2:o < 2:=by simp at h; omega
    have ix:aindexAddr Tryz.prog 187 (.sl m2.next 0 2 1 false (some 2)) (int o) = some (.ptr m2.next (0 + o * 1)):=Aak Tryz.underlying187 As9 ho2
    have gx:([AV.lst (encs L),.lst (encs Tx)]:List AV)[o]? = some (.lst (encs (Ls o))):=by
     rcases (by omega:o = 0 ∨ o = 1) with rfl | rfl <;> simp [Ls]
    simp [s44,h46,ix,be3,gx]
    have hstep:∀ p q,rem o p q = nxt (wks (Ls o) (deep + 1) p q) fun p q => rem (o + 1) p q:=by
     intro p q
     rcases (by omega:o = 0 ∨ o = 1) with rfl | rfl
     ·simp [rem,Ls]
     ·simp only [rem,Ls,nxt]
      simp
      intro h0
      rw [← h0]
    have hpstep:rpre o = pres (Ls o) ++ rpre (o + 1):=by
     rcases (by omega:o = 0 ∨ o = 1) with rfl | rfl <;> simp [rpre,Ls]
    have hfl:fitss (Ls o):=by
     rcases (by omega:o = 0 ∨ o = 1) with rfl | rfl <;> simp [Ls,hL,hT]
    have hlen:(Ls o).length < 2 ^ 21:=by
     have:=Abg hfit
     rcases (by omega:o = 0 ∨ o = 1) with rfl | rfl
     ·exact this.l
     ·exact this.t
    have hsl:sizes (Ls o) ≤ n:=by
     rcases (by omega:o = 0 ∨ o = 1) with rfl | rfl <;> simp [Ls,hsz.1,hsz.2]
    refine Ac2 (fun k s m' => ∃ (i:Nat) (p' q':Int) (l':List Dat) (st:Bool),k = (Ls o).length - i ∧ i ≤ (Ls o).length ∧ slots s ∧ s.at 46 = int o ∧ s.at 50 = .lst (encs (Ls o)) ∧ s.at 51 = int (Ls o).length ∧ s.at 52 = int i ∧ mems m' p' q' l' st ∧ left st l' (pres ((Ls o).drop i) ++ rpre (o + 1)) ∧ (st = false → nxt (wks ((Ls o).drop i) (deep + 1) p' q') (fun p q => rem (o + 1) p q) = rem 0 (p + 1) (max q deep))) (Ls o).length ⟨0,p2,q2,l2,stp,rfl,by omega,by simp [slots,s1,s2,s3,s4,s5,s6,s44,s45],by simp [h46],by simp,by simp,by simp,hmem0,by rw [List.drop_zero,← hpstep]; exact hleft,fun h => by rw [List.drop_zero,← hstep]; exact hw h⟩ ?_
    rintro k s m3 ⟨i,p3,q3,l3,st3',rfl,hi,⟨t1,t2,t3,t4,t5,t6,t44,t45⟩,t46,t50,t51,t52,hm3,hleft3,hw3⟩ Q2 hn2 he2
    have hm30:=hm3
    obtain ⟨st3,hb3,kx3,hp3,⟨F3,hJ3,hF3,f3P,f3Q,f3S,f3T,f3D,f3A⟩,hgo3⟩:=hm3
    simp [t51,t52]
    refine Aas (fun h => ?_) fun h => ?_
    ·have hlt:i < (Ls o).length:=by simpa using h
     obtain ⟨x,hx⟩:∃ x,(Ls o)[i]? = some x:=⟨_,List.getElem?_eq_getElem hlt⟩
     have hxe:(encs (Ls o))[i]? = some (enc x):=by rw [Adn,hx]; rfl
     have hxm:x ∈ Ls o:=List.mem_of_getElem? hx
     have n3:m.next ≤ m3.next:=kx3.next
     obtain ⟨tl3,tv3,te3⟩:=st3.t
     obtain ⟨dl3,dv3,de3⟩:=st3.d
     have tne:T ≠ m3.next:=by omega
     have dne:D ≠ m3.next:=by omega
     simp [t50,t52,Aad Tryz.underlying23 Ab8 hxe (Aax x)]
     have zl:6 ≤ zeroCells.length:=by decide
     have zd:List.drop 6 zeroCells = []:=rfl
     have wd:IntKind.i64.wrap (deep + 1) = deep + 1:=IntWalk.i64_in _ (by omega)
     have k4:Kp m3 ((m3.new zeroCells false).set m3.next (enc x).cells):=(Kp.new _ _ _).set (Nat.le_refl _) _
     have st4:=st3.kp k4
     have hJ4:=hJ.keep _ _ _ _ hJ3 (.of k4)
     have kc4:KpC (tq F P Qq T) m ((m3.new zeroCells false).set m3.next (enc x).cells):=kx3.trans (.of (.of k4))
     have hb4:=hb3.kp k4
     simp [zl,zd,t1,t2,t3,t4,t5,t6,tne,dne,te3,de3,wd]
     cases st3' with
     | true =>
      simp
      refine he2 _ _ _ (by simp) ?_
      simp
      refine he _ _ _ (by simp) ?_
      simp
      exact fin _ p3 q3 l3 true ⟨st4,hb4,kc4,hp3,⟨F3,hJ4,hF3,f3P,f3Q,f3S,f3T,f3D,f3A⟩,fun h => by cases h⟩ (by simpa [left] using hleft3) (fun h => by cases h) _ (by simp)
     | false =>
      simp [zl,zd,t1,t2,t3,t4,t5,t6,tne,dne,te3,de3,wd]
      have hdrop:(Ls o).drop i = x :: (Ls o).drop (i + 1):=by
       rw [List.drop_eq_getElem_cons hlt]
       obtain ⟨h1,h2⟩:=List.getElem?_eq_some_iff.1 hx
       rw [h2]
      have hw3':=hw3 rfl
      rw [← hw3',hdrop] at h0
      have h0x:=(Aeb h0).1
      rw [wks] at h0x
      have h0y:=(Aeb h0x).1
      refine Aae (ih x (by have:=Abj hxm; omega) (Acb hfl hxm) (deep + 1) p3 q3 l3 F3 _ ⟨f3P,f3Q,f3S,f3T,f3D⟩ (by omega) (by have:=hp3 rfl; omega) st4 hJ4 (hgo3 rfl) h0y) ?_
      rintro v m5 ⟨rfl,⟨F5,hJ5,hF5⟩,kx5,p5,q5,st5,hpq5⟩
      have bA:=hb3.1
      have hb5:=hb4.kc kx5 (by rintro (h | h | h | h) <;> first | exact f3A h | omega)
      have hF5m:∀ i,F5 i → F3 i ∨ m3.next ≤ i:=fun i hi => (hF5 i hi).imp id fun h => by simp at h; omega
      have old5:∀ j,j < m3.next → ¬ F3 j → ¬ F5 j:=fun j h1 h2 h => (hF5m j h).elim h2 fun h => by omega
      have hF50:∀ i,F5 i → F i ∨ m.next ≤ i:=fun i hi => by
       rcases hF5m i hi with h | h
       ·exact hF3 i h
       ·exact .inr (by omega)
      have hl3:vis go' l (pre (.mk K N Sx M L Tx)) = vis go' l3 (pre x ++ (pres ((Ls o).drop (i + 1)) ++ rpre (o + 1))):=by
       have:left false l3 (pres ((Ls o).drop i) ++ rpre (o + 1)):=hleft3
       rw [hdrop] at this
       simpa [left,pres,List.append_assoc] using this
      rw [Ai9] at hl3
      have hwx:=wk_ok x (deep + 1) p3 q3 h0y
      simp [t52]
      generalize hvx:vis go' l3 (pre x) = vx at hl3 hJ5 st5 hpq5
      obtain ⟨l5,b5⟩:=vx
      refine hn2 ((Ls o).length - (i + 1)) _ _ (by omega) ⟨i + 1,p5,q5,l5,b5,rfl,hlt,by simp [slots,t1,t2,t3,t4,t5,t6,t44,t45],by simp [t46],by simp [t50],by simp [t51],?_,⟨st5,hb5,Axv kc4 hF3 kx5,fun h => ?_,⟨F5,hJ5,hF50,old5 P st3.p.1 f3P,old5 Qq st3.q.1 f3Q,old5 S st3.s.1 f3S,old5 T st3.t.1 f3T,old5 D st3.d.1 f3D,old5 _ bA f3A⟩,fun h => ?_⟩,hl3,fun h => ?_⟩
      ·rw [Aaa,IntWalk.i64_in _ (by omega)]; rfl
      ·have:=hp3 rfl
       rw [(hpq5 h).1,hwx.1]
       omega
      ·have:=As0 (go:=go') (x:=pre x) (l:=l3) (by rw [hvx]; exact h) (hgo3 rfl)
       rw [hvx] at this
       exact this
      ·obtain ⟨r1,r2⟩:=hpq5 h
       rw [← hw3',hdrop,wks]
       subst r1 r2
       simp only [nxt,h0y,if_true]
    ·simp
     refine he2 _ _ _ (by simp) ?_
     have hle:i = (Ls o).length:=by simp at h hi ⊢; omega
     rw [List.drop_eq_nil_of_le (by omega)] at hw3 hleft3
     simp [t46]
     refine hn (2 - (o + 1)) _ _ (by omega) ⟨o + 1,p3,q3,l3,st3',rfl,by omega,by simp [slots,t1,t2,t3,t4,t5,t6,t44,t45],?_,hm30,by simpa [pres] using hleft3,fun h => by rw [← hw3 h]; simp [nxt,wks]⟩
     rw [Aaa,IntWalk.i64_in _ (by omega)]; rfl
   ·simp
    refine he _ _ _ (by simp) ?_
    simp
    have ho2:o = 2:=by simp at h; omega
    subst ho2
    exact fin _ p2 q2 l2 stp hmem0 hleft (fun h => hw h) _ (by simp)
end Go.Proofs.YthegkphhfleghaaGreat
namespace Go.V
open Go.RowKit
variable {P:Program} {B:Bs} {W:World} {g:G} {m:Mem} {w:World}
def keysH (args:List AV) (m:Mem):Option (AV × Mem) :=
 match args with
 | [.yl _,.ptr p 0] => match m.get p with
  | some (.cells [.mp id] _ _) => match m.map id with
   | some M => if M.es.isEmpty then some (.tup [],m) else none
   | none => none
  | _ => none
 | _ => none
structure KeysAt (P:Program) (fn:Func) (T:TypeId) (i0 i1 i2:Nat) (x1 x2 x3 x4:Oper) (rest:Code):Prop where
 body:fn.body = some (.seq (.region i0 #[x1,x2] false) (.block i1 (.loop (.seq (.region i2 #[x3,x4] false) (.seq (.cond (.tmp 7) .skip (.exit i1)) rest)))))
 name : fn.name ≠ "runtime.NumGoroutine"
 res:fn.results = #[]
 size:fn.ntmps = 14
 o1:x1.op = .load T (.tmp 1) ∧ x1.dst = some 4 ∧ x1.guard = none
 o2:x2.op = .range T (.tmp 4) ∧ x2.dst = some 5 ∧ x2.guard = none
 o3:x3.op = .next (.tmp 5) false ∧ x3.dst = some 6 ∧ x3.guard = none
 o4:x4.op = .extract (.tmp 6) 0 ∧ x4.dst = some 7 ∧ x4.guard = none
 ty:∃ k e,P.underlying T = some (.map k e)
 ag:tagg P T = some false
theorem Atc {f:FuncId} {fn:Func} {T:TypeId} {i0 i1 i2:Nat} {x1 x2 x3 x4:Oper} {rest:Code} (hf:P.funcs[f]? = some fn) (K:KeysAt P fn T i0 i1 i2 x1 x2 x3 x4 rest):ByHand P f keysH:=by
 have unf:∀ {args m v m'},keysH args m = some (v,m') → ∃ i p id fz ver M,args = [.yl i,.ptr p 0] ∧ m.get p = some (.cells [.mp id] fz ver) ∧ m.map id = some M ∧ M.es = [] ∧ v = .tup [] ∧ m' = m:=by
  intro args m v m' e
  unfold keysH at e
  split at e
  ·rename_i i p
   split at e
   ·rename_i id fz ver hg
    split at e
    ·rename_i M hM
     split at e
     ·rename_i he
      cases e
      exact ⟨i,p,id,fz,ver,M,rfl,hg,hM,by simpa using he,rfl,rfl⟩
     ·cases e
    ·cases e
   ·cases e
  ·cases e
 refine ⟨fun B W args m v m' e hv => ?_,fun args m v m' e => ?_⟩
 ·obtain ⟨i,p,id,fz,ver,M,rfl,hg,hM,he,rfl,rfl⟩:=unf e
  intro g w vals k h
  refine .inl ⟨Abr hf K.body K.name,?_⟩
  have hH:HSound P B W (fun _ _ _ => none):=⟨fun f args m v m' e => (by cases e),fun id args m v m' e => (by cases e),fun fn args m h1 h2 => rfl⟩
  have sr:=Aqr k (N:=fn.ntmps) (by rw [K.size]; simp)
  refine callsIn_wide.1 (callsIn_of_wp_marks (F:=Fence.wide) (n:=0) hf K.body trivial ?_)
  generalize ha:({ tmps:=vals.toArray ++ Array.replicate (fn.ntmps - vals.toArray.size) undef,defers:=[] }:Act) = a at *
  have hdf:a.defers = []:=by rw [← ha]
  refine wpIn_seq (wpIn_region ?_)
  obtain ⟨q1,q2,q3⟩:=K.o1
  obtain ⟨r1,r2,r3⟩:=K.o2
  obtain ⟨u1,u2,u3⟩:=K.o3
  obtain ⟨y1,y2,y3⟩:=K.o4
  obtain ⟨kt,et,hu⟩:=K.ty
  have hwn:∀ {o:Oper} {y:Nat → Option Bool},o.guard = none → Region.wanted o y = true:=by intro o y h; simp [Region.wanted,h]
  have hr2:List.range (#[x1,x2]:Array Oper).size = [0,1]:=rfl
  have hr3:List.range (#[x3,x4]:Array Oper).size = [0,1]:=rfl
  rw [hr2]
  simp only [wpOpsIn,List.getElem?_toArray,List.getElem?_cons_zero,List.getElem?_cons_succ,hwn q3,hwn r3,if_true]
  have e1:astep P (fun _ _ _ => none) (Sl.putAll .nil 0 [.yl i,.ptr p 0]) x1 m' = some (.mp id,m'):=by
   have:ev (Sl.putAll .nil 0 [AV.yl i,AV.ptr p 0]) (.tmp 1) = .ptr p 0:=rfl
   simp only [astep,q1,aop,aload,this,hg]
   simp [partOf,K.ag]
  refine Ab1 none hH h (fun hr => by simp [rank,q1] at hr) (sr.or _) e1 fun g1 v1 w1 l1 rel1 wr1 => ?_
  simp only [Rel] at rel1
  obtain ⟨hid,rfl⟩:=rel1
  obtain ⟨_,hB,es,hh,hE⟩:=wr1.x.mids id M hM
  rw [he] at hE
  obtain rfl:es = []:=by
   have:=hE.length
   cases es with
   | nil => rfl
   | cons a l => simp at this
  have hsz:a.tmps.size = 14:=by rw [sr.size,K.size]
  have ev4:(a.put x1.dst (.map (some (g1.mu id).1))).eval (.tmp 4) = .map (some (g1.mu id).1):=by
   simp [Act.put,q2,Act.eval,hsz]
  have hsz1:(a.put x1.dst (.map (some (g1.mu id).1))).tmps.size = 14:=by
   simp [Act.put,q2,hsz]
  have hdf1:(a.put x1.dst (.map (some (g1.mu id).1))).defers = []:=by simp [Act.put,q2,hdf]
  generalize a.put x1.dst (.map (some (g1.mu id).1)) = a1 at *
  generalize hb:(g1.mu id).1 = b at *
  have hbl:b < w1.heap.size:=(Array.getElem?_eq_some_iff.1 hh).1
  let w2:World:=w1.alloc (.mapIter (some b) M.ck #[] M.ck)
  have run2:(execOp a1.eval x2).run P w1 = .ok (.value (.pointer (some ⟨w1.heap.size,0,none⟩))) w2:=by
   have hg2:(getObj b).run P w1 = .ok (.map #[] M.ck) w1:=Abm (es:=[]) hh
   simp [execOp,r1,ev4,Instr.range,Sem.run_bind,run_underlying hu,hg2,w2]
  refine ⟨fun _ _ => trivial,?_⟩
  rw [Oper.semAt_eq _ _ _ (by intro c hc; rw [r1] at hc; cases hc),run2]
  rw [Oper.uponIn_value]
  show Code.wpIn _ _ _ _ _ _ _
  have hsz2:(a1.put x2.dst (.pointer (some ⟨w1.heap.size,0,none⟩))).tmps.size = 14:=by simp [Act.put,r2,hsz1]
  have hdf2:(a1.put x2.dst (.pointer (some ⟨w1.heap.size,0,none⟩))).defers = []:=by simp [Act.put,r2,hdf1]
  have ev5:(a1.put x2.dst (.pointer (some ⟨w1.heap.size,0,none⟩))).eval (.tmp 5) = .pointer (some ⟨w1.heap.size,0,none⟩):=by simp [Act.put,r2,Act.eval,hsz1]
  generalize a1.put x2.dst (.pointer (some ⟨w1.heap.size,0,none⟩)) = a2 at *
  refine wpIn_block (wpIn_loop_rounds 1 ?_)
  rw [roundsIn_succ]
  refine wpIn_seq (wpIn_region ?_)
  rw [hr3]
  simp only [wpOpsIn,List.getElem?_toArray,List.getElem?_cons_zero,List.getElem?_cons_succ,hwn u3,hwn y3,if_true]
  have run3:(execOp a2.eval x3).run P w2 = .ok (.value (.tuple #[.bool false])) w2:=by
   have g1':(getObj w1.heap.size).run P w2 = .ok (.mapIter (some b) M.ck #[] M.ck) w2:=by
    have:w2.heap[w1.heap.size]? = some (.mapIter (some b) M.ck #[] M.ck):=by
     show (w1.heap.push _)[w1.heap.size]? = _
     simp
    simp [getObj,Sem.run,this]
   have g2':(getObj b).run P w2 = .ok (.map #[] M.ck) w2:=by
    have:w2.heap[b]? = some (.map #[] M.ck):=by
     show (w1.heap.push _)[b]? = _
     rw [Array.getElem?_push,if_neg (by omega)]
     exact hh
    exact Abm (es:=[]) this
   simp [execOp,u1,ev5,Instr.next,Sem.run_bind,g1',g2',choose,Sem.run,Question.forced,Question.cut]
  refine ⟨fun _ _ => trivial,?_⟩
  rw [Oper.semAt_eq _ _ _ (by intro c hc; rw [u1] at hc; cases hc),run3,Oper.uponIn_value]
  have hsz3:(a2.put x3.dst (.tuple #[.bool false])).tmps.size = 14:=by simp [Act.put,u2,hsz2]
  have hdf3:(a2.put x3.dst (.tuple #[.bool false])).defers = []:=by simp [Act.put,u2,hdf2]
  have ev6:(a2.put x3.dst (.tuple #[.bool false])).eval (.tmp 6) = .tuple #[.bool false]:=by simp [Act.put,u2,Act.eval,hsz2]
  generalize a2.put x3.dst (.tuple #[.bool false]) = a3 at *
  have run4:(execOp a3.eval x4).run P w2 = .ok (.value (.bool false)) w2:=by
   simp [execOp,y1,ev6,Instr.extract]
  refine ⟨fun _ _ => trivial,?_⟩
  rw [Oper.semAt_eq _ _ _ (by intro c hc; rw [y1] at hc; cases hc),run4,Oper.uponIn_value]
  have hdf4:(a3.put x4.dst (.bool false)).defers = []:=by simp [Act.put,y2,hdf3]
  have ev7:(a3.put x4.dst (.bool false)).eval (.tmp 7) = .bool false:=by simp [Act.put,y2,Act.eval,hsz3]
  generalize a3.put x4.dst (.bool false) = a4 at *
  show Code.wpIn _ _ _ _ _ _ _
  refine wpIn_seq (wpIn_cond ev7 (wpIn_exit ?_))
  simp only [Exit.then,Exit.inBlock,if_true]
  have hb2:Below w1.heap.size w1 w2:=⟨rfl,rfl,rfl,by
   show w1.heap.size ≤ (w1.heap.push _).size
   simp,fun k hk => by
   show (w1.heap.push _)[k]? = _
   rw [Array.getElem?_push,if_neg (by omega)]⟩
  have wr2:=wr1.later hb2
  show LeavesInM _ _ _ _ _ _ _ _ _
  rw [hdf4]
  refine Ady (g0:=g1) [] g1 w2 .nil (fun r hr => by cases hr) (fun b h => h) wr2 fun d w' hd hw' => ?_
  refine ⟨.tuple #[],?_,.tuple #[],g1.wdf d,rfl,⟨l1.n,l1.mu,l1.sz,l1.ln,l1.fz,fun b h => hd b (l1.df b h),l1.lb,l1.pn⟩,⟨[],rfl,.nil⟩,hw'⟩
  simp [results,K.res]
 ·obtain ⟨_,_,_,_,_,_,_,_,_,_,_,rfl⟩:=unf e
  exact .refl _
end Go.V
namespace Go.V
variable {P:Program} {cfg:Cfg}
def vEq:Value → Value → Bool
 | .int k a,.int k' b => decide (k = k') && decide (a = b)
 | .bool a,.bool b => a == b
 | .string a,.string b => decide (a.data.toList = b.data.toList)
 | .pointer none,.pointer none => true
 | .map none,.map none => true
 | .nilFunc,.nilFunc => true
 | .nilIface,.nilIface => true
 | _,_ => false
theorem A1q {a b:Value} (h:vEq a b = true):a = b:=by
 unfold vEq at h
 split at h <;> simp_all
 rename_i a b
 cases a with
 | mk a => cases b with
  | mk b => simp only [Array.toList_inj] at h; subst h; rfl
mutual
def avEq:AV → AV → Bool
 | .sc a,.sc b => vEq a b
 | .ptr a b,.ptr c d => Nat.beq a c && Nat.beq b d
 | .emp a,.emp b => Nat.beq a b
 | .mp a,.mp b => Nat.beq a b
 | .lst a,.lst b => avsEq a b
 | .agg a,.agg b => avsEq a b
 | .tup a,.tup b => avsEq a b
 | .sl a b c d e f,.sl a' b' c' d' e' f' => Nat.beq a a' && Nat.beq b b' && Nat.beq c c' && Nat.beq d d' && e == e' && f == f'
 | .cptr x a,.cptr y b => Nat.beq a b && avEq x y
 | .fn (.func f) a b,.fn (.func g) c d => Nat.beq f g && avsEq a c && avsEq b d
 | .iface t x,.iface u y => Nat.beq t u && avEq x y
 | _,_ => false
def avsEq:List AV → List AV → Bool
 | [],[] => true
 | a :: l,b :: r => avEq a b && avsEq l r
 | _,_ => false
end
mutual
theorem avEq_eq:∀ {a b:AV},avEq a b = true → a = b:=by
 intro a b h
 cases a <;> cases b <;> (try (simp [avEq] at h; done))
 case sc.sc => rw [A1q h]
 case ptr.ptr => simp [avEq] at h; simp [h]
 case emp.emp => simp [avEq] at h; simp [h]
 case mp.mp => simp [avEq] at h; simp [h]
 case lst.lst => simp only [avEq] at h; rw [avsEq_eq h]
 case agg.agg => simp only [avEq] at h; rw [avsEq_eq h]
 case tup.tup => simp only [avEq] at h; rw [avsEq_eq h]
 case sl.sl => simp [avEq] at h; simp [h]
 case cptr.cptr => simp only [avEq,Bool.and_eq_true] at h; rw [avEq_eq h.2,Nat.eq_of_beq_eq_true h.1]
 case iface.iface => simp only [avEq,Bool.and_eq_true] at h; rw [avEq_eq h.2,Nat.eq_of_beq_eq_true h.1]
 case fn.fn f a b g c d =>
  cases f <;> cases g <;> (try (simp [avEq] at h; done))
  simp only [avEq,Bool.and_eq_true] at h
  rw [avsEq_eq h.1.2,avsEq_eq h.2,Nat.eq_of_beq_eq_true h.1.1]
theorem avsEq_eq:∀ {a b:List AV},avsEq a b = true → a = b
 | [],[],_ => rfl
 | a :: l,b :: r,h => by
  simp only [avsEq,Bool.and_eq_true] at h
  rw [avEq_eq h.1,avsEq_eq h.2]
 | [],b :: r,h => by simp [avsEq] at h
 | a :: l,[],h => by simp [avsEq] at h
end
def trEq {α:Type} (q:α → α → Bool):Tr α → Tr α → Bool
 | .nil,.nil => true
 | .nd l v r,.nd l' v' r' => (match v,v' with | none,none => true | some a,some b => q a b | _,_ => false) && trEq q l l' && trEq q r r'
 | _,_ => false
theorem Ahl {α:Type} {q:α → α → Bool} (hq:∀ a b,q a b = true → a = b):∀ {a b:Tr α},trEq q a b = true → a = b
 | .nil,.nil,_ => rfl
 | .nd l v r,.nd l' v' r',h => by
  simp only [trEq,Bool.and_eq_true] at h
  rw [Ahl hq h.1.2,Ahl hq h.2]
  have h1:=h.1.1
  split at h1
  ·rfl
  ·rw [hq _ _ h1]
  ·cases h1
 | .nil,.nd _ _ _,h => by simp [trEq] at h
 | .nd _ _ _,.nil,h => by simp [trEq] at h
def objEq:AObj → AObj → Bool
 | .cells a f v,.cells b g w => avsEq a b && f == g && Nat.beq v w
theorem Aym (a b:AObj) (h:objEq a b = true):a = b:=by
 cases a; cases b
 simp only [objEq,Bool.and_eq_true,beq_iff_eq] at h
 rw [avsEq_eq h.1.1,h.1.2,Nat.eq_of_beq_eq_true h.2]
def esEq:List (Value × AV × Nat) → List (Value × AV × Nat) → Bool
 | [],[] => true
 | a :: l,b :: r => vEq a.1 b.1 && avEq a.2.1 b.2.1 && Nat.beq a.2.2 b.2.2 && esEq l r
 | _,_ => false
theorem Avj:∀ {a b:List (Value × AV × Nat)},esEq a b = true → a = b
 | [],[],_ => rfl
 | (a,x,i) :: l,(b,y,j) :: r,h => by
  simp only [esEq,Bool.and_eq_true] at h
  obtain ⟨⟨⟨h1,h2⟩,h3⟩,h4⟩:=h
  rw [A1q h1,avEq_eq h2,Nat.eq_of_beq_eq_true h3,Avj h4]
 | [],b :: r,h => by simp [esEq] at h
 | a :: l,[],h => by simp [esEq] at h
def mapEq:AMap → AMap → Bool
 | ⟨a,i,v⟩,⟨b,j,w⟩ => esEq a b && Nat.beq i j && Nat.beq v w
theorem Ayp (a b:AMap) (h:mapEq a b = true):a = b:=by
 cases a; cases b
 simp only [mapEq,Bool.and_eq_true] at h
 rw [Avj h.1.1,Nat.eq_of_beq_eq_true h.1.2,Nat.eq_of_beq_eq_true h.2]
def memEq (a b:Mem):Bool:=Nat.beq a.next b.next && Nat.beq a.clock b.clock && trEq objEq a.t b.t && trEq (fun _ _ => false) a.lp b.lp && trEq mapEq a.mp b.mp
theorem Aqf {a b:Mem} (h:memEq a b = true):a = b:=by
 cases a; cases b
 simp only [memEq,Bool.and_eq_true] at h
 obtain ⟨⟨⟨⟨h1,h2⟩,h3⟩,h4⟩,h5⟩:=h
 rw [Nat.eq_of_beq_eq_true h1,Nat.eq_of_beq_eq_true h2,Ahl Aym h3,Ahl (fun _ _ h => by cases h) h4,Ahl Ayp h5]
theorem Aln (hP:P.follows .mixedOrders = true) (h:∀ f k,cfg.hook f = some k → ByHand P f k) (n:Nat) (f:FuncId):ByHand P f fun args m => abody P cfg (afn P cfg n) n f args m :=
 ⟨fun B W args m v m' e hv => Ait hP (Ab6 hP (Aed h) n) (Adr (B:=B) (W:=W) (Aed h) n) e hv,fun args m v m' e => Anp (Adr (B:=Bs.bare 0) (W:=default) (Aed h) n) e⟩
def Cfg.tell (c:Cfg) (f:FuncId) (h:List AV → Mem → Option (AV × Mem)):Cfg:={ c with hook:=fun g => if Nat.beq g f then some h else c.hook g }
theorem Abp {f:FuncId} {h:List AV → Mem → Option (AV × Mem)} (hc:∀ g k,cfg.hook g = some k → ByHand P g k) (hf:ByHand P f h):∀ g k,(cfg.tell f h).hook g = some k → ByHand P g k:=by
 intro g k e
 simp only [Cfg.tell] at e
 split at e
 ·rename_i hb
  have:=Nat.eq_of_beq_eq_true hb
  subst this
  cases e
  exact hf
 ·exact hc g k e
abbrev Row:=List AV × AV
def rowH (t:List Row) (args:List AV) (m:Mem):Option (AV × Mem) :=
 match t.find? fun r => avsEq r.1 (fzvs m args).1 with
 | some r => some (r.2,(fzvs m args).2)
 | none => none
noncomputable def rowRun (P:Program) (cfg:Cfg) (n:Nat) (f:FuncId) (r:Row):Bool :=
 AV.bels 0 r.1 && r.2.bel 0 && match abody P cfg (afn P cfg n) n f r.1 Mem.empty with
  | some (v,_) => avEq v r.2
  | none => false
theorem Ad6 (hP:P.follows .mixedOrders = true) (h:∀ f k,cfg.hook f = some k → ByHand P f k) {n:Nat} {f:FuncId} {t:List Row} (ht:t.all (rowRun P cfg n f) = true):ByHand P f (rowH t):=by
 have key:∀ args m v m',rowH t args m = some (v,m') → puH (fun args m => abody P cfg (afn P cfg n) n f args m) args m = some (v,m'):=by
  intro args m v m' e
  unfold rowH at e
  split at e
  ·rename_i r hr
   cases e
   have h1:=List.find?_some hr
   have h2:=List.all_eq_true.1 ht r (List.mem_of_find?_eq_some hr)
   have h3:=avsEq_eq h1
   unfold rowRun at h2
   simp only [Bool.and_eq_true] at h2
   obtain ⟨⟨h4,h5⟩,h6⟩:=h2
   split at h6
   ·rename_i v' m2 hv
    have:=avEq_eq h6
    subst this
    unfold puH
    rw [← h3]
    simp only [h4,hv,h5,if_true]
   ·cases h6
  ·cases e
 have T:=A2i (Aln hP h n f)
 exact ⟨fun B W args m v m' e => T.sound B W args m v m' (key _ _ _ _ e),fun args m v m' e => T.ver _ _ _ _ (key _ _ _ _ e)⟩
structure Ent where
 args:List AV
 m:Mem
 r:AV
 m':Mem
def entH (t:List Ent) (args:List AV) (m:Mem):Option (AV × Mem) :=
 match t.find? fun e => avsEq e.args args && memEq e.m m with
 | some e => some (e.r,e.m')
 | none => none
noncomputable def entRun (P:Program) (cfg:Cfg) (n:Nat) (f:FuncId) (e:Ent):Bool :=
 match abody P cfg (afn P cfg n) n f e.args e.m with
 | some (v,m') => avEq v e.r && memEq m' e.m'
 | none => false
def EntsOk (P:Program) (f:FuncId) (t:List Ent):Prop:=∀ e ∈ t,∃ h,ByHand P f h ∧ h e.args e.m = some (e.r,e.m')
theorem Ahb {f:FuncId}:EntsOk P f []:=fun e h => by cases h
theorem Afl (hP:P.follows .mixedOrders = true) (h:∀ f k,cfg.hook f = some k → ByHand P f k) {n:Nat} {f:FuncId} {e:Ent} {t:List Ent} (he:entRun P cfg n f e = true) (ht:EntsOk P f t):EntsOk P f (e :: t):=by
 intro x hx
 rcases List.mem_cons.1 hx with rfl | hx
 ·refine ⟨_,Aln hP h n f,?_⟩
  unfold entRun at he
  split at he
  ·rename_i v m' hv
   simp only [Bool.and_eq_true] at he
   rw [hv,avEq_eq he.1,Aqf he.2]
  ·cases he
 ·exact ht x hx
theorem Ae7 {f:FuncId} {t:List Ent} (ht:EntsOk P f t):ByHand P f (entH t):=by
 have key:∀ args m v m',entH t args m = some (v,m') → ∃ h,ByHand P f h ∧ h args m = some (v,m'):=by
  intro args m v m' e
  unfold entH at e
  split at e
  ·rename_i x hx
   cases e
   have h1:=List.find?_some hx
   simp only [Bool.and_eq_true] at h1
   obtain ⟨h,a,b⟩:=ht x (List.mem_of_find?_eq_some hx)
   exact ⟨h,a,by rw [← avsEq_eq h1.1,← Aqf h1.2]; exact b⟩
  ·cases e
 exact ⟨fun B W args m v m' e hv => let ⟨h,a,b⟩:=key _ _ _ _ e; a.sound B W _ _ _ _ b hv,fun args m v m' e => let ⟨h,a,b⟩:=key _ _ _ _ e; a.ver _ _ _ _ b⟩
end Go.V
