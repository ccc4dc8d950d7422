/- Part of a proof. -/
import Derived.Test.YtkoekdfimpcofaaGreatVT6
import Derived.ProofKit
set_option maxHeartbeats 64000000
set_option linter.unusedSimpArgs false
set_option linter.unusedVariables false
set_option linter.unusedSectionVars false
namespace Go.Proofs.YtkoekdfimpcofaaGreat
set_option maxRecDepth 4000
set_option maxRecDepth 4000
set_option maxRecDepth 4000
open Go.V
theorem Aai:Tryz.prog.follows .mixedOrders = true:=by kernel_rfl
theorem cl24:CloneAt Tryz.prog 33:=⟨fun m => by kernel_rfl,fun m => ⟨1,false,by kernel_rfl⟩⟩
theorem cl38:CloneAt Tryz.prog 24:=⟨fun m => by kernel_rfl,fun m => ⟨2,true,by kernel_rfl⟩⟩
theorem cl39:CloneAt Tryz.prog 57:=⟨fun m => by kernel_rfl,fun m => ⟨1,false,by kernel_rfl⟩⟩
theorem mcl37:ByHand Tryz.prog 56 mcloneH:=Aly Tryz.func56 (by kernel_rfl) rfl (by kernel_rfl) (by kernel_rfl)
noncomputable def ck:Cfg:=⟨fun _ => true,fun _ => true,fun f => if f == 33 || f == 24 || f == 57 then some (cloneH Tryz.prog f) else if f == 56 then some mcloneH else none,fun _ => 0⟩
theorem Ap9 (f:FuncId) (h:List AV → Mem → Option (AV × Mem)) (e:ck.hook f = some h):ByHand Tryz.prog f h:=by
 unfold ck at e
 dsimp only at e
 split at e
 ·rename_i hc
  cases e
  have:f = 33 ∨ f = 24 ∨ f = 57:=by simpa [or_assoc] using hc
  rcases this with rfl | rfl | rfl
  ·exact ⟨fun B W args m v m' e2 hv => Aa4 Aai cl24 e2 hv,fun args m v m' e2 => Abn (W:=default) e2⟩
  ·exact ⟨fun B W args m v m' e2 hv => Aa4 Aai cl38 e2 hv,fun args m v m' e2 => Abn (W:=default) e2⟩
  ·exact ⟨fun B W args m v m' e2 hv => Aa4 Aai cl39 e2 hv,fun args m v m' e2 => Abn (W:=default) e2⟩
 ·split at e
  ·rename_i hc
   have:f = 56:=by simpa using hc
   subst this
   cases e
   exact mcl37
  ·cases e
theorem Axr {P:Program} {cfg c2:Cfg} {n:Nat} {f:FuncId} {v:AV} {m:Mem} (hk:cfg.hook f = some (roH (limH P c2 f))) (h:(afn P c2 n (.func f) [] Mem.empty).map (·.1) = some v) (hv:v.out = true):EH P cfg (.func f) [] m v m:=by
 refine Abh hk ?_
 obtain ⟨⟨v',m'⟩,h1,h2⟩:=Option.map_eq_some_iff.1 h
 cases h2
 have h3:limH P c2 f [] Mem.empty = some (v',m'):=Acz (.of h1)
 unfold roH
 simp [fzvs,AV.bels,h3,hv]
def rws:List (List UInt8 × Int × Int) :=
 [([43],0,-1),
  ([45],1,-1),
  ([42],0,-1),
  ([113,117,111,116,105,101,110,116],2,2),
  ([114,101,109,97,105,110,100,101,114],2,2),
  ([109,111,100,117,108,111],2,2),
  ([61],1,-1),
  ([60],1,-1),
  ([62],1,-1),
  ([60,61],1,-1),
  ([62,61],1,-1),
  ([122,101,114,111,63],1,1),
  ([110,111,116],1,1),
  ([101,113,63],2,2),
  ([101,113,117,97,108,63],2,2),
  ([99,111,110,115],2,2),
  ([99,97,114],1,1),
  ([99,100,114],1,1),
  ([115,101,116,45,99,97,114,33],2,2),
  ([115,101,116,45,99,100,114,33],2,2),
  ([112,97,105,114,63],1,1),
  ([110,117,108,108,63],1,1),
  ([108,105,115,116],0,-1),
  ([108,101,110,103,116,104],1,1),
  ([97,112,112,101,110,100],0,-1),
  ([114,101,118,101,114,115,101],1,1),
  ([108,105,115,116,45,114,101,102],2,2),
  ([118,101,99,116,111,114],0,-1),
  ([109,97,107,101,45,118,101,99,116,111,114],1,2),
  ([118,101,99,116,111,114,45,114,101,102],2,2),
  ([118,101,99,116,111,114,45,115,101,116,33],3,3),
  ([118,101,99,116,111,114,45,108,101,110,103,116,104],1,1),
  ([115,116,114,105,110,103,45,108,101,110,103,116,104],1,1),
  ([115,116,114,105,110,103,45,114,101,102],2,2),
  ([115,116,114,105,110,103,45,97,112,112,101,110,100],0,-1),
  ([115,117,98,115,116,114,105,110,103],3,3),
  ([115,116,114,105,110,103,61,63],2,2),
  ([115,121,109,98,111,108,45,62,115,116,114,105,110,103],1,1),
  ([115,116,114,105,110,103,45,62,115,121,109,98,111,108],1,1),
  ([110,117,109,98,101,114,45,62,115,116,114,105,110,103],1,1),
  ([115,116,114,105,110,103,45,62,110,117,109,98,101,114],1,1),
  ([99,104,97,114,45,62,105,110,116,101,103,101,114],1,1),
  ([105,110,116,101,103,101,114,45,62,99,104,97,114],1,1),
  ([115,121,109,98,111,108,63],1,1),
  ([115,116,114,105,110,103,63],1,1),
  ([110,117,109,98,101,114,63],1,1),
  ([98,111,111,108,101,97,110,63],1,1),
  ([99,104,97,114,63],1,1),
  ([112,114,111,99,101,100,117,114,101,63],1,1),
  ([118,101,99,116,111,114,63],1,1),
  ([97,98,115],1,1),
  ([109,105,110],1,-1),
  ([109,97,120],1,-1),
  ([101,120,112,116],2,2),
  ([103,99,100],0,-1),
  ([],0,0),
  ([],0,0),
  ([],0,0),
  ([],0,0),
  ([],0,0),
  ([],0,0),
  ([],0,0),
  ([],0,0),
  ([],0,0),
  ([97,112,112,108,121],2,2),
  ([99,97,108,108,47,49,99,99],1,1),
  ([101,114,114,111,114],1,-1),
  ([115,112,97,119,110],1,1),
  ([121,105,101,108,100],0,0),
  ([106,111,105,110],1,1),
  ([115,101,108,102],0,0),
  ([109,97,107,101,45,99,104,97,110,110,101,108],1,1),
  ([115,101,110,100],2,2),
  ([114,101,99,101,105,118,101],1,1),
  ([99,108,111,115,101],1,1),
  ([109,97,107,101,45,109,117,116,101,120],0,0),
  ([108,111,99,107],1,1),
  ([117,110,108,111,99,107],1,1),
  ([109,97,107,101,45,99,111,110,100,105,116,105,111,110],0,0),
  ([119,97,105,116],2,2),
  ([115,105,103,110,97,108],1,1),
  ([98,114,111,97,100,99,97,115,116],1,1),
  ([109,97,107,101,45,101,110,103,105,110,101],1,1),
  ([114,117,110,45,101,110,103,105,110,101],4,4),
  ([100,105,115,112,108,97,121],1,1)]
def rowC (r:List UInt8 × Int × Int):List AV:=[.sc (.string ⟨⟨r.1⟩⟩),int r.2.1,int r.2.2]
def tableA:AV:=.agg (rws.flatMap rowC)
theorem Afc:rws.length = 85:=rfl
theorem Al4 (l:List (List UInt8 × Int × Int)):(l.flatMap rowC).length = 3 * l.length:=by
 induction l with
 | nil => rfl
 | cons r l ih => rw [List.flatMap_cons,List.length_append,ih,List.length_cons]; show 3 + _ = _; omega
theorem Aql:∀ (l:List (List UInt8 × Int × Int)) (i:Nat) (r:List UInt8 × Int × Int),l[i]? = some r → ((l.flatMap rowC).drop (i * 3)).take 3 = rowC r
 | [],i,r,h => by simp at h
 | q :: l,0,r,h => by
  simp at h; subst h
  rfl
 | q :: l,i + 1,r,h => by
  have:=Aql l i r (by simpa using h)
  rw [List.flatMap_cons,show (i + 1) * 3 = (rowC q).length + i * 3 by show _ = 3 + _; omega,List.drop_append,List.drop_eq_nil_of_le (by omega),Nat.add_sub_cancel_left]
  exact this
theorem run22:(afn Tryz.prog ck 3 (.func 123) [] Mem.empty).map (·.1) = some tableA:=by kernel_rfl
theorem Aqh:tableA.out = true:=by kernel_rfl
theorem Atv {i:Nat} {r:List UInt8 × Int × Int} (h:rws[i]? = some r):aindex Tryz.prog 210 tableA (int i) = some (.agg (rowC r)):=by
 have hi:i < 85:=by
  have:=(List.getElem?_eq_some_iff.1 h).1
  rwa [Afc] at this
 have hl:(rws.flatMap rowC).length = 255:=by rw [Al4,Afc]
 unfold aindex tableA
 have h0:¬ ((i:Int) < 0):=by omega
 simp only [h0,if_false,Ayd,Anf,Int.toNat_natCast,hi,if_true]
 rw [Aet Aye Anf,if_pos (by omega),Aql rws i r h]
attribute [irreducible] rws
end Go.Proofs.YtkoekdfimpcofaaGreat
namespace Go.Proofs.YtkoekdfimpcofaaGreat
set_option maxRecDepth 4000
set_option maxRecDepth 4000
open Go.V
attribute [local simp] Nat.add_assoc
end Go.Proofs.YtkoekdfimpcofaaGreat
namespace Go.Proofs.YtkoekdfimpcofaaGreat
set_option maxRecDepth 4000
set_option maxRecDepth 4000
mutual
theorem eqb_refl:∀ d:Dat,eqb d d = true
 | .mk K N S M L T => by simp [eqb,eqbs_refl L,eqbs_refl T]
theorem eqbs_refl:∀ l:List Dat,eqbs l l = true
 | [] => by simp [eqbs]
 | d :: l => by simp [eqbs,eqb_refl d,eqbs_refl l]
end
theorem Aze {K N:Int} {S:List UInt8} {M:List Int} {L T:List Dat} (h:good (.mk K N S M L T) = true):alone (.mk K N S M L T) = true ∧ goods L = true ∧ goods T = true:=by
 rw [good] at h
 simpa using h
mutual
def pre:Dat → List Dat
 | .mk K N S M L T => .mk K N S M L T :: (pres L ++ pres T)
def pres:List Dat → List Dat
 | [] => []
 | d :: l => pre d ++ pres l
end
mutual
theorem rgo_pre:∀ (d:Dat) (deep:Int) (r:RS),r.e = 0 → (rgo d deep r).e = 0 → (rgo d deep r).ps = r.ps ++ pre d
 | .mk K N S M L T,deep,r,h,he => by
  rw [rgo,if_neg (by simp [h])] at he ⊢
  split at he
  ·simp at he
  rw [if_neg ‹_›]
  split at he
  ·simp at he
  rw [if_neg ‹_›]
  split at he
  ·simp at he
  rw [if_neg ‹_›]
  generalize hr1:(⟨r.ps ++ [Dat.mk K N S M L T],r.ds ++ [deep],0⟩:RS) = r1 at he ⊢
  have e1:r1.e = 0:=by rw [← hr1]
  have e2:(rgos L (deep + 1) r1).e = 0:=by
   by_cases e:(rgos L (deep + 1) r1).e = 0
   ·exact e
   ·rw [rgos_err T _ _ e] at he; exact absurd he e
  rw [rgos_pre T _ _ e2 he,rgos_pre L _ _ e1 e2,← hr1,pre]
  simp
theorem rgos_pre:∀ (l:List Dat) (deep:Int) (r:RS),r.e = 0 → (rgos l deep r).e = 0 → (rgos l deep r).ps = r.ps ++ pres l
 | [],deep,r,h,he => by simp [rgos,pres]
 | d :: l,deep,r,h,he => by
  rw [rgos] at he ⊢
  have e2:(rgo d deep r).e = 0:=by
   by_cases e:(rgo d deep r).e = 0
   ·exact e
   ·rw [rgos_err l _ _ e] at he; exact absurd he e
  rw [rgos_pre l _ _ e2 he,rgo_pre d _ _ h e2,pres]
  simp
end
def nsame:Dat → Dat → Bool
 | .mk K N S M L T,.mk K' N' S' M' L' T' => decide (K = K') && (decide (N = N') && (decide (S = S') && (decide (M = M') && (decide (L.length = L'.length) && decide (T.length = T'.length)))))
def all2:List Dat → List Dat → Bool
 | [],[] => true
 | a :: l,b :: r => nsame a b && all2 l r
 | _,_ => false
theorem Aec:∀ {l r:List Dat},eqbs l r = true → l.length = r.length
 | [],[],_ => rfl
 | [],_ :: _,h => by simp [eqbs] at h
 | _ :: _,[],h => by simp [eqbs] at h
 | a :: l,b :: r,h => by simp only [eqbs,Bool.and_eq_true] at h; simp [Aec h.2]
mutual
theorem all2_pre:∀ (a b:Dat) (x y:List Dat),all2 (pre a ++ x) (pre b ++ y) = (eqb a b && all2 x y)
 | .mk K N S M L T,.mk K' N' S' M' L' T',x,y => by
  simp only [pre,List.cons_append,all2,nsame,eqb,List.append_assoc]
  by_cases hl:L.length = L'.length
  ·by_cases ht:T.length = T'.length
   ·rw [all2_pres L L' _ _ hl,all2_pres T T' _ _ ht]
    simp [hl,ht,Bool.and_assoc]
   ·have:eqbs T T' = false:=by
     cases h:eqbs T T' with
     | false => rfl
     | true => exact absurd (Aec h) ht
    simp [ht,this]
  ·have:eqbs L L' = false:=by
    cases h:eqbs L L' with
    | false => rfl
    | true => exact absurd (Aec h) hl
   simp [hl,this]
theorem all2_pres:∀ (l r:List Dat) (x y:List Dat),l.length = r.length → all2 (pres l ++ x) (pres r ++ y) = (eqbs l r && all2 x y)
 | [],[],x,y,h => by simp [pres,eqbs]
 | [],_ :: _,x,y,h => by simp at h
 | _ :: _,[],x,y,h => by simp at h
 | a :: l,b :: r,x,y,h => by
  simp only [pres,List.append_assoc,eqbs]
  rw [all2_pre a b,all2_pres l r x y (by simpa using h),Bool.and_assoc]
end
end Go.Proofs.YtkoekdfimpcofaaGreat
namespace Go.Proofs.YtkoekdfimpcofaaGreat
set_option maxRecDepth 4000
set_option maxRecDepth 4000
open Go.V
attribute [local simp] Nat.add_assoc
mutual
theorem pre_fits:∀ (d:Dat),d.fits → fitss (pre d)
 | .mk K N S M L T,h => by
  have h2:=h
  rw [Dat.fits] at h2
  rw [pre,fitss]
  exact ⟨h,fitss_append (pres_fits L h2.2.1) (pres_fits T h2.2.2)⟩
theorem pres_fits:∀ (l:List Dat),fitss l → fitss (pres l)
 | [],h => trivial
 | d :: l,h => by
  rw [fitss] at h
  rw [pres]
  exact fitss_append (pre_fits d h.1) (pres_fits l h.2)
theorem fitss_append:∀ {a b:List Dat},fitss a → fitss b → fitss (a ++ b)
 | [],b,_,h => h
 | d :: a,b,h,h2 => by
  rw [fitss] at h
  exact ⟨h.1,fitss_append h.2 h2⟩
end
end Go.Proofs.YtkoekdfimpcofaaGreat
namespace Go.Proofs.YtkoekdfimpcofaaGreat
set_option maxRecDepth 4000
set_option maxRecDepth 4000
open Go.V
def here:List Nat:=[36,58,67,80,81,90]
noncomputable def cw:Cfg:=⟨fun _ => false,fun _ => false,fun f => if here.contains f then none else some (limH Tryz.prog cf f),fun f => if f == 36 then 1 else 0⟩
theorem cw_eh {f:FuncId} {args:List AV} {r:AV} {m m':Mem} (h:EH Tryz.prog cf (.func f) args m r m') (hf:cw.hook f = some (limH Tryz.prog cf f):=by rfl):EH Tryz.prog cw (.func f) args m r m':=Abh hf (Acz h)
theorem Agd {f:FuncId} {args:List AV} {r:AV} (h:Gives Tryz.prog cf f args r) (hf:cw.hook f = some (limH Tryz.prog cf f):=by rfl):Gives Tryz.prog cw f args r:=fun m0 args0 m hz => cw_eh (h m0 args0 m hz) hf
def vis (go:List Dat → Bool) (l:List Dat):List Dat → List Dat × Bool
 | [] => (l,false)
 | x :: xs => if go (l ++ [x]) then vis go (l ++ [x]) xs else (l ++ [x],true)
theorem Ah0 (go:List Dat → Bool):∀ (a b l:List Dat),vis go l (a ++ b) = if (vis go l a).2 then ((vis go l a).1,true) else vis go (vis go l a).1 b
 | [],b,l => by simp [vis]
 | x :: a,b,l => by
  simp only [List.cons_append,vis]
  split
  ·exact Ah0 go a b _
  ·rfl
structure Sees (J:List Dat → (Nat → Prop) → Mem → Prop) (go:List Dat → Bool) (fn:Fn) (fi ca:List AV):Prop where
 keep:∀ l F m m',J l F m → KpX (fun i => ¬ F i) m m' → J l F m'
 lt:∀ l F m,J l F m → ∀ i,F i → i < m.next
 see:∀ l F m x,J l F m → (l = [] ∨ go l = true) → x.fits → wph Tryz.prog cw fn (fi ++ [enc x] ++ ca) m fun v m' => v = .sc (.bool (go (l ++ [x]))) ∧ ∃ F',J (l ++ [x]) F' m' ∧ (∀ i,F' i → F i ∨ m.next ≤ i) ∧ KpC F m m'
structure St2 (m:Mem) (P Q S T D:Nat) (p q:Int) (see:AV) (st:Bool):Prop where
 p:has m P [int p]
 q:has m Q [int q]
 s:has m S [see]
 t:has m T [.sc (.bool st)]
 d:has m D [.fn (.func 90) [] [.ptr P 0,.ptr Q 0,.ptr S 0,.ptr T 0,.ptr D 0]]
def tq (F:Nat → Prop) (P Q T:Nat) (i:Nat):Prop:=F i ∨ i = P ∨ i = Q ∨ i = T
theorem Ato {F F1:Nat → Prop} {P Q T:Nat} {m m1 m2:Mem} (h:KpC (tq F P Q T) m m1) (hf:∀ i,F1 i → F i ∨ m.next ≤ i) (k:KpC (tq F1 P Q T) m1 m2):KpC (tq F P Q T) m m2:=by
 have key:∀ id,id < m.next → ¬ tq F P Q T id → ¬ tq F1 P Q T id:=by
  rintro id hi hx (x | x)
  ·rcases hf id x with y | y
   ·exact hx (.inl y)
   ·omega
  ·exact hx (.inr x)
 exact ⟨Nat.le_trans h.next k.next,fun id hi hx => (k.get id (Nat.lt_of_lt_of_le hi h.next) (key id hi hx)).trans (h.get id hi hx),fun id hi hx => ⟨(k.x id (Nat.lt_of_lt_of_le hi h.next) (key id hi hx)).1.trans (h.x id hi hx).1,(k.x id (Nat.lt_of_lt_of_le hi h.next) (key id hi hx)).2.trans (h.x id hi hx).2⟩⟩
theorem KpC.after {X Y:Nat → Prop} {m m1 m2:Mem} (h:Kp m m1) (k:KpC Y m1 m2) (hf:∀ i,i < m.next → Y i → X i):KpC X m m2 :=
 ⟨Nat.le_trans h.next k.next,fun id hi hx => (k.get id (Nat.lt_of_lt_of_le hi h.next) fun y => hx (hf id hi y)).trans (h.get id hi),fun id hi hx => ⟨(k.x id (Nat.lt_of_lt_of_le hi h.next) fun y => hx (hf id hi y)).1.trans (h.x id hi).1,(k.x id (Nat.lt_of_lt_of_le hi h.next) fun y => hx (hf id hi y)).2.trans (h.x id hi).2⟩⟩
theorem St2.kp {m m':Mem} {P Q S T D:Nat} {p q:Int} {see:AV} {st:Bool} (h:St2 m P Q S T D p q see st) (k:Kp m m'):St2 m' P Q S T D p q see st:=⟨h.p.kp k,h.q.kp k,h.s.kp k,h.t.kp k,h.d.kp k⟩
theorem St2.kc {X:Nat → Prop} {m m':Mem} {P Q S T D:Nat} {p q:Int} {see:AV} {st:Bool} (h:St2 m P Q S T D p q see st) (k:KpC X m m') (hp:¬ X P) (hq:¬ X Q) (hs:¬ X S) (ht:¬ X T) (hd:¬ X D):St2 m' P Q S T D p q see st:=⟨h.p.kc k hp,h.q.kc k hq,h.s.kc k hs,h.t.kc k ht,h.d.kc k hd⟩
theorem neqFn {x y:Operand} {f:Fn} {a b:List AV}:abin Tryz.prog .neq 104 x y (.fn f a b) (.sc .nilFunc) = some (.sc (.bool true)):=by
 have:nilTest Tryz.prog 104 (.fn f a b) (.sc .nilFunc) = some false:=by
  unfold nilTest
  rw [Tryz.underlying104]
 simp [abin,plain,this]
theorem Apw {go:List Dat → Bool}:∀ {x l:List Dat},(vis go l x).2 = false → (l = [] ∨ go l = true) → ((vis go l x).1 = [] ∨ go (vis go l x).1 = true)
 | [],l,_,h => h
 | x :: xs,l,he,h => by
  simp only [vis] at he ⊢
  split at he
  ·rename_i hg; rw [if_pos hg]; exact Apw he (.inr hg)
  ·cases he
theorem see58 {J:List Dat → (Nat → Prop) → Mem → Prop} {go':List Dat → Bool} {fs:FuncId} {ca:List AV} (hJ:Sees J go' (.func fs) [] ca) (P Qq S T D:Nat) (hd:P ≠ Qq ∧ P ≠ S ∧ P ≠ T ∧ P ≠ D ∧ Qq ≠ S ∧ Qq ≠ T ∧ Qq ≠ D ∧ S ≠ T ∧ T ≠ D):∀ (n:Nat) (d:Dat),d.size ≤ n → d.fits → ∀ (deep p q:Int) (l:List Dat) (F:Nat → Prop) (m:Mem),(¬ F P ∧ ¬ F Qq ∧ ¬ F S ∧ ¬ F T ∧ ¬ F D) → 0 ≤ deep ∧ deep ≤ 1000 → 0 ≤ p → St2 m P Qq S T D p q (.fn (.func fs) [] ca) false → J l F m → (l = [] ∨ go' l = true) → (wk d deep p q).1 = 0 →
  wph Tryz.prog cw (.func 90) [enc d,int deep,.ptr P 0,.ptr Qq 0,.ptr S 0,.ptr T 0,.ptr D 0] m fun v m' => v = int 0 ∧ (∃ F',J (vis go' l (pre d)).1 F' m' ∧ ∀ i,F' i → F i ∨ m.next ≤ i) ∧ KpC (tq F P Qq T) m m' ∧ ∃ p' q',St2 m' P Qq S T D p' q' (.fn (.func fs) [] ca) (vis go' l (pre d)).2 ∧ ((vis go' l (pre d)).2 = false → p' = (wk d deep p q).2.1 ∧ q' = (wk d deep p q).2.2):=by
 intro n
 induction n with
 | zero => intro d hs; cases d; simp [Dat.size] at hs
 | succ n ih =>
  intro d hs hfit deep p q l F m hF hdeep hp hst hJl hgo h0
  have hd0:=d
  obtain ⟨K,N,Sx,M,L,Tx⟩:=d
  obtain ⟨d1,d2,d3,d4,d5,d6,d7,d8,d9⟩:=hd
  obtain ⟨nP,nQ,nS,nT,nD⟩:=hF
  refine Aah Tryz.func90 rfl rfl (by simp [Tryz.f90]) (by simp [Tryz.f90]) fun Q hQ => ?_
  simp only [Tryz.f90,show cw.keepRes 90 = false from rfl,show cw.keepArgs 90 = false from rfl] at hQ ⊢
  simp only [enc]
  obtain ⟨pl,pv,pe⟩:=hst.p
  obtain ⟨ql,qv,qe⟩:=hst.q
  have pn:P ≠ m.next:=by omega
  have e1:¬ 64 < deep:=by intro h; simp [wk,h] at h0
  have e2:¬ 4096 ≤ p:=by intro h; simp [wk,e1,h] at h0
  have ha:alone (.mk K N Sx M L Tx) = true:=by
   cases h:alone (.mk K N Sx M L Tx) with
   | true => rfl
   | false => simp [wk,e1,e2,h] at h0
  simp [e1,pe,pn,e2]
  refine Aar (Agd (g59 (Abo hfit))) (fun m1 k1 => ?_) (by simp [enc])
  have st1:St2 m1 P Qq S T D p q (.fn (.func fs) [] ca) false:=(hst.kp (.new _ _ _)).kp k1
  have kn1:Kp m m1:=(Kp.new _ _ _).trans k1
  have b1:=k1.get m.next (by simp)
  simp at b1
  simp [ha]
  obtain ⟨pl1,pv1,pe1⟩:=st1.p
  obtain ⟨ql1,qv1,qe1⟩:=st1.q
  obtain ⟨sl1,sv1,se1⟩:=st1.s
  obtain ⟨tl1,tv1,te1⟩:=st1.t
  have w1:IntKind.i64.wrap (p + 1) = p + 1:=IntWalk.i64_in _ (by omega)
  have n1:m.next < m1.next:=by have:=k1.next; simp at this; omega
  have d1':=Ne.symm d1
  have d2':=Ne.symm d2
  have d3':=Ne.symm d3
  have d5':=Ne.symm d5
  have d6':=Ne.symm d6
  have q1:m.next ≠ P:=by omega
  have q2:m.next ≠ Qq:=by omega
  have kx1:KpX (fun i => ¬ F i) m ((m1.set P [int (p + 1)]).set Qq [int (max q deep)]):=(((KpX.of kn1).set nP _).set nQ _)
  have hJ1:=hJ.keep _ _ _ _ hJl kx1
  have hF1:=hJ.lt _ _ _ hJl
  simp [pe1,qe1,se1,te1,w1,d1,d1',d2,d2',d3,d3',d5,d5',d6,d6',amax2,neqFn,b1,q1,q2]
  obtain ⟨em,hem⟩:∃ em,em = (m1.set P [int (p + 1)]).set Qq [int (max q deep)]:=⟨_,rfl⟩
  have hs1:St2 em P Qq S T D (p + 1) (max q deep) (.fn (.func fs) [] ca) false:=by
   rw [hem]
   have kk:KpX (two P Qq) m1 ((m1.set P [int (p + 1)]).set Qq [int (max q deep)]):=((KpX.refl _ _).set (.inl rfl) _).set (.inr rfl) _
   refine ⟨⟨by simp; omega,?_⟩,⟨by simp; omega,?_⟩,st1.s.kept kk (by unfold two; omega),st1.t.kept kk (by unfold two; omega),st1.d.kept kk (by unfold two; omega)⟩
   ·simp [d1]
   ·simp
  have hen:em.next = m1.next:=by rw [hem]; rfl
  have hbx:has em m.next (enc (.mk K N Sx M L Tx)).cells:=by
   rw [hem]
   refine ⟨by simp; omega,?_⟩
   simp [q1,q2,b1,enc]
  rw [← hem] at hJ1 ⊢
  have hkm:KpC (tq F P Qq T) m em:=by
   rw [hem]
   exact .of ((((KpX.of kn1).set (X:=tq F P Qq T) (.inr (.inl rfl)) _).set (.inr (.inr (.inl rfl))) _))
  refine Aad (by simpa [enc] using hJ.see l F em (.mk K N Sx M L Tx) hJ1 hgo hfit) ?_
  rintro v m2 ⟨rfl,F2,hJ2,hF2,kc2⟩
  have hF2m:∀ i,F2 i → F i ∨ m.next ≤ i:=fun i hi => (hF2 i hi).imp id fun h => by omega
  have st2:=hs1.kc kc2 nP nQ nS nT nD
  have hb2:=hbx.kc kc2 (fun h => by have:=hF1 _ h; omega)
  have hn2:=kc2.next
  have old:∀ j,j < m.next → ¬ F j → ¬ F2 j:=fun j h1 h2 h => (hF2m j h).elim h2 fun h => by omega
  have hF2P:=old P pl nP
  have hF2Q:=old Qq ql nQ
  have hF2S:=old S hst.s.1 nS
  have hF2T:=old T hst.t.1 nT
  have hF2D:=old D hst.d.1 nD
  obtain ⟨pl2,pv2,pe2⟩:=st2.p
  obtain ⟨ql2,qv2,qe2⟩:=st2.q
  obtain ⟨sl2,sv2,se2⟩:=st2.s
  obtain ⟨tl2,tv2,te2⟩:=st2.t
  obtain ⟨bl2,bv2,be2⟩:=hb2
  have q3:m.next ≠ T:=by have:=hst.t.1; omega
  simp [enc] at be2
  simp [te2,be2,q3,abuildSlice,fillAt,zeros]
  have hL:fitss L:=by rw [Dat.fits] at hfit; exact hfit.2.1
  have hT:fitss Tx:=by rw [Dat.fits] at hfit; exact hfit.2.2
  have hsz:sizes L ≤ n ∧ sizes Tx ≤ n:=by rw [Dat.size] at hs; omega
  obtain ⟨g0,hg0⟩:∃ g0,g0 = go' (l ++ [.mk K N Sx M L Tx]):=⟨_,rfl⟩
  rw [← hg0]
  let Ls:Nat → List Dat:=fun o => if o = 0 then L else Tx
  let rem:Nat → Int → Int → Int × Int × Int:=fun o p q => if o = 0 then nxt (wks L (deep + 1) p q) fun p q => wks Tx (deep + 1) p q else if o = 1 then wks Tx (deep + 1) p q else (0,p,q)
  let rpre:Nat → List Dat:=fun o => if o = 0 then pres L ++ pres Tx else if o = 1 then pres Tx else []
  have hrem:wk (.mk K N Sx M L Tx) deep p q = rem 0 (p + 1) (max q deep):=by
   simp [wk,e1,e2,ha,rem]
  have hpre:vis go' l (pre (.mk K N Sx M L Tx)) = if g0 then vis go' (l ++ [.mk K N Sx M L Tx]) (rpre 0) else (l ++ [.mk K N Sx M L Tx],true):=by
   simp [pre,vis,rpre,hg0]
  rw [hrem] at h0
  let slots:Sl → Prop:=fun s => s.at 1 = int deep ∧ s.at 2 = .ptr P 0 ∧ s.at 3 = .ptr Qq 0 ∧ s.at 4 = .ptr S 0 ∧ s.at 5 = .ptr T 0 ∧ s.at 6 = .ptr D 0 ∧ s.at 44 = .sl m2.next 0 2 1 false (some 2) ∧ s.at 45 = int 2
  let mems:Mem → Int → Int → List Dat → Bool → Prop:=fun m' p' q' l' st => St2 m' P Qq S T D p' q' (.fn (.func fs) [] ca) st ∧ has m' m2.next [.lst (encs L),.lst (encs Tx)] ∧ KpC (tq F P Qq T) m m' ∧ (st = false → p ≤ p') ∧ (∃ F',J l' F' m' ∧ (∀ i,F' i → F i ∨ m.next ≤ i) ∧ ¬ F' P ∧ ¬ F' Qq ∧ ¬ F' S ∧ ¬ F' T ∧ ¬ F' D ∧ ¬ F' m2.next) ∧ (st = false → l' = [] ∨ go' l' = true)
  let left:Bool → List Dat → List Dat → Prop:=fun st l' r => vis go' l (pre (.mk K N Sx M L Tx)) = if st then (l',true) else vis go' l' r
  have fin:∀ (m':Mem) (p' q':Int) (l':List Dat) (st:Bool),mems m' p' q' l' st → left st l' [] → (st = false → (0,p',q') = rem 0 (p + 1) (max q deep)) → ∀ (s':Sl),s'.at 9 = int 0 → Q .ret s' m':=by
   rintro m' p' q' l' st ⟨a1,a2,a3,a4,⟨F',a5,a7,_⟩,a6⟩ hl hw s' h9
   refine hQ _ _ _ (Aac (.inr rfl) h9 ?_)
   have hv:vis go' l (pre (.mk K N Sx M L Tx)) = (l',st):=by rw [hl]; cases st <;> simp [vis]
   rw [hv]
   refine ⟨rfl,⟨F',a5,a7⟩,a3,p',q',a1,fun h => ?_⟩
   rw [hrem,← hw h]
   exact ⟨rfl,rfl⟩
  refine Acw (fun k s m' => ∃ (o:Nat) (p' q':Int) (l':List Dat) (st:Bool),k = 2 - o ∧ o ≤ 2 ∧ slots s ∧ s.at 46 = int o ∧ mems m' p' q' l' st ∧ left st l' (rpre o) ∧ (st = false → rem o p' q' = rem 0 (p + 1) (max q deep))) 2 ⟨0,p + 1,max q deep,l ++ [.mk K N Sx M L Tx],!g0,rfl,by omega,by simp [slots],by simp,?_,?_,fun _ => rfl⟩ ?_
  ·have stx:∀ m':Mem,m' = (m2.set T [.sc (.bool !g0)]).new [.lst (encs L),.lst (encs Tx)] false → mems m' (p + 1) (max q deep) (l ++ [.mk K N Sx M L Tx]) (!g0):=by
    rintro m' rfl
    have kk:KpX (fun i => i = T) m2 ((m2.set T [.sc (.bool !g0)]).new [.lst (encs L),.lst (encs Tx)] false):=((KpX.refl (fun i => i = T) m2).set (id:=T) rfl _).new _ _
    have kc:=KpC.of kk
    refine ⟨⟨st2.p.kept kk (by omega),st2.q.kept kk (by omega),st2.s.kept kk (by omega),⟨by simp; omega,?_⟩,st2.d.kept kk (by omega)⟩,⟨by simp,?_⟩,(hkm.trans (kc2.mono fun j hj => .inl hj)).trans (kc.mono fun j hj => .inr (.inr (.inr hj))),fun _ => by omega,⟨F2,hJ.keep _ _ _ _ hJ2 (kk.mono fun j _ hj => by rw [hj]; exact hF2T),hF2m,hF2P,hF2Q,hF2S,hF2T,hF2D,fun h => by have:=hJ.lt _ _ _ hJ2 _ h; omega⟩,fun h => .inr ?_⟩
    ·have:T ≠ m2.next:=by omega
     simp [this]
    ·simp
    ·rw [← hg0]; simpa using h
   exact stx _ rfl
  ·show vis go' l (pre (.mk K N Sx M L Tx)) = _
   rw [hpre]
   cases g0 <;> simp
  ·rintro k s m2' ⟨o,p2,q2,l2,stp,rfl,ho,hsl,h46,hmem,hleft,hw⟩ Q' hn he
   obtain ⟨s1,s2,s3,s4,s5,s6,s44,s45⟩:=hsl
   have hmem0:=hmem
   obtain ⟨st2',hb2',kx2,hp2,_,hgo2⟩:=hmem
   obtain ⟨bl3,bv3,be3⟩:=hb2'
   simp [s45,h46]
   refine Aal (fun h => ?_) fun h => ?_
   ·have ho2:o < 2:=by simp at h; omega
    have ix:aindexAddr Tryz.prog 170 (.sl m2.next 0 2 1 false (some 2)) (int o) = some (.ptr m2.next (0 + o * 1)):=Aax Tryz.underlying170 Ap8 ho2
    have gx:([AV.lst (encs L),.lst (encs Tx)]:List AV)[o]? = some (.lst (encs (Ls o))):=by
     rcases (by omega:o = 0 ∨ o = 1) with rfl | rfl <;> simp [Ls]
    simp [s44,h46,ix,be3,gx]
    have hstep:∀ p q,rem o p q = nxt (wks (Ls o) (deep + 1) p q) fun p q => rem (o + 1) p q:=by
     intro p q
     rcases (by omega:o = 0 ∨ o = 1) with rfl | rfl
     ·simp [rem,Ls]
     ·simp only [rem,Ls,nxt]
      simp
      intro h0
      rw [← h0]
    have hpstep:rpre o = pres (Ls o) ++ rpre (o + 1):=by
     rcases (by omega:o = 0 ∨ o = 1) with rfl | rfl <;> simp [rpre,Ls]
    have hfl:fitss (Ls o):=by
     rcases (by omega:o = 0 ∨ o = 1) with rfl | rfl <;> simp [Ls,hL,hT]
    have hlen:(Ls o).length < 2 ^ 21:=by
     have:=Abo hfit
     rcases (by omega:o = 0 ∨ o = 1) with rfl | rfl
     ·exact this.l
     ·exact this.t
    have hsl:sizes (Ls o) ≤ n:=by
     rcases (by omega:o = 0 ∨ o = 1) with rfl | rfl <;> simp [Ls,hsz.1,hsz.2]
    refine Acw (fun k s m' => ∃ (i:Nat) (p' q':Int) (l':List Dat) (st:Bool),k = (Ls o).length - i ∧ i ≤ (Ls o).length ∧ slots s ∧ s.at 46 = int o ∧ s.at 50 = .lst (encs (Ls o)) ∧ s.at 51 = int (Ls o).length ∧ s.at 52 = int i ∧ mems m' p' q' l' st ∧ left st l' (pres ((Ls o).drop i) ++ rpre (o + 1)) ∧ (st = false → nxt (wks ((Ls o).drop i) (deep + 1) p' q') (fun p q => rem (o + 1) p q) = rem 0 (p + 1) (max q deep))) (Ls o).length ⟨0,p2,q2,l2,stp,rfl,by omega,by simp [slots,s1,s2,s3,s4,s5,s6,s44,s45],by simp [h46],by simp,by simp,by simp,hmem0,by rw [List.drop_zero,← hpstep]; exact hleft,fun h => by rw [List.drop_zero,← hstep]; exact hw h⟩ ?_
    rintro k s m3 ⟨i,p3,q3,l3,st3',rfl,hi,⟨t1,t2,t3,t4,t5,t6,t44,t45⟩,t46,t50,t51,t52,hm3,hleft3,hw3⟩ Q2 hn2 he2
    have hm30:=hm3
    obtain ⟨st3,hb3,kx3,hp3,⟨F3,hJ3,hF3,f3P,f3Q,f3S,f3T,f3D,f3A⟩,hgo3⟩:=hm3
    simp [t51,t52]
    refine Aal (fun h => ?_) fun h => ?_
    ·have hlt:i < (Ls o).length:=by simpa using h
     obtain ⟨x,hx⟩:∃ x,(Ls o)[i]? = some x:=⟨_,List.getElem?_eq_getElem hlt⟩
     have hxe:(encs (Ls o))[i]? = some (enc x):=by rw [Acu,hx]; rfl
     have hxm:x ∈ Ls o:=List.mem_of_getElem? hx
     have n3:m.next ≤ m3.next:=kx3.next
     obtain ⟨tl3,tv3,te3⟩:=st3.t
     obtain ⟨dl3,dv3,de3⟩:=st3.d
     have tne:T ≠ m3.next:=by omega
     have dne:D ≠ m3.next:=by omega
     simp [t50,t52,Aag Tryz.underlying31 Abq hxe (Aav x)]
     have zl:6 ≤ zeroCells.length:=by decide
     have zd:List.drop 6 zeroCells = []:=rfl
     have wd:IntKind.i64.wrap (deep + 1) = deep + 1:=IntWalk.i64_in _ (by omega)
     have k4:Kp m3 ((m3.new zeroCells false).set m3.next (enc x).cells):=(Kp.new _ _ _).set (Nat.le_refl _) _
     have st4:=st3.kp k4
     have hJ4:=hJ.keep _ _ _ _ hJ3 (.of k4)
     have kc4:KpC (tq F P Qq T) m ((m3.new zeroCells false).set m3.next (enc x).cells):=kx3.trans (.of (.of k4))
     have hb4:=hb3.kp k4
     simp [zl,zd,t1,t2,t3,t4,t5,t6,tne,dne,te3,de3,wd]
     cases st3' with
     | true =>
      simp
      refine he2 _ _ _ (by simp) ?_
      simp
      refine he _ _ _ (by simp) ?_
      simp
      exact fin _ p3 q3 l3 true ⟨st4,hb4,kc4,hp3,⟨F3,hJ4,hF3,f3P,f3Q,f3S,f3T,f3D,f3A⟩,fun h => by cases h⟩ (by simpa [left] using hleft3) (fun h => by cases h) _ (by simp)
     | false =>
      simp [zl,zd,t1,t2,t3,t4,t5,t6,tne,dne,te3,de3,wd]
      have hdrop:(Ls o).drop i = x :: (Ls o).drop (i + 1):=by
       rw [List.drop_eq_getElem_cons hlt]
       obtain ⟨h1,h2⟩:=List.getElem?_eq_some_iff.1 hx
       rw [h2]
      have hw3':=hw3 rfl
      rw [← hw3',hdrop] at h0
      have h0x:=(Adv h0).1
      rw [wks] at h0x
      have h0y:=(Adv h0x).1
      refine Aad (ih x (by have:=Ab3 hxm; omega) (Acb hfl hxm) (deep + 1) p3 q3 l3 F3 _ ⟨f3P,f3Q,f3S,f3T,f3D⟩ (by omega) (by have:=hp3 rfl; omega) st4 hJ4 (hgo3 rfl) h0y) ?_
      rintro v m5 ⟨rfl,⟨F5,hJ5,hF5⟩,kx5,p5,q5,st5,hpq5⟩
      have bA:=hb3.1
      have hb5:=hb4.kc kx5 (by rintro (h | h | h | h) <;> first | exact f3A h | omega)
      have hF5m:∀ i,F5 i → F3 i ∨ m3.next ≤ i:=fun i hi => (hF5 i hi).imp id fun h => by simp at h; omega
      have old5:∀ j,j < m3.next → ¬ F3 j → ¬ F5 j:=fun j h1 h2 h => (hF5m j h).elim h2 fun h => by omega
      have hF50:∀ i,F5 i → F i ∨ m.next ≤ i:=fun i hi => by
       rcases hF5m i hi with h | h
       ·exact hF3 i h
       ·exact .inr (by omega)
      have hl3:vis go' l (pre (.mk K N Sx M L Tx)) = vis go' l3 (pre x ++ (pres ((Ls o).drop (i + 1)) ++ rpre (o + 1))):=by
       have:left false l3 (pres ((Ls o).drop i) ++ rpre (o + 1)):=hleft3
       rw [hdrop] at this
       simpa [left,pres,List.append_assoc] using this
      rw [Ah0] at hl3
      have hwx:=wk_ok x (deep + 1) p3 q3 h0y
      simp [t52]
      generalize hvx:vis go' l3 (pre x) = vx at hl3 hJ5 st5 hpq5
      obtain ⟨l5,b5⟩:=vx
      refine hn2 ((Ls o).length - (i + 1)) _ _ (by omega) ⟨i + 1,p5,q5,l5,b5,rfl,hlt,by simp [slots,t1,t2,t3,t4,t5,t6,t44,t45],by simp [t46],by simp [t50],by simp [t51],?_,⟨st5,hb5,Ato kc4 hF3 kx5,fun h => ?_,⟨F5,hJ5,hF50,old5 P st3.p.1 f3P,old5 Qq st3.q.1 f3Q,old5 S st3.s.1 f3S,old5 T st3.t.1 f3T,old5 D st3.d.1 f3D,old5 _ bA f3A⟩,fun h => ?_⟩,hl3,fun h => ?_⟩
      ·rw [Aaa,IntWalk.i64_in _ (by omega)]; rfl
      ·have:=hp3 rfl
       rw [(hpq5 h).1,hwx.1]
       omega
      ·have:=Apw (go:=go') (x:=pre x) (l:=l3) (by rw [hvx]; exact h) (hgo3 rfl)
       rw [hvx] at this
       exact this
      ·obtain ⟨r1,r2⟩:=hpq5 h
       rw [← hw3',hdrop,wks]
       subst r1 r2
       simp only [nxt,h0y,if_true]
    ·simp
     refine he2 _ _ _ (by simp) ?_
     have hle:i = (Ls o).length:=by simp at h hi ⊢; omega
     rw [List.drop_eq_nil_of_le (by omega)] at hw3 hleft3
     simp [t46]
     refine hn (2 - (o + 1)) _ _ (by omega) ⟨o + 1,p3,q3,l3,st3',rfl,by omega,by simp [slots,t1,t2,t3,t4,t5,t6,t44,t45],?_,hm30,by simpa [pres] using hleft3,fun h => by rw [← hw3 h]; simp [nxt,wks]⟩
     rw [Aaa,IntWalk.i64_in _ (by omega)]; rfl
   ·simp
    refine he _ _ _ (by simp) ?_
    simp
    have ho2:o = 2:=by simp at h; omega
    subst ho2
    exact fin _ p2 q2 l2 stp hmem0 hleft (fun h => hw h) _ (by simp)
theorem Agl {f:FuncId} (h:CloneAt Tryz.prog f):ByHand Tryz.prog f (cloneL Tryz.prog f):=⟨fun B W args m v m' e2 hv => Af0 Aai h e2 hv,fun args m v m' e2 => Afp (W:=default) e2⟩
theorem Ac5 {f:FuncId} (h:CloneAt Tryz.prog f):ByHand Tryz.prog f (cloneP Tryz.prog f):=⟨fun B W args m v m' e2 hv => Ald Aai h e2 hv,fun args m v m' e2 => Apf (W:=default) e2⟩
theorem cl42:CloneAt Tryz.prog 44:=⟨fun m => by kernel_rfl,fun m => ⟨3,true,by kernel_rfl⟩⟩
theorem cl59:CloneAt Tryz.prog 66:=⟨fun m => by kernel_rfl,fun m => ⟨1,false,by kernel_rfl⟩⟩
theorem Alz (f:FuncId) (h:List AV → Mem → Option (AV × Mem)) (e:cf.hook f = some h):ByHand Tryz.prog f h:=by
 unfold cf at e
 dsimp only at e
 split at e
 ·rename_i hc
  have:f = 66:=by simpa using hc
  subst this
  cases e
  exact Ac5 cl59
 ·cases e
theorem Ax5 (f:FuncId) (h:List AV → Mem → Option (AV × Mem)) (e:cw.hook f = some h):ByHand Tryz.prog f h:=by
 unfold cw at e
 dsimp only at e
 split at e
 ·cases e
 ·cases e; exact Acn Aai Alz f
def toldD:List Nat:=[45,40,39,43]
noncomputable def cc:Cfg:=⟨fun _ => false,fun f => f == 86,
 fun f => if f == 33 || f == 44 then some (cloneP Tryz.prog f) else if toldD.contains f then some (limH Tryz.prog cf f) else if f == 36 then some (limH Tryz.prog cw 36) else if f == 85 then some (roH (limH Tryz.prog ck 85)) else none,
 fun f => if f == 86 || f == 87 then 0 else 1⟩
theorem Ax6 (f:FuncId) (h:List AV → Mem → Option (AV × Mem)) (e:cc.hook f = some h):ByHand Tryz.prog f h:=by
 unfold cc at e
 dsimp only at e
 split at e
 ·rename_i hc
  have:f = 33 ∨ f = 44:=by simpa using hc
  cases e
  rcases this with rfl | rfl
  ·exact Ac5 cl24
  ·exact Ac5 cl42
 ·split at e
  ·cases e; exact Acn Aai Alz f
  ·split at e
   ·rename_i hc
    have:f = 36:=by simpa using hc
    subst this
    cases e
    exact Acn Aai Ax5 36
   ·split at e
    ·rename_i hc
     have:f = 85:=by simpa using hc
     subst this
     cases e
     exact Alx (Acn Aai Ap9 85)
    ·cases e
theorem Ajw {f:FuncId} {args:List AV} {r:AV} (h:Gives Tryz.prog cf f args r) (hf:cc.hook f = some (limH Tryz.prog cf f):=by rfl):Gives Tryz.prog cc f args r:=fun m0 args0 m hz => Abh hf (Acz (h m0 args0 m hz))
noncomputable def cka:Cfg:=⟨fun _ => true,fun _ => true,fun f => if f == 33 || f == 24 || f == 57 || f == 44 || f == 66 then some (cloneH Tryz.prog f) else if f == 56 then some mcloneH else none,fun _ => 0⟩
theorem Atp (f:FuncId) (h:List AV → Mem → Option (AV × Mem)) (e:cka.hook f = some h):ByHand Tryz.prog f h:=by
 unfold cka at e
 dsimp only at e
 split at e
 ·rename_i hc
  cases e
  have:f = 33 ∨ f = 24 ∨ f = 57 ∨ f = 44 ∨ f = 66:=by simpa [or_assoc] using hc
  rcases this with rfl | rfl | rfl | rfl | rfl
  ·exact ⟨fun B W args m v m' e2 hv => Aa4 Aai cl24 e2 hv,fun args m v m' e2 => Abn (W:=default) e2⟩
  ·exact ⟨fun B W args m v m' e2 hv => Aa4 Aai cl38 e2 hv,fun args m v m' e2 => Abn (W:=default) e2⟩
  ·exact ⟨fun B W args m v m' e2 hv => Aa4 Aai cl39 e2 hv,fun args m v m' e2 => Abn (W:=default) e2⟩
  ·exact ⟨fun B W args m v m' e2 hv => Aa4 Aai cl42 e2 hv,fun args m v m' e2 => Abn (W:=default) e2⟩
  ·exact ⟨fun B W args m v m' e2 hv => Aa4 Aai cl59 e2 hv,fun args m v m' e2 => Abn (W:=default) e2⟩
 ·split at e
  ·rename_i hc
   have:f = 56:=by simpa using hc
   subst this
   cases e
   exact mcl37
  ·cases e
def leavesA:List Nat:=[13,75,4,18,46,68,69,35,34,133,124,134,15,156,150,141,126,136,115,130,131,132,152,151,154,159,160,161,51,153,95,70,93,155,171,170,172,5,8,20,11,26,31,47,48,50,52,53,29,55,77]
noncomputable def ca:Cfg:=⟨fun f => f == 35 || f == 134 || f == 153 || f == 170,fun f => f == 35 || f == 152,
 fun f => if f == 24 || f == 33 then some (cloneL Tryz.prog f) else if f == 57 then some (cloneP Tryz.prog f) else if f == 56 then some mcloneH else if f == 123 then some (roH (limH Tryz.prog ck f)) else if toldD.contains f then some (limH Tryz.prog cf f) else if f == 16 || f == 17 then some (limH Tryz.prog cc f) else if f == 7 || f == 27 then some (roH (limH Tryz.prog cka f)) else none,
 fun f => if leavesA.contains f then 0 else 1⟩
theorem Ax7 (f:FuncId) (h:List AV → Mem → Option (AV × Mem)) (e:ca.hook f = some h):ByHand Tryz.prog f h:=by
 unfold ca at e
 dsimp only at e
 split at e
 ·rename_i hc
  have:f = 24 ∨ f = 33:=by simpa using hc
  cases e
  rcases this with rfl | rfl
  ·exact Agl cl38
  ·exact Agl cl24
 ·split at e
  ·rename_i hc
   have:f = 57:=by simpa using hc
   subst this
   cases e
   exact Ac5 cl39
  ·split at e
   ·rename_i hc
    have:f = 56:=by simpa using hc
    subst this
    cases e
    exact mcl37
   ·split at e
    ·cases e; exact Alx (Acn Aai Ap9 f)
    ·split at e
     ·cases e; exact Acn Aai Alz f
     ·split at e
      ·cases e; exact Acn Aai Ax6 f
      ·split at e
       ·cases e; exact Alx (Acn Aai Atp f)
       ·cases e
theorem hooksA (B:Bs) (W:World):Hooks Tryz.prog B W ca:=Aje Ax7
theorem An7 {f:FuncId} {args:List AV} {r:AV} (h:Gives Tryz.prog cf f args r) (hf:ca.hook f = some (limH Tryz.prog cf f):=by rfl):Gives Tryz.prog ca f args r:=fun m0 args0 m hz => Abh hf (Acz (h m0 args0 m hz))
theorem Alf {f:FuncId} {args:List AV} {r:AV} (h:Gives Tryz.prog cc f args r) (hf:ca.hook f = some (limH Tryz.prog cc f):=by rfl):Gives Tryz.prog ca f args r:=fun m0 args0 m hz => Abh hf (Acz (h m0 args0 m hz))
abbrev Val:=Int × Int
structure CeM where
 k:Int
 n:Int
 a:List Val
 s:List UInt8
structure ArM where
 room:Int
 cells:List CeM
 names:List (List UInt8)
abbrev strA (s:List UInt8):AV:=.sc (.string ⟨⟨s⟩⟩)
def valA (v:Val):AV:=.agg [int v.1,int v.2]
def vals (l:List Val):List AV:=l.map valA
def byts (s:List UInt8):List AV:=s.map fun b => .sc (.int .u8 b.toNat)
def ceA (c:CeM):AV:=.agg [int c.k,int c.n,.lst (vals c.a),.lst (byts c.s)]
def rowA (c:CeM) (x:AV):AV:=.agg [int c.k,int c.n,x,.lst (byts c.s)]
@[simp] theorem Aog (v:Val):(valA v).cells = [int v.1,int v.2]:=Eq.trans rfl rfl
@[simp] theorem A18 (v:Val):(valA v).okc = true:=Eq.trans rfl rfl
@[simp] theorem A19 (v:Val) (n:Nat):(valA v).bel n = true:=Eq.trans rfl rfl
@[simp] theorem Atk (v:Val) (m:Mem):fzv m (valA v) = (valA v,m):=by simp [valA,fzv,fzs,fz1]
theorem Aab (v:Val):AV.agg [int v.1,int v.2] = valA v:=Eq.trans rfl rfl
@[simp] theorem Aa0 (l:List Val):(vals l).length = l.length:=by simp [vals]
theorem Af5 (l:List Val) (i:Nat):(vals l)[i]? = (l[i]?).map valA:=by simp [vals]
@[simp] theorem Ai1:vals [] = []:=rfl
theorem Aay (v:Val) (l:List Val):vals (v :: l) = valA v :: vals l:=rfl
theorem Alw (l r:List Val):vals (l ++ r) = vals l ++ vals r:=by simp [vals]
@[simp] theorem Apz (m:Mem):∀ l:List Val,fzvs m (vals l) = (vals l,m)
 | [] => rfl
 | v :: l => by simp [Aay,fzvs,Apz m l]
@[simp] theorem Ap0 (n:Nat):∀ l:List Val,AV.bels n (vals l) = true
 | [] => rfl
 | v :: l => by simp [Aay,AV.bels,Ap0 n l]
@[simp] theorem Aba:∀ l:List Val,okAll 2 (vals l) = true
 | [] => rfl
 | v :: l => by rw [Aay,Aak,Aba l]; simp
theorem Aeo (l:List Val):∀ y ∈ vals l,y.cells.length = 2 ∧ (if true then AV.agg y.cells = y else y.cells = [y]):=by
 intro y hy
 obtain ⟨p,_,rfl⟩:=List.mem_map.1 hy
 simp [valA]
@[simp] theorem Az6 (s:List UInt8):(byts s).length = s.length:=by simp [byts]
@[simp] theorem A24:byts [] = []:=rfl
@[simp] theorem Ar7 (m:Mem):∀ l:List UInt8,fzvs m (byts l) = (byts l,m)
 | [] => rfl
 | v :: l => by
  have:=Ar7 m l
  simp only [byts] at this
  simp [byts,fzvs,this]
@[simp] theorem Ar8 (n:Nat):∀ l:List UInt8,AV.bels n (byts l) = true
 | [] => rfl
 | v :: l => by
  have:=Ar8 n l
  simp only [byts] at this
  simp [byts,AV.bels,AV.bel,this]
@[simp] theorem Amy:∀ l:List UInt8,okAll 1 (byts l) = true
 | [] => rfl
 | v :: l => by
  have:=Amy l
  simp only [byts] at this
  simp [byts,Aak,this]
@[simp] theorem A4f (c:CeM):(ceA c).okc = true:=Eq.trans rfl rfl
@[simp] theorem Ar6 (c:CeM):(ceA c).cells = [int c.k,int c.n,.lst (vals c.a),.lst (byts c.s)]:=Eq.trans rfl rfl
@[simp] theorem A4h (c:CeM) (n:Nat):(ceA c).bel n = true:=by simp [ceA,AV.bel,AV.bels]
@[simp] theorem A4g (c:CeM) (m:Mem):fzv m (ceA c) = (ceA c,m):=by simp [ceA,fzv,fzs,fz1]
@[simp] theorem A2s (c:CeM) (x:AV):(rowA c x).okc = true:=Eq.trans rfl rfl
@[simp] theorem Ah7 (c:CeM) (x:AV):(rowA c x).cells = [int c.k,int c.n,x,.lst (byts c.s)]:=Eq.trans rfl rfl
theorem Ank (c:CeM) (x:AV):AV.agg (rowA c x).cells = rowA c x:=Eq.trans rfl rfl
def Has (t:Nat → Option Nat) (n k:Nat) (ag:Bool) (e:AV) (m:Mem) (x:AV) (ys:List AV):Prop :=
 (ys = [] ∧ x = e) ∨ (ys ≠ [] ∧ ∃ id v,x = .sl id 0 ys.length k ag none ∧ id < m.next ∧ t id = some n ∧ m.get id = some (.cells (flat ys) false v))
theorem Has.mono {t t':Nat → Option Nat} {n k:Nat} {ag:Bool} {e x:AV} {m m':Mem} {ys:List AV} (h:Has t n k ag e m x ys) (hn:m.next ≤ m'.next) (hk:∀ j,j < m.next → t j = some n → m'.get j = m.get j ∧ t' j = some n):Has t' n k ag e m' x ys:=by
 rcases h with h | ⟨h,id,v,rfl,h1,h2,h3⟩
 ·exact .inl h
 ·obtain ⟨a,b⟩:=hk id h1 h2
  exact .inr ⟨h,id,v,rfl,by omega,b,by rw [a]; exact h3⟩
def symE (i:Nat):List (List UInt8) → List (Value × AV × Nat)
 | [] => []
 | s :: l => (.string ⟨⟨s⟩⟩,int i,i) :: symE (i + 1) l
structure ArT (t:Nat → Option Nat) (A M:Nat) (cs ns:AV) (xs:List AV) (a:ArM) (m:Mem):Prop where
 lt:A < m.next
 ta:t A = some 0
 get:∃ v,m.get A = some (.cells [int a.room,cs,ns,.mp M] false v)
 ml:M < m.next
 tm:t M = some 3
 map:∃ v,m.map M = some ⟨symE 0 a.names,a.names.length,v⟩
 cells:Has t 1 4 true (.emp 0) m cs (List.zipWith rowA a.cells xs)
 names:Has t 2 1 false (.emp 0) m ns (a.names.map strA)
 len:xs.length = a.cells.length
 row:∀ (i:Nat) c x,a.cells[i]? = some c → xs[i]? = some x → Has t (4 + i) 2 true (.emp 1) m x (vals c.a)
 sane:1 ≤ a.room ∧ a.room ≤ 65536 ∧ (a.cells.length:Int) ≤ a.room ∧ a.names.length ≤ 65536
def Ar (X:Nat → Prop) (A:Nat) (a:ArM) (m:Mem):Prop:=∃ t M cs ns xs,ArT t A M cs ns xs a m ∧ ∀ j,t j ≠ none → X j ∧ j < m.next
def Up (X:Nat → Prop) (A:Nat) (a:ArM) (m m':Mem):Prop:=∃ X',Ar X' A a m' ∧ KpC X m m' ∧ ∀ j,X' j → X j ∨ m.next ≤ j
theorem ArT.kc {t:Nat → Option Nat} {A M:Nat} {cs ns:AV} {xs:List AV} {a:ArM} {m m':Mem} {Y:Nat → Prop} (h:ArT t A M cs ns xs a m) (k:KpC Y m m') (hY:∀ j n,j < m.next → t j = some n → ¬ Y j):ArT t A M cs ns xs a m':=by
 obtain ⟨lt,ta,⟨v,get⟩,ml,tm,⟨v2,map⟩,cells,names,len,row,sane⟩:=h
 have keep:∀ j n,j < m.next → t j = some n → m'.get j = m.get j ∧ t j = some n:=fun j n hj ht => ⟨k.get j hj (hY j n hj ht),ht⟩
 exact ⟨Nat.lt_of_lt_of_le lt k.next,ta,⟨v,by rw [(keep _ _ lt ta).1]; exact get⟩,Nat.lt_of_lt_of_le ml k.next,tm,⟨v2,by rw [(k.x M ml (hY _ _ ml tm)).2]; exact map⟩,cells.mono k.next fun j => keep j _,names.mono k.next fun j => keep j _,len,fun i c x hc hx => (row i c x hc hx).mono k.next fun j => keep j _,sane⟩
section
variable {X Y:Nat → Prop} {A:Nat} {a b:ArM} {m m1 m':Mem}
theorem Ar.kc (h:Ar X A a m) (k:KpC Y m m') (hY:∀ j,X j → Y j → m.next ≤ j):Ar X A a m':=by
 obtain ⟨t,M,cs,ns,xs,h,hx⟩:=h
 refine ⟨t,M,cs,ns,xs,h.kc k fun j n hj ht y => ?_,fun j hj => ⟨(hx j hj).1,Nat.lt_of_lt_of_le (hx j hj).2 k.next⟩⟩
 have:=hY j (hx j (by rw [ht]; simp)).1 y
 omega
theorem Ar.kp (h:Ar X A a m) (k:Kp m m'):Ar X A a m':=h.kc (Y:=fun _ => False) (.of (.of k)) fun _ _ h => h.elim
theorem Ar.mono (h:Ar X A a m) (k:∀ j,j < m.next → X j → Y j):Ar Y A a m:=by
 obtain ⟨t,M,cs,ns,xs,h,hx⟩:=h
 exact ⟨t,M,cs,ns,xs,h,fun j hj => ⟨k j (hx j hj).2 (hx j hj).1,(hx j hj).2⟩⟩
theorem Ar.lt (h:Ar X A a m):A < m.next:=by
 obtain ⟨_,_,_,_,_,h,_⟩:=h
 exact h.lt
theorem Ar.own (h:Ar X A a m):X A:=by
 obtain ⟨_,_,_,_,_,h,hx⟩:=h
 exact (hx A (by rw [h.ta]; simp)).1
theorem Ar.sane (h:Ar X A a m):1 ≤ a.room ∧ a.room ≤ 65536 ∧ (a.cells.length:Int) ≤ a.room ∧ a.names.length ≤ 65536:=by
 obtain ⟨_,_,_,_,_,h,_⟩:=h
 exact h.sane
theorem Up.refl (h:Ar X A a m):Up X A a m m:=⟨X,h,.refl _ _,fun _ h => .inl h⟩
theorem Up.kp (h:Ar X A a m) (k:Kp m m'):Up X A a m m':=⟨X,h.kp k,.of (.of k),fun _ h => .inl h⟩
theorem Up.after {X1:Nat → Prop} (k:KpC X m m1) (hx:∀ j,X1 j → X j ∨ m.next ≤ j) (h:Up X1 A a m1 m'):Up X A a m m':=by
 obtain ⟨X2,h1,h2,h3⟩:=h
 have hn:=k.next
 refine ⟨X2,h1,(KpC.cut ((k.mono fun j h => .inl h).trans (h2.mono hx))),fun j hj => ?_⟩
 rcases h3 j hj with h | h
 ·exact hx j h
 ·exact .inr (by omega)
end
theorem Apt {c:CeM} {x:AV}:∀ {l:List CeM} {xs:List AV} {i:Nat},l[i]? = some c → xs[i]? = some x → (List.zipWith rowA l xs)[i]? = some (rowA c x)
 | [],_,i,h,_ => by simp at h
 | _ :: _,[],i,_,h => by simp at h
 | a :: l,b :: xs,0,h,k => by simp at h k; subst h; subst k; rfl
 | a :: l,b :: xs,i + 1,h,k => by simpa using Apt (l:=l) (xs:=xs) (i:=i) (by simpa using h) (by simpa using k)
theorem Ahx:∀ (l:List CeM) (xs:List AV),okAll 4 (List.zipWith rowA l xs) = true
 | [],_ => rfl
 | _ :: _,[] => rfl
 | a :: l,b :: xs => by rw [List.zipWith_cons_cons,Aak,Ahx l xs]; simp
theorem ArT.at {t:Nat → Option Nat} {A M:Nat} {cs ns:AV} {xs:List AV} {a:ArM} {m:Mem} (h:ArT t A M cs ns xs a m) {i:Nat} {c:CeM} (hc:a.cells[i]? = some c) :
  ∃ C v x,cs = .sl C 0 a.cells.length 4 true none ∧ C < m.next ∧ t C = some 1 ∧ m.get C = some (.cells (flat (List.zipWith rowA a.cells xs)) false v) ∧ xs[i]? = some x ∧ (List.zipWith rowA a.cells xs)[i]? = some (rowA c x) ∧ Has t (4 + i) 2 true (.emp 1) m x (vals c.a):=by
 have hi:=(List.getElem?_eq_some_iff.1 hc).1
 obtain ⟨x,hx⟩:∃ x,xs[i]? = some x:=⟨_,List.getElem?_eq_getElem (by rw [h.len]; exact hi)⟩
 have hz:=Apt hc hx
 rcases h.cells with ⟨e,_⟩ | ⟨_,C,v,h1,h2,h3,h4⟩
 ·rw [e] at hz; simp at hz
 ·exact ⟨C,v,x,by rw [h1]; simp [h.len],h2,h3,h4,hx,hz,h.row i c x hc hx⟩
end Go.Proofs.YtkoekdfimpcofaaGreat
namespace Go.Proofs.YtkoekdfimpcofaaGreat
set_option maxRecDepth 4000
set_option maxRecDepth 4000
open Go.V
attribute [local simp] Nat.add_assoc
def isIn (n:Int):Bool:=decide (-1152921504606846976 ≤ n) && decide (n ≤ 1152921504606846975)
theorem q74 (n:Int):Gives Tryz.prog ca 94 [int n] (.sc (.bool (isIn n))):=by
 refine Aae Tryz.func94 rfl rfl rfl rfl (by simp) (by simp [Tryz.f94]) (by simp [Tryz.f94]) fun m => ?_
 simp [Tryz.f94,show ca.keepRes 94 = false from rfl]
 by_cases h:-1152921504606846976 ≤ n
 ·simp [h,isIn]
 ·simp [h,isIn]
def below (n k:Int):Bool:=decide (0 ≤ n) && decide (n < k)
theorem q75 (n k:Int):Gives Tryz.prog ca 73 [int n,int k] (.sc (.bool (below n k))):=by
 refine Aae Tryz.func73 rfl rfl rfl rfl (by simp) (by simp [Tryz.f73]) (by simp [Tryz.f73]) fun m => ?_
 simp [Tryz.f73,show ca.keepRes 73 = false from rfl]
 by_cases h:0 ≤ n
 ·simp [h,below]
 ·simp [h,below]
theorem Ahc {x y:Operand} {i j:Nat}:abin Tryz.prog .eql 23 x y (.ptr i j) (.sc (.pointer none)) = some (.sc (.bool false)):=by
 have:nilTest Tryz.prog 23 (.ptr i j) (.sc (.pointer none)) = some false:=by
  unfold nilTest
  rw [Tryz.underlying23]
 simp [abin,plain,this]
section
variable {X:Nat → Prop} {A:Nat} {a:ArM} {m:Mem}
theorem q34 (h:Ar X A a m):EH Tryz.prog ca (.func 32) [.ptr A 0] m (.sc (.bool false)) m:=by
 obtain ⟨t,M,cs,ns,xs,h,hx⟩:=h
 obtain ⟨v,hv⟩:=h.get
 have hs:=h.sane.1
 have hr:¬ a.room = 0:=by omega
 refine Aaw Tryz.func32 rfl rfl rfl rfl (args1:=[.ptr A 0]) (m1:=m) (by simp) (by simp) (by simp [Tryz.f32]) (by simp [Tryz.f32]) ?_
 simp [Tryz.f32,show ca.keepRes 32 = false from rfl,Ahc,hv,hr]
def goodM (a:ArM) (v:Val):Bool :=
 if v.1 = 1 then isIn v.2 else if v.1 = 2 then below v.2 2 else if v.1 = 3 then below v.2 128 else if v.1 = 4 then decide (v.2 = 0) else
 if v.1 = 5 then below v.2 a.names.length else if v.1 = 6 then below v.2 65536 else if v.1 = 7 then below v.2 a.cells.length else false
theorem Agz {t:Nat → Option Nat} {n k T e:Nat} {ag:Bool} {m m':Mem} {x:AV} {ys:List AV} {R:TypeId} (h:Has t n k ag (.emp 0) m x ys) (hT:Tryz.prog.underlying T = some (.slice e)):abuiltin Tryz.prog .len #[T] R [x] m' = some (int ys.length,m'):=by
 rcases h with ⟨rfl,rfl⟩ | ⟨_,id,v,rfl,_⟩
 ·exact Ae3 hT
 ·rw [Adp hT]
set_option maxRecDepth 20000 in
theorem q41 (h:Ar X A a m) (v:Val):EH Tryz.prog ca (.func 74) [.ptr A 0,valA v] m (.sc (.bool (goodM a v))) m:=by
 obtain ⟨t,M,cs,ns,xs,h,hx⟩:=h
 obtain ⟨w,hv⟩:=h.get
 have hA:=h.lt
 have n0:A ≠ m.next:=by omega
 have lc:=fun m' R => Agz (T:=60) (R:=R) (m':=m') h.cells Tryz.underlying60
 have ln:=fun m' R => Agz (T:=32) (R:=R) (m':=m') h.names Tryz.underlying32
 simp only [List.length_zipWith,h.len,Nat.min_self,List.length_map] at lc ln
 obtain ⟨k,n⟩:=v
 refine Aaw Tryz.func74 rfl rfl rfl rfl (args1:=[.ptr A 0,valA (k,n)]) (m1:=m) (by simp) (by simp) (by simp [Tryz.f74]) (by simp [Tryz.f74]) ?_
 simp only [Tryz.f74,show ca.keepRes 74 = false from rfl]
 unfold goodM
 by_cases k1:k = 1
 ·simp [k1,(q74 n).go]
 ·by_cases k2:k = 2
  ·simp [k2,(q75 n _).go]
  ·by_cases k3:k = 3
   ·simp [k3,(q75 n _).go]
   ·by_cases k4:k = 4
    ·simp [k4]
    ·by_cases k5:k = 5
     ·simp [k5]
      refine Aat (by kernel_rfl) (by kernel_rfl) ?_
      simp [hv,n0,ln,(q75 n _).go]
     ·by_cases k6:k = 6
      ·simp [k6,(q75 n _).go]
      ·by_cases k7:k = 7
       ·simp [k7]
        refine Aat (by kernel_rfl) (by kernel_rfl) ?_
        simp [hv,n0,lc,(q75 n _).go]
       ·simp [k1,k2,k3,k4,k5,k6,k7]
end
def Fresh (m m':Mem) (x:AV) (l:List Val):Prop:=(l = [] ∧ x = .emp 1) ∨ (l ≠ [] ∧ ∃ id v,x = .sl id 0 l.length 2 true none ∧ m.next ≤ id ∧ id < m'.next ∧ m'.get id = some (.cells (flat (vals l)) false v))
theorem Fresh.okc {m m':Mem} {x:AV} {l:List Val} (h:Fresh m m' x l):x.okc = true ∧ x.cells = [x]:=by
 rcases h with ⟨_,rfl⟩ | ⟨_,id,v,rfl,_⟩ <;> exact ⟨rfl,rfl⟩
theorem Fresh.keep {m m0 m' m2:Mem} {x:AV} {l:List Val} (h:Fresh m m' x l) (h0:m0.next ≤ m.next) (h1:m'.next ≤ m2.next) (k:∀ j,m.next ≤ j → j < m'.next → m2.get j = m'.get j):Fresh m0 m2 x l:=by
 rcases h with h | ⟨h,id,v,rfl,h2,h3,h4⟩
 ·exact .inl h
 ·exact .inr ⟨h,id,v,rfl,by omega,by omega,by rw [k id h2 h3]; exact h4⟩
def El (m:Mem) (x:AV) (l:List Val):Prop:=x = .lst (vals l) ∨ (l = [] ∧ x = .emp 1) ∨ (l ≠ [] ∧ ∃ id v f,x = .sl id 0 l.length 2 true none ∧ id < m.next ∧ m.get id = some (.cells (flat (vals l)) f v))
theorem El.elems {m:Mem} {x:AV} {l:List Val} (h:El m x l):elemsOf m x = some (vals l):=by
 rcases h with rfl | ⟨rfl,rfl⟩ | ⟨h,id,v,f,rfl,h1,h2⟩
 ·rfl
 ·rfl
 ·simp only [elemsOf,h2]
  have:=Adz (k:=2) (ag:=true) rfl (vals l) (Aeo l)
  rw [Aa0] at this
  rw [if_pos ⟨by rw [Aa5 (Aba l)]; simp,rfl⟩,List.drop_zero,this]
theorem El.kp {m m':Mem} {x:AV} {l:List Val} (h:El m x l) (k:Kp m m'):El m' x l:=by
 rcases h with rfl | ⟨rfl,rfl⟩ | ⟨h,id,v,f,rfl,h1,h2⟩
 ·exact .inl rfl
 ·exact .inr (.inl ⟨rfl,rfl⟩)
 ·exact .inr (.inr ⟨h,id,v,f,rfl,Nat.lt_of_lt_of_le h1 k.next,by rw [k.get id h1]; exact h2⟩)
theorem El.of {t:Nat → Option Nat} {n:Nat} {m:Mem} {x:AV} {l:List Val} (h:Has t n 2 true (.emp 1) m x (vals l)):El m x l:=by
 rcases h with ⟨h,rfl⟩ | ⟨h,id,v,rfl,h1,_,h2⟩
 ·exact .inr (.inl ⟨(by cases l with | nil => rfl | cons a l => cases h),rfl⟩)
 ·exact .inr (.inr ⟨fun e => h (by rw [e]; rfl),id,v,false,by rw [Aa0],h1,h2⟩)
theorem El.not_nil {m:Mem} {x:AV} {v:Val} {l:List Val} (h:El m x (v :: l)) {xo yo:Operand}:abin Tryz.prog .eql 46 xo yo x (.emp 0) = some (.sc (.bool false)):=by
 have:nilTest Tryz.prog 46 x (.emp 0) = some false ∧ plain x = none:=by
  rcases h with rfl | ⟨h,_⟩ | ⟨h,id,w,f,rfl,_⟩
  ·exact ⟨by simp [nilTest,Tryz.underlying46,Aay],rfl⟩
  ·cases h
  ·exact ⟨by simp [nilTest,Tryz.underlying46],rfl⟩
 simp [abin,this.1,this.2]
theorem A0s {m:Mem} {x:AV} {v:Val} {l:List Val} (h:El m x (v :: l)) (hb:l.length < 4096):EH Tryz.prog cf0 (.func 24) [x] m (.sl (m.next + 1) 0 (l.length + 1) 2 true none) ((m.new [] false).new (flat (vals (v :: l))) false):=by
 refine eh_of ?_
 refine Aah Tryz.func24 rfl rfl (by simp [Tryz.f24]) (by simp [Tryz.f24]) fun Q hQ => ?_
 simp only [Tryz.f24,show cf0.keepRes 24 = true from rfl,show cf0.keepArgs 24 = true from rfl] at hQ ⊢
 have k1:Kp m (m.new [] false):=.new _ _ _
 have hs:srcOf (m.new [] false) x = some (vals (v :: l)):=by
  have e:=(h.kp k1).elems
  rw [← e]
  rcases h with rfl | ⟨h,_⟩ | ⟨_,id,w,f,rfl,_⟩
  ·rfl
  ·cases h
  ·rfl
 have q:=Acl (P:=Tryz.prog) (T:=46) (k:=2) (ag:=true) (ag':=true) (id:=m.next) (ys:=vals (v :: l)) (ys':=vals (v :: l)) (m:=m.new [] false) (m':=m.new [] false) (v:=m.clock + 1) el46 (by simp [Aay]) (Aba _) (by simp) (by simp) (by simp; omega)
 simp [h.not_nil,abuildSlice,fillAt,zeros,hs,q]
 refine hQ _ _ _ ⟨.inr rfl,_,rfl,?_⟩
 simp [oneOf]
theorem Ajd {m m1:Mem} (h:Kp m m1):Kp m m1.skip:=by
 unfold Mem.skip
 exact (h.newr _ _).kill h.next
theorem q110 {m:Mem} {x:AV} {l:List Val} (h:El m x l) (hb:l.length ≤ 4096):wph Tryz.prog ca (.func 24) [x] m fun v m' => Kp m m' ∧ Fresh m m' v l:=by
 have he:=h.elems
 cases l with
 | nil =>
  have e:cloneL Tryz.prog 24 [x] m = some (.emp 1,m.skip):=by
   simp only [cloneL,he,Ai1]
  exact ⟨_,_,Abh rfl e,Ajd (.refl m),.inl ⟨rfl,rfl⟩⟩
 | cons v l =>
  have e:cloneL Tryz.prog 24 [x] m = some (.sl (m.next + 1) 0 (l.length + 1) 2 true none,(m.new [] false).new (flat (vals (v :: l))) false):=by
   simp only [cloneL,he,Aay]
   exact Acz (A0s h (by simp at hb; omega))
  exact ⟨_,_,Abh rfl e,by simp,.inr ⟨by simp,_,_,rfl,by omega,by simp,by simp; rfl⟩⟩
theorem Axa (s:List UInt8):∀ y ∈ byts s,y.cells.length = 1 ∧ (if false then AV.agg y.cells = y else y.cells = [y]):=by
 intro y hy
 obtain ⟨x,_,rfl⟩:=List.mem_map.1 hy
 simp
theorem q111 {m:Mem} (s:List UInt8) (hb:s.length < 2 ^ 21):EH Tryz.prog ca (.func 57) [.lst (byts s)] m (.lst (byts s)) m:=by
 refine Ae1 rfl (by simp) ?_
 intro x0 l0 e0
 cases s with
 | nil => cases e0
 | cons x s =>
 refine ⟨(m.new [] false).new (flat (byts (x :: s))) false,.inr ⟨1,false,m.next + 1,m.clock + 2,eh_of ?_,by simp,by omega,by simp,rfl,Axa _,Amy _⟩⟩
 refine Aah Tryz.func57 rfl rfl (by simp [Tryz.f57]) (by simp [Tryz.f57]) fun Q hQ => ?_
 simp only [Tryz.f57,show cf0.keepRes 57 = true from rfl,show cf0.keepArgs 57 = true from rfl] at hQ ⊢
 have e1:nilTest Tryz.prog 100 (.lst (byts (x :: s))) (.emp 0) = some false:=Acq (T:=100) Tryz.underlying100
 have e2:=Acl (m:=m.new [] false) (m':=m.new [] false) (ys:=byts (x :: s)) (ys':=byts (x :: s)) (id:=m.next) (v:=m.clock + 1) (ag':=false) el100 (by simp [byts]) (Amy _) (by simp [fzx]) (by simp) (by simp at hb ⊢; omega)
 simp [abin,plain,e1,abuildSlice,zeros,fillAt,abuiltin,srcOf,elemsOf,e2]
 refine hQ _ _ _ ⟨.inr rfl,_,rfl,?_⟩
 simp [oneOf]
theorem q64 {m:Mem} {c:CeM} {x0:AV} (h:El m x0 c.a) (hb:c.a.length ≤ 4096) (hs:c.s.length ≤ 4096):wph Tryz.prog ca (.func 35) [rowA c x0] m fun v m' => Kp m m' ∧ ∃ x,v = rowA c x ∧ Fresh m m' x c.a:=by
 refine Aah Tryz.func35 rfl rfl (by simp [Tryz.f35]) (by simp [Tryz.f35]) fun Q hQ => ?_
 simp only [Tryz.f35,show ca.keepRes 35 = true from rfl,show ca.keepArgs 35 = true from rfl] at hQ ⊢
 simp
 refine Aaq (by kernel_rfl) ?_
 simp [rowA]
 refine Aad (q110 (h.kp (by simp)) hb) ?_
 rintro v m2 ⟨k2,hf⟩
 have hn:=k2.next
 simp at hn
 have g1:m2.get m.next = some (.cells [int c.k,int c.n,x0,.lst (byts c.s)] false (m.clock + 1)):=by
  rw [k2.get m.next (by simp)]; simp
 have g2:m2.get (m.next + 1) = some (.cells [int 0,int 0,.emp 0,.emp 0] false (m.clock + 2)):=by
  rw [k2.get (m.next + 1) (by simp)]; simp
 have ok:=hf.okc
 simp [g1,(q111 c.s (by omega)).go,g2,ok]
 refine Aa2 (l:=[(2,4)]) (by kernel_rfl) (?_:List.all _ _ = true) ?_
 ·simp [metAtD,metOkD,rank,verKeptD,Region.wanted,Mem.ver,g1]
 simp [g1,g2,ok]
 refine hQ _ _ _ ?_
 rw [Aam]
 simp [aresult,oneOf,ok]
 have kk:Kp m m2:=(by simp:Kp m ((m.new [int c.k,int c.n,x0,AV.lst (byts c.s)] false).new [AV.sc (Value.int IntKind.i64 0),AV.sc (Value.int IntKind.i64 0),AV.emp 0,AV.emp 0] false)).trans k2
 refine ⟨kk,v,rfl,hf.keep (by simp) (by simp) fun j hj _ => ?_⟩
 simp at hj
 have a1:j ≠ m.next:=by omega
 have a2:j ≠ m.next + 1:=by omega
 simp [a1,a2]
def fi {α:Type} (p:α → Bool) (l:List α):Int:=match l.findIdx? p with | some i => (i:Int) | none => -1
theorem Ajq {α:Type} {p:α → Bool} {l:List α} {i:Nat} {x:α} (hx:l[i]? = some x) (h:p x = true) (hn:∀ j y,j < i → l[j]? = some y → p y = false):fi p l = (i:Int):=by
 obtain ⟨hi,e⟩:=List.getElem?_eq_some_iff.1 hx
 have:l.findIdx? p = some i:=by
  rw [List.findIdx?_eq_some_iff_getElem]
  refine ⟨hi,by rw [e]; exact h,fun j hj => ?_⟩
  rw [hn j _ hj (List.getElem?_eq_getElem (by omega))]
  simp
 rw [fi,this]
theorem Ajr {α:Type} {p:α → Bool} {l:List α} (hn:∀ j y,j < l.length → l[j]? = some y → p y = false):fi p l = -1:=by
 have:l.findIdx? p = none:=by
  rw [List.findIdx?_eq_none_iff]
  intro y hy
  obtain ⟨j,hj,e⟩:=List.mem_iff_getElem.1 hy
  rw [hn j y hj (by rw [List.getElem?_eq_getElem hj,e])]
 rw [fi,this]
theorem Aru {α:Type} (p:α → Bool) (l:List α):decide (0 ≤ fi p l) = l.any p:=by
 unfold fi
 cases h:l.findIdx? p with
 | none =>
  rw [List.findIdx?_eq_none_iff] at h
  have:l.any p = false:=List.any_eq_false.2 fun x hx => by simp [h x hx]
  simp [this]
 | some i =>
  rw [List.findIdx?_eq_some_iff_getElem] at h
  obtain ⟨hi,h1,_⟩:=h
  have:l.any p = true:=List.any_eq_true.2 ⟨_,List.getElem_mem hi,h1⟩
  simp [this]
section
variable {X:Nat → Prop} {A B:Nat} {a:ArM} {m:Mem}
theorem q161 (h:Ar X A a m) (hB:has m B [.ptr A 0]) (v:Val):EH Tryz.prog ca (.func 108) [valA v,.ptr B 0] m (.sc (.bool (!goodM a v))) m:=by
 obtain ⟨bl,bv,be⟩:=hB
 have bn:B ≠ m.next:=by omega
 have q:=q41 (h.kp (m':=m.new [int v.1,int v.2] false) (by simp)) v
 refine Aaw Tryz.func108 rfl rfl rfl rfl (args1:=[valA v,.ptr B 0]) (m1:=m) (by simp [fzvs]) (by simp) (by simp [Tryz.f108]) (by simp [Tryz.f108]) ?_
 simp [Tryz.f108,show ca.keepRes 108 = false from rfl,be,bn,q.go,Aab]
theorem Abp {l:List Val} {i:Nat} {v:Val} (h:l[i]? = some v):aindexAddr Tryz.prog 46 (.lst (vals l)) (int i) = some ((valA v).cptr 0):=Aag Tryz.underlying46 Abb (by rw [Af5,h]; rfl) (by simp)
theorem q179 (h:Ar X A a m) (hB:has m B [.ptr A 0]) (l:List Val) (hl:l.length < 2 ^ 21):EH Tryz.prog ca (.func 121) [.lst (vals l),.fn (.func 108) [] [.ptr B 0]] m (int (fi (fun v => !goodM a v) l)) m:=by
 refine Aaw Tryz.func121 rfl rfl rfl rfl (args1:=[.lst (vals l),.fn (.func 108) [] [.ptr B 0]]) (m1:=m) (by simp [fzvs]) (by simp) (by simp [Tryz.f121]) (by simp [Tryz.f121]) ?_
 simp [Tryz.f121,show ca.keepRes 121 = false from rfl]
 refine Aas 8 l.length (fun i s m' => m' = m ∧ ∀ j v,j < i → l[j]? = some v → (!goodM a v) = false) (by simp) (by omega) ⟨rfl,fun _ _ h => by omega⟩ ?_
 rintro i s m' hi e8 ⟨rfl,hno⟩ hs hw Q' hn he
 have e0:s.at 0 = .lst (vals l):=(hs 0 (by kernel_rfl)).trans (by simp)
 have e1:s.at 1 = .fn (.func 108) [] [.ptr B 0]:=(hs 1 (by kernel_rfl)).trans (by simp)
 have e7:s.at 7 = int l.length:=(hs 7 (by kernel_rfl)).trans (by simp)
 clear hs
 simp [e8,e7]
 refine Aal (fun h => ?_) fun h => ?_
 ·have hlt:i < l.length:=by simpa using h
  obtain ⟨v,hv⟩:∃ v,l[i]? = some v:=⟨_,List.getElem?_eq_getElem hlt⟩
  simp [e8,e0,e1,Abp hv,(q161 ‹Ar X A a m'› hB v).go,Aab]
  cases hc:goodM a v with
  | false =>
   simp
   refine he _ _ _ (by simp) ?_
   simp
   exact (Ajq hv (by simp [hc]) hno).symm
  | true =>
   simp [e8,hw]
   refine hn _ _ hlt (by simp) ⟨rfl,fun j v' hj hvj => ?_⟩
   rcases Nat.lt_or_ge j i with h2 | h2
   ·exact hno j v' h2 hvj
   ·obtain rfl:j = i:=by omega
    rw [hv] at hvj
    cases hvj
    simp [hc]
 ·have hge:i = l.length:=by have:=of_decide_eq_false h; omega
  subst hge
  simp
  refine he _ _ _ (by simp) ?_
  simp
  exact (Ajr hno).symm
theorem q162 (h:Ar X A a m) (hB:has m B [.ptr A 0]) (l:List Val) (hl:l.length < 2 ^ 21):EH Tryz.prog ca (.func 109) [.lst (vals l),.fn (.func 108) [] [.ptr B 0]] m (.sc (.bool (l.any fun v => !goodM a v))) m:=by
 refine Aaw Tryz.func109 rfl rfl rfl rfl (args1:=[.lst (vals l),.fn (.func 108) [] [.ptr B 0]]) (m1:=m) (by simp [fzvs]) (by simp) (by simp [Tryz.f109]) (by simp [Tryz.f109]) ?_
 simp [Tryz.f109,show ca.keepRes 109 = false from rfl,(q179 h hB l hl).go]
 exact Aru _ _
end
def hi7 (b:UInt8):Bool:=decide (128 ≤ b.toNat)
theorem q164 (b:UInt8):Gives Tryz.prog ca 111 [.sc (.int .u8 b.toNat)] (.sc (.bool (hi7 b))):=by
 refine Aae Tryz.func111 rfl rfl rfl rfl (by simp) (by simp [Tryz.f111]) (by simp [Tryz.f111]) fun m => ?_
 simp [Tryz.f111,show ca.keepRes 111 = false from rfl,hi7]
 omega
theorem Az7 {l:List UInt8} {i:Nat} {v:UInt8} (h:l[i]? = some v):aindexAddr Tryz.prog 100 (.lst (byts l)) (int i) = some ((AV.sc (.int .u8 v.toNat)).cptr 0):=Aag Tryz.underlying100 Axq (by simp [byts,h]) (by simp)
theorem q180 (l:List UInt8) (hl:l.length < 2 ^ 21):Gives Tryz.prog ca 122 [.lst (byts l),.fn (.func 111) [] []] (int (fi hi7 l)):=by
 refine Aae Tryz.func122 rfl rfl rfl rfl (by simp [fzvs]) (by simp [Tryz.f122]) (by simp [Tryz.f122]) fun m => ?_
 simp [Tryz.f122,show ca.keepRes 122 = false from rfl]
 refine Aas 8 l.length (fun i s m' => m' = m ∧ ∀ j v,j < i → l[j]? = some v → hi7 v = false) (by simp) (by omega) ⟨rfl,fun _ _ h => by omega⟩ ?_
 rintro i s m' hi e8 ⟨rfl,hno⟩ hs hw Q' hn he
 have e0:s.at 0 = .lst (byts l):=(hs 0 (by kernel_rfl)).trans (by simp)
 have e1:s.at 1 = .fn (.func 111) [] []:=(hs 1 (by kernel_rfl)).trans (by simp)
 have e7:s.at 7 = int l.length:=(hs 7 (by kernel_rfl)).trans (by simp)
 clear hs
 simp [e8,e7]
 refine Aal (fun h => ?_) fun h => ?_
 ·have hlt:i < l.length:=by simpa using h
  obtain ⟨v,hv⟩:∃ v,l[i]? = some v:=⟨_,List.getElem?_eq_getElem hlt⟩
  simp [e8,e0,e1,Az7 hv,(q164 v).go]
  cases hc:hi7 v with
  | true =>
   simp
   refine he _ _ _ (by simp) ?_
   simp
   exact (Ajq hv hc hno).symm
  | false =>
   simp [e8,hw]
   refine hn _ _ hlt (by simp) ⟨rfl,fun j v' hj hvj => ?_⟩
   rcases Nat.lt_or_ge j i with h2 | h2
   ·exact hno j v' h2 hvj
   ·obtain rfl:j = i:=by omega
    rw [hv] at hvj
    cases hvj
    exact hc
 ·have hge:i = l.length:=by have:=of_decide_eq_false h; omega
  subst hge
  simp
  refine he _ _ _ (by simp) ?_
  simp
  exact (Ajr hno).symm
theorem q163 (l:List UInt8) (hl:l.length < 2 ^ 21):Gives Tryz.prog ca 110 [.lst (byts l),.fn (.func 111) [] []] (.sc (.bool (l.any hi7))):=by
 refine Aae Tryz.func110 rfl rfl rfl rfl (by simp [fzvs]) (by simp [Tryz.f110]) (by simp [Tryz.f110]) fun m => ?_
 simp [Tryz.f110,show ca.keepRes 110 = false from rfl,(q180 l hl).go]
 exact Aru _ _
def kindM (c:CeM):Bool :=
 if c.k = 1 then decide (c.n = 0) && (decide (c.s.length = 0) && decide (c.a.length = 2)) else
 if c.k = 2 then decide (c.n = 0) && decide (c.s.length = 0) else
 if c.k = 3 then decide (c.n = 0) && decide (c.a.length = 0) else
 if c.k = 4 then decide (c.n = 0) && (decide (c.s.length = 0) && decide (c.a.length = 1)) else
 if c.k = 5 then decide (c.s.length = 0) && (decide (c.a.length ≤ 64) && below c.n 1024) else
 decide (5 < c.k) && (decide (c.k ≤ 11) && (decide (c.s.length + c.a.length = 0) && (decide (0 ≤ c.n) && decide (c.n ≤ 4611686018427387904))))
def fitsM (a:ArM) (c:CeM):Bool:=!decide (4096 < c.a.length) && (!decide (4096 < c.s.length) && (!(c.a.any fun v => !goodM a v) && (!c.s.any hi7 && kindM c)))
theorem q107 {X:Nat → Prop} {A:Nat} {a:ArM} {m:Mem} (h:Ar X A a m) (c:CeM) (ha:c.a.length < 2 ^ 21) (hs:c.s.length < 2 ^ 21):EH Tryz.prog ca (.func 92) [.ptr A 0,ceA c] m (.sc (.bool (fitsM a c))) m:=by
 refine Aaw Tryz.func92 rfl rfl rfl rfl (args1:=[.ptr A 0,ceA c]) (m1:=m) (by simp [fzvs]) (by simp) (by simp [Tryz.f92]) (by simp [Tryz.f92]) ?_
 simp only [Tryz.f92,show ca.keepRes 92 = false from rfl]
 have q1:=q162 (h.kp (m':=(m.new [.ptr A 0] false).new (ceA c).cells false) (by simp)) (B:=m.next) ⟨by simp,m.clock + 1,by simp⟩ c.a ha
 simp at q1
 by_cases h1:4096 < c.a.length
 ·have h1':(4096:Int) < c.a.length:=by omega
  simp [h1',fitsM,h1,undefV,undef]
 have h1':¬ (4096:Int) < c.a.length:=by omega
 by_cases h2:4096 < c.s.length
 ·have h2':(4096:Int) < c.s.length:=by omega
  simp [h1',h2',fitsM,h1,h2]
 have h2':¬ (4096:Int) < c.s.length:=by omega
 have hfit:fitsM a c = (!(c.a.any fun v => !goodM a v) && (!c.s.any hi7 && kindM c)):=by simp [fitsM,h1,h2]
 rw [hfit]
 generalize (c.a.any fun v => !goodM a v) = b1 at q1 ⊢
 have q2:=q163 c.s hs
 generalize c.s.any hi7 = b2 at q2 ⊢
 cases b1 with
 | true =>
  simp [h1',h2',q1.go,undefV,undef]
 | false =>
 cases b2 with
 | true =>
  simp [h1',h2',q1.go,q2.go]
 | false =>
 have hk:∀ n:Nat,((n:Int) = 0) = (n = 0) ∧ ((n:Int) = 1) = (n = 1) ∧ ((n:Int) = 2) = (n = 2) ∧ ((n:Int) ≤ 64) = (n ≤ 64):=fun n => by
  refine ⟨propext ?_,propext ?_,propext ?_,propext ?_⟩ <;> omega
 have wl:IntKind.i64.wrap ((c.s.length:Int) + c.a.length) = (c.s.length:Int) + c.a.length:=IntWalk.i64_in _ (by omega)
 have wz:((c.s.length:Int) + c.a.length = 0) = (c.s.length + c.a.length = 0):=propext (by omega)
 simp [h1',h2',q1.go,q2.go]
 unfold kindM
 by_cases k1:c.k = 1
 ·by_cases e1:c.n = 0
  ·by_cases e2:c.s.length = 0
   ·simp [k1,e1,e2,hk]
   ·simp [k1,e1,e2,hk,undefV,undef]
  ·simp [k1,e1,undefV,undef]
 by_cases k2:c.k = 2
 ·by_cases e1:c.n = 0
  ·simp [k2,e1,hk]
  ·simp [k2,e1,undefV,undef]
 by_cases k3:c.k = 3
 ·by_cases e1:c.n = 0
  ·simp [k3,e1,hk]
  ·simp [k3,e1,undefV,undef]
 by_cases k4:c.k = 4
 ·by_cases e1:c.n = 0
  ·by_cases e2:c.s.length = 0
   ·simp [k4,e1,e2,hk]
   ·simp [k4,e1,e2,hk,undefV,undef]
  ·simp [k4,e1,undefV,undef]
 by_cases k5:c.k = 5
 ·by_cases e1:c.s.length = 0
  ·by_cases e2:c.a.length ≤ 64
   ·simp [k5,e1,e2,hk,(q75 c.n 1024).go]
   ·simp [k5,e1,e2,hk,undefV,undef]
  ·simp [k5,e1,hk,undefV,undef]
 by_cases e1:5 < c.k
 ·by_cases e2:c.k ≤ 11
  ·by_cases e3:c.s.length + c.a.length = 0
   ·by_cases e4:0 ≤ c.n
    ·simp [k1,k2,k3,k4,k5,e1,e2,wl,wz,e3,e4]
    ·simp [k1,k2,k3,k4,k5,e1,e2,wl,wz,e3,e4,undefV,undef]
   ·simp [k1,k2,k3,k4,k5,e1,e2,wl,wz,undefV,undef]
    by_cases z1:c.s = []
    ·have z2:¬ c.a = []:=fun z => e3 (by simp [z1,z])
     simp [z1,z2,undefV,undef]
    ·simp [z1,undefV,undef]
  ·simp [k1,k2,k3,k4,k5,e1,e2,undefV,undef]
 ·simp [k1,k2,k3,k4,k5,e1,undefV,undef]
def ixM (a:ArM) (v:Val):Option Nat:=if v.1 = 7 ∧ goodM a v = true then some v.2.toNat else none
theorem Ac7 {a:ArM} {v:Val} {i:Nat} (h:ixM a v = some i):v = (7,(i:Int)) ∧ ∃ c,a.cells[i]? = some c:=by
 unfold ixM at h
 split at h
 ·rename_i hc
  obtain ⟨k,n⟩:=v
  obtain ⟨h7,hg⟩:=hc
  simp only at h7
  subst h7
  have hb:below n a.cells.length = true:=by simpa [goodM] using hg
  simp [below] at hb
  simp only [Option.some.injEq] at h
  have e:n = (i:Int):=by omega
  exact ⟨by rw [e],_,List.getElem?_eq_getElem (by omega)⟩
 ·cases h
def blk:AV → Nat | .sl id _ _ _ _ _ => id | _ => 0
def cellP (a:ArM) (cs:AV) (v:Val):AV:=match ixM a v with | some i => .ptr (blk cs) (i * 4) | none => .sc (.pointer none)
section
variable {X:Nat → Prop} {A M:Nat} {a:ArM} {m:Mem} {t:Nat → Option Nat} {cs ns:AV} {xs:List AV}
theorem q77 (h:ArT t A M cs ns xs a m) (hx:∀ j,t j ≠ none → X j ∧ j < m.next) (v:Val):EH Tryz.prog ca (.func 72) [.ptr A 0,valA v] m (cellP a cs v) m:=by
 have hAr:Ar X A a m:=⟨t,M,cs,ns,xs,h,hx⟩
 have hA:=h.lt
 have k1:Kp m (m.new [int v.1,int v.2] false):=by simp
 have q1:=q34 (hAr.kp k1)
 have q2:=q41 (hAr.kp k1) v
 obtain ⟨w,hv⟩:=h.get
 have hbel:(cellP a cs v).bel m.next = true:=by
  unfold cellP
  cases hi:ixM a v with
  | none => rfl
  | some i =>
   obtain ⟨_,c,hc⟩:=Ac7 hi
   obtain ⟨C,_,x,rfl,hC,_⟩:=h.at hc
   simp [blk,AV.bel,hC]
 refine Aaw Tryz.func72 rfl rfl rfl rfl (args1:=[.ptr A 0,valA v]) (m1:=m) (by simp [fzvs]) hbel (by simp [Tryz.f72]) (by simp [Tryz.f72]) ?_
 simp only [Tryz.f72,show ca.keepRes 72 = false from rfl]
 simp [q1.go]
 by_cases h7:v.1 = 7
 rotate_left
 ·have:cellP a cs v = .sc (.pointer none):=by simp [cellP,ixM,h7]
  rw [this]
  simp [h7,undefV,undef]
 obtain ⟨k,n⟩:=v
 simp only at h7
 subst h7
 have q2':EH Tryz.prog ca (.func 74) [.ptr A 0,.agg [int 7,int n]] (m.new [int 7,int n] false) (.sc (.bool (goodM a (7,n)))) (m.new [int 7,int n] false):=q2
 simp
 cases hg:goodM a (7,n) with
 | false =>
  have:cellP a cs (7,n) = .sc (.pointer none):=by simp [cellP,ixM,hg]
  rw [this]
  rw [hg] at q2'
  simp [q2'.go]
 | true =>
  rw [hg] at q2'
  obtain ⟨i,hi⟩:∃ i,ixM a (7,n) = some i:=⟨n.toNat,by simp [ixM,hg]⟩
  obtain ⟨hvi,c,hc⟩:=Ac7 hi
  obtain ⟨C,vc,x,rfl,hC,htC,hgC,hxi,hzi,hrow⟩:=h.at hc
  have hil:=(List.getElem?_eq_some_iff.1 hc).1
  have hix:=Aax (P:=Tryz.prog) (q:=.i64) (ag:=true) (c:=none) (id:=C) (off:=0) (len:=a.cells.length) (i:=i) Tryz.underlying60 Ai2 hil
  have hcp:cellP a (.sl C 0 a.cells.length 4 true none) (7,n) = .ptr C (i * 4):=by simp [cellP,hi,blk]
  rw [hcp]
  have nA:A ≠ m.next:=by omega
  have hv2:n = (i:Int):=by cases hvi; rfl
  simp [q2'.go]
  refine Aat (by kernel_rfl) (by kernel_rfl) ?_
  simp [hv,nA,hv2,hix]
end
theorem Fresh.fz {m0 m m':Mem} {x:AV} {l:List Val} (h:Fresh m m' x l) (h0:m0.next ≤ m.next) (k:Kp m0 m'):∃ m2,fz1 m' x = (.lst (vals l),m2) ∧ Kp m0 m2:=by
 rcases h with ⟨rfl,rfl⟩ | ⟨h,id,v,rfl,h1,h2,h3⟩
 ·exact ⟨m',rfl,k⟩
 ·have e:=Adl (k:=2) (ag:=true) (cap:=none) (ys:=vals l) rfl h3 (Aeo l) (Aba l)
  rw [Aa0] at e
  exact ⟨_,e,k.mark (by omega) _ _⟩
def zeroC:CeM:=⟨0,0,[],[]⟩
def getM (a:ArM) (v:Val):CeM × Int:=match ixM a v with | some i => (a.cells.getD i zeroC,0) | none => (zeroC,110)
theorem eq135 {x y:Operand} {i j:Nat}:abin Tryz.prog .eql 151 x y (.ptr i j) (.sc (.pointer none)) = some (.sc (.bool false)):=by
 have:nilTest Tryz.prog 151 (.ptr i j) (.sc (.pointer none)) = some false:=by
  unfold nilTest
  rw [Tryz.underlying151]
 simp [abin,plain,this]
theorem Aqz {x y:Operand}:abin Tryz.prog .eql 151 x y (.sc (.pointer none)) (.sc (.pointer none)) = some (.sc (.bool true)):=by kernel_rfl
theorem Az8:abuild Tryz.prog 102 [] = some (.agg [int 0,int 0,.emp 0,.emp 0]):=by simp [abuild,placesOf,fillAt]
section
variable {X:Nat → Prop} {A:Nat} {a:ArM} {m:Mem}
def Small (a:ArM):Prop:=∀ c ∈ a.cells,c.a.length ≤ 4096 ∧ c.s.length ≤ 4096
theorem q57 (hA:Ar X A a m) (hs:Small a) (v:Val):EH Tryz.prog ca (.func 71) [.ptr A 0,valA v] m (.tup [ceA (getM a v).1,int (getM a v).2]) m:=by
 refine Aaw Tryz.func71 rfl rfl rfl rfl (args1:=[.ptr A 0,valA v]) (m1:=m) (by simp [fzvs]) (by simp [AV.bel,AV.bels]) (by simp [Tryz.f71]) (by simp [Tryz.f71]) ?_
 have k1:Kp m ((m.new [int v.1,int v.2] false).new [int 0,int 0,.emp 0,.emp 0] false):=by simp
 have q1:=q34 (hA.kp k1)
 obtain ⟨t,M,cs,ns,xs,h,hx⟩:=hA.kp k1
 have q2:=q77 h hx v
 simp only [Tryz.f71,show ca.keepRes 71 = false from rfl]
 simp [q1.go,Aab,q2.go]
 cases hi:ixM a v with
 | none =>
  have e1:cellP a cs v = .sc (.pointer none):=by simp [cellP,hi]
  simp [e1,Aqz,Az8,getM,hi,ceA,zeroC]
 | some i =>
  obtain ⟨rfl,c,hc⟩:=Ac7 hi
  obtain ⟨C,vc,x,rfl,hC,htC,hgC,hxi,hzi,hrow⟩:=h.at hc
  have e1:cellP a (.sl C 0 a.cells.length 4 true none) (7,(i:Int)) = .ptr C (i * 4):=by simp [cellP,hi,blk]
  obtain ⟨f1,f2⟩:=Aeb (Ahx a.cells xs) hzi
  have hsm:=hs c (List.mem_of_getElem? hc)
  simp [e1,eq135,hgC,f1,f2]
  have hget:getM a (7,(i:Int)) = (c,0):=by simp [getM,hi,List.getD_eq_getElem?_getD,hc]
  rw [hget]
  refine Aad (q64 (c:=c) (x0:=x) (.of hrow) hsm.1 hsm.2) ?_
  rintro _ m2 ⟨k2,x2,rfl,hf⟩
  have ok:=hf.okc
  have g2:m2.get (m.next + 1) = some (.cells [int 0,int 0,.emp 0,.emp 0] false (m.clock + 2)):=by rw [k2.get (m.next + 1) (by simp)]; simp
  simp [rowA,g2]
  obtain ⟨m3,z1,z2⟩:=(hf.keep (m2:=m2.set (m.next + 1) [int c.k,int c.n,x2,.lst (byts c.s)]) (m0:=m) (by simp) (by simp) fun j hj _ => by
   simp at hj
   have:j ≠ m.next + 1:=by omega
   simp [this]).fz (m0:=m) (Nat.le_refl _) (((k1.trans k2).set (by omega) _))
  simp [fzs,z1,z2,ceA]
end
theorem q20 {m:Mem} {n:Int} (h1:1 ≤ n) (h2:n ≤ 65536):EH Tryz.prog ca (.func 4) [int n] m (.tup [.ptr (m.next + 1) 0,int 0]) (m.newMap.new [int n,.emp 0,.emp 0,.mp m.next] false):=by
 have a1:¬ n < 1:=by omega
 have a2:¬ 65536 < n:=by omega
 refine eh_of ?_
 refine Aah Tryz.func4 rfl rfl (by simp [Tryz.f4]) (by simp [Tryz.f4]) fun Q hQ => ?_
 simp only [Tryz.f4,show ca.keepRes 4 = false from rfl,show ca.keepArgs 4 = false from rfl] at hQ ⊢
 simp [a1,a2,Abv Aqa,abuild,placesOf,fillAt]
 refine hQ _ _ _ ?_
 simp
theorem A17 {m:Mem} {n:Int} (h1:1 ≤ n) (h2:n ≤ 65536):Ar (fun j => m.next ≤ j) (m.next + 1) ⟨n,[],[]⟩ (m.newMap.new [int n,.emp 0,.emp 0,.mp m.next] false):=by
 refine ⟨fun j => if j = m.next + 1 then some 0 else if j = m.next then some 3 else none,m.next,.emp 0,.emp 0,[],⟨by simp,by simp,⟨_,by simp; rfl⟩,by simp,by simp,⟨_,by simp [symE]; rfl⟩,.inl ⟨rfl,rfl⟩,.inl ⟨rfl,rfl⟩,rfl,fun i c x h => by simp at h,h1,h2,by simp; omega,by simp⟩,fun j hj => ?_⟩
 dsimp only at hj
 split at hj
 ·rename_i e; subst e; simp
 ·split at hj
  ·rename_i e; subst e; simp
  ·exact absurd rfl hj
def pushM (a:ArM) (c:CeM):ArM:=⟨a.room,a.cells ++ [c],a.names⟩
def allocM (a:ArM) (c:CeM):ArM × Val × Int:=if fitsM a c = true then (if a.room ≤ a.cells.length then (a,(0,0),111) else (pushM a c,(7,(a.cells.length:Int)),0)) else (a,(0,0),110)
theorem Aiw {c:CeM} {x:AV}:∀ (l:List CeM) (xs:List AV),xs.length = l.length → List.zipWith rowA (l ++ [c]) (xs ++ [x]) = List.zipWith rowA l xs ++ [rowA c x]:=by
 intro l xs h
 rw [List.zipWith_append h.symm]
 rfl
theorem A0c {X:Nat → Prop} {A M N:Nat} {a:ArM} {c:CeM} {m m':Mem} {t:Nat → Option Nat} {cs ns x:AV} {xs:List AV} (h:ArT t A M cs ns xs a m) (hx:∀ j,t j ≠ none → X j ∧ j < m.next)
  (k:KpC (fun j => j = A ∨ owns cs j) m m') (hN:m.next ≤ N) (hN2:N < m'.next) (hgN:∃ v,m'.get N = some (.cells (flat (List.zipWith rowA a.cells xs ++ [rowA c x])) false v)) (hgA:∃ v,m'.get A = some (.cells [int a.room,.sl N 0 (a.cells.length + 1) 4 true none,ns,.mp M] false v))
  (hf:Fresh m m' x c.a) (hxN:¬ owns x N) (hr:(a.cells.length:Int) < a.room):Up X A (pushM a c) m m':=by
 obtain ⟨lt,ta,⟨v,get⟩,ml,tm,⟨v2,map⟩,cells,names,len,row,sane⟩:=h
 have hC:∀ j,owns cs j → t j = some 1:=by
  intro j hj
  rcases cells with ⟨_,rfl⟩ | ⟨_,C,w,rfl,_,h2,_⟩
  ·exact hj.elim
  ·have:C = j:=hj
   rw [← this]; exact h2
 have tc:∀ j n,j < m.next → t j = some n → n ≠ 0 → n ≠ 1 → m'.get j = m.get j ∧ (m'.loop j = m.loop j ∧ m'.map j = m.map j):=by
  intro j n hj ht h0 h1
  have hn:¬ (j = A ∨ owns cs j):=by
   rintro (rfl | h)
   ·rw [ta] at ht; cases ht; exact h0 rfl
   ·rw [hC j h] at ht; cases ht; exact h1 rfl
  exact ⟨k.get j hj hn,k.x j hj hn⟩
 have kn:=k.next
 have told:∀ j,j < m.next → (if j < m.next then t j else if j < m'.next then (if j = N then some 1 else some (4 + a.cells.length)) else none) = t j:=fun j hj => if_pos hj
 refine ⟨fun j => X j ∨ m.next ≤ j,⟨fun j => if j < m.next then t j else if j < m'.next then (if j = N then some 1 else some (4 + a.cells.length)) else none,M,.sl N 0 (a.cells.length + 1) 4 true none,ns,xs ++ [x],⟨by omega,(told A lt).trans ta,hgA,by omega,(told M ml).trans tm,⟨v2,by rw [(tc M 3 ml tm (by omega) (by omega)).2.2]; exact map⟩,?_,?_,by simp [pushM,len],?_,?_⟩,?_⟩,?_,fun j h => h⟩
 ·obtain ⟨w,hw⟩:=hgN
  refine .inr ⟨by simp [pushM,Aiw _ _ len],N,w,by simp [pushM,Aiw _ _ len,len],hN2,?_,by simp only [pushM,Aiw _ _ len]; exact hw⟩
  have:¬ N < m.next:=by omega
  simp [this,hN2]
 ·refine names.mono kn fun j hj ht => ⟨(tc j 2 hj ht (by omega) (by omega)).1,(told j hj).trans ht⟩
 ·intro i c' x' hc' hx'
  simp only [pushM] at hc'
  rcases Nat.lt_or_ge i a.cells.length with hi | hi
  ·rw [List.getElem?_append_left hi] at hc'
   rw [List.getElem?_append_left (by omega)] at hx'
   refine (row i c' x' hc' hx').mono kn fun j hj ht => ⟨(tc j (4 + i) hj ht (by omega) (by omega)).1,(told j hj).trans ht⟩
  ·have hlen:=(List.getElem?_eq_some_iff.1 hc').1
   simp at hlen
   obtain rfl:i = a.cells.length:=by omega
   rw [List.getElem?_append_right (by omega)] at hc'
   rw [List.getElem?_append_right (by omega),len] at hx'
   simp at hc' hx'
   subst hc'
   subst hx'
   rcases hf with ⟨e1,e2⟩ | ⟨h,id,w,rfl,h1,h2,h3⟩
   ·exact .inl ⟨by rw [e1]; rfl,e2⟩
   ·refine .inr ⟨by cases hca:c.a with | nil => exact absurd hca h | cons y l => simp [Aay],id,w,by simp,h2,?_,h3⟩
    have a1:¬ id < m.next:=by omega
    have a2:id ≠ N:=fun e => hxN e
    simp [a1,h2,a2]
 ·obtain ⟨s1,s2,s3,s4⟩:=sane
  exact ⟨s1,s2,by simp [pushM]; omega,s4⟩
 ·intro j hj
  dsimp only at hj
  by_cases h1:j < m.next
  ·rw [if_pos h1] at hj
   exact ⟨.inl (hx j hj).1,by omega⟩
  ·rw [if_neg h1] at hj
   by_cases h2:j < m'.next
   ·exact ⟨.inr (by omega),h2⟩
   ·rw [if_neg h2] at hj
    exact absurd rfl hj
 ·refine k.mono fun j hj => ?_
  rcases hj with rfl | hj
  ·exact (hx j (by rw [ta]; simp)).1
  ·exact (hx j (by rw [hC j hj]; simp)).1
theorem Has.acc {t:Nat → Option Nat} {n k:Nat} {ag:Bool} {m:Mem} {x:AV} {ys:List AV} (h:Has t n k ag (.emp 0) m x ys):Acc Mem.empty m k ag ys x:=by
 rcases h with h | ⟨h,id,v,h1,h2,_,h3⟩
 ·exact .inl h
 ·exact .inr ⟨h,id,v,h1,Nat.zero_le _,h2,h3⟩
theorem Aa8:abuild Tryz.prog 53 [] = some (.agg [int 0,int 0]):=by simp [abuild,placesOf,fillAt]
theorem Age (x y:Int):abuild Tryz.prog 53 [(0,int x),(1,int y)] = some (valA (x,y)):=by simp [abuild,placesOf,fillAt,valA]
theorem q60 {X:Nat → Prop} {A:Nat} {a:ArM} {m:Mem} (hA:Ar X A a m) (c:CeM) (ha:c.a.length < 2 ^ 21) (hs:c.s.length < 2 ^ 21):wph Tryz.prog ca (.func 69) [.ptr A 0,ceA c] m fun v m' => v = .tup [valA (allocM a c).2.1,int (allocM a c).2.2] ∧ Up X A (allocM a c).1 m m':=by
 refine Aah Tryz.func69 rfl rfl (by simp [Tryz.f69]) (by simp [Tryz.f69]) fun Q hQ => ?_
 simp only [Tryz.f69,show ca.keepRes 69 = false from rfl,show ca.keepArgs 69 = false from rfl] at hQ ⊢
 have k1:Kp m ((m.new (ceA c).cells false).new [int 0,int 0] false):=by simp
 have q1:=q34 (hA.kp k1)
 have q2:=q107 (hA.kp k1) c ha hs
 have hA1:=hA.kp k1
 simp only [Ar6] at k1 q1 q2 hA1
 have ecA:AV.agg [int c.k,int c.n,.lst (vals c.a),.lst (byts c.s)] = ceA c:=rfl
 simp [q1.go,ecA,q2.go]
 unfold allocM at hQ
 cases hfit:fitsM a c with
 | false =>
  rw [hfit] at hQ
  simp [Aa8]
  refine hQ _ _ _ ?_
  rw [Aam]
  simp [aresult,oneOf,valA]
  exact Up.kp hA (by simp)
 | true =>
  rw [hfit] at hQ
  obtain ⟨t,M,cs,ns,xs,h0,hx0⟩:=id hA
  have h:=h0.kc (Y:=fun _ => False) (.of (.of k1)) fun _ _ _ _ h => h
  have hx:∀ j,t j ≠ none → X j ∧ j < m.next:=hx0
  have ownC:∀ j,owns cs j → j < m.next ∧ t j = some 1:=by
   intro j hj
   rcases h0.cells with ⟨_,rfl⟩ | ⟨_,C,u,rfl,hc1,hc2,_⟩
   ·exact hj.elim
   ·have e:C = j:=hj
    subst e
    exact ⟨hc1,hc2⟩
  obtain ⟨w,hv⟩:=h.get
  have hAlt:=h.lt
  have lc:=fun m' R => Agz (T:=60) (R:=R) (m':=m') h.cells Tryz.underlying60
  simp only [List.length_zipWith,h.len,Nat.min_self] at lc
  simp
  refine Aat (by kernel_rfl) (by kernel_rfl) ?_
  simp [hv,lc]
  refine Aal (fun hr => ?_) fun hr => ?_
  ·have hr':a.room ≤ a.cells.length:=by simpa using hr
   simp [Aa8]
   refine hQ _ _ _ ?_
   rw [Aam]
   simp [aresult,oneOf,valA,hr']
   exact Up.kp hA (by simp)
  ·have hr':¬ a.room ≤ a.cells.length:=by simpa using hr
   rw [if_pos rfl,if_neg hr'] at hQ
   have hcs:c.a.length ≤ 4096 ∧ c.s.length ≤ 4096:=by
    have:=hfit
    simp [fitsM] at this
    omega
   have nA:A ≠ m.next:=by have:=hA.lt; omega
   have nA1:A ≠ m.next + 1:=by have:=hA.lt; omega
   simp
   refine Aaq (by kernel_rfl) ?_
   simp [hv]
   refine Aad (q64 (c:=c) (x0:=.lst (vals c.a)) (.inl rfl) hcs.1 hcs.2) ?_
   rintro _ m2 ⟨k2,x2,rfl,hf⟩
   have hv2:=(k2.get A (by have:=hA.lt; simp; omega)).trans hv
   have n2:=k2.next
   simp at n2
   have hsrc:=Ad8 (m:=m2.new (rowA c x2).cells false) (id:=m2.next) (c:=some 1) (k:=4) (ag:=true) (x:=rowA c x2) (w:=m2.clock + 1) (f:=false) rfl (by simp) (by simp) (Ank c x2)
   obtain ⟨m3,p1,p2,⟨w3,p3⟩,p4,p5⟩:=Ae5 (T:=60) ((h.cells.acc.kp k2).kp (.new m2 (rowA c x2).cells false)) (Ahx _ _) el60 (zs:=[rowA c x2]) (zs':=[rowA c x2]) (List.cons_ne_nil _ _) (by simp [Aak,Abu]) (by simp) (.refl _) (by have:=h.sane; simp [h.len]; omega)
   simp only [Ah7] at hsrc p1 p2 p3 p4 p5
   have nA2:A < m2.next:=by have:=hA.lt; omega
   have nA3:A ≠ m2.next:=by omega
   have wl:IntKind.i64.wrap ((a.cells.length:Int) + 1 - 1) = (a.cells.length:Int):=by rw [IntWalk.i64_in _ (by have:=h.sane; omega)]; omega
   have nown:¬ owns cs A:=fun hh => by
    have:=(ownC A hh).2
    rw [h.ta] at this
    cases this
   have hb3:m3.get (m.next + 1) = some (.cells [int 0,int 0] false (m.clock + 2)):=by
    rw [p4 (m.next + 1) (by simp; omega) (fun hh => by have:=(ownC _ hh).1; omega)]
    have:m.next + 1 ≠ m2.next:=by omega
    simp [this]
    rw [k2.get (m.next + 1) (by simp)]
    simp
   have hv3:m3.get A = some (.cells [int a.room,cs,ns,.mp M] false w):=by
    rw [p4 A (by simp; omega) nown]
    have:A ≠ m2.next:=by omega
    simp [this]
    exact hv2
   simp [rowA,abuildSlice,zeros,fillAt]
   simp [rowA] at hsrc p1
   simp [abuiltin,hsrc,p1,hv3]
   refine Aa2 (l:=[(4,6),(4,7)]) (by kernel_rfl) (?_:List.all _ _ = true) ?_
   ·simp [metAtD,metOkD,rank,verKeptD,Region.wanted,Mem.ver,hv,hv2,nA,nA1,nA3]
   have nA4:=Ne.symm nA1
   simp [hv3,Adp Tryz.underlying60,h.len,wl,Age,hb3,nA1,nA4]
   refine hQ _ _ _ ?_
   rw [Aam]
   have wl2:IntKind.i64.wrap (a.cells.length:Int) = (a.cells.length:Int):=IntWalk.i64_in _ (by have:=h.sane; omega)
   simp [aresult,oneOf,wl2]
   refine ⟨rfl,?_⟩
   have p5n:m2.next + 1 < m3.next:=by rw [p2]; simp
   have kc:KpC (fun j => j = A ∨ owns cs j) m ((m3.set A [int a.room,AV.sl (m2.next + 1) 0 (a.cells.length + 1) 4 true none,ns,AV.mp M]).set (m.next + 1) [int 7,int a.cells.length]):=by
    refine ⟨by simp; omega,fun j hj hn => ?_,fun j hj hn => ?_⟩
    ·have a1:j ≠ A:=fun e => hn (.inl e)
     have a2:¬ owns cs j:=fun e => hn (.inr e)
     have a3:j ≠ m.next + 1:=by omega
     have a4:j ≠ m2.next:=by omega
     have a5:j ≠ m.next:=by omega
     have:=p4 j (by simp; omega) a2
     simp [a4] at this
     simp [a1,a3,this]
     rw [k2.get j (by simp; omega)]
     simp [a3,a5]
    ·have b1:=p5 j (by simp; omega)
     have b2:=k2.x j (by simp; omega)
     simp at b1 b2
     simp
     exact ⟨b1.1.trans b2.1,b1.2.trans b2.2⟩
   refine A0c (N:=m2.next + 1) (x:=x2) h0 hx0 kc (by omega) (by simp; omega) ⟨w3,?_⟩ ⟨m3.clock + 1,?_⟩ (hf.keep (by simp) (by simp; omega) fun j hj1 hj2 => ?_) (fun hh => ?_) (by omega)
   ·have b1:m2.next + 1 ≠ A:=by omega
    have b2:m2.next ≠ m.next:=by omega
    simp [b1,b2]
    simpa using p3
   ·simp [nA1]
   ·simp at hj1
    have b1:j ≠ A:=by have:=hA.lt; omega
    have b2:j ≠ m.next + 1:=by omega
    have b3:j ≠ m2.next:=by omega
    have:=p4 j (by simp; omega) (fun hh => by have:=(ownC _ hh).1; omega)
    simp [b3] at this
    simp [b1,b2,this]
   ·rcases hf with ⟨_,rfl⟩ | ⟨_,id,u,rfl,_,hid,_⟩
    ·exact hh
    ·have e:id = m2.next + 1:=hh
     omega
def nameM (a:ArM) (s:List UInt8):ArM:=⟨a.room,a.cells,a.names ++ [s]⟩
def symM (a:ArM) (s:List UInt8):ArM × Val × Int :=
 if Sym s = true then (match a.names.findIdx? fun x => decide (x = s) with
  | some i => (a,(5,(i:Int)),0)
  | none => if 4096 ≤ a.names.length then (a,(0,0),111) else (nameM a s,(5,(a.names.length:Int)),0)) else (a,(0,0),110)
theorem Agm:∀ (l:List (List UInt8)) (i:Nat),(symE i l).map (·.1) = l.map fun s => Value.string ⟨⟨s⟩⟩
 | [],_ => rfl
 | s :: l,i => by simp [symE,Agm l (i + 1)]
theorem Ani:∀ (l:List (List UInt8)) (i k:Nat) (s:List UInt8),l[k]? = some s → (symE i l)[k]? = some (.string ⟨⟨s⟩⟩,int ((i + k:Nat):Int),i + k)
 | [],_,k,_,h => by simp at h
 | x :: l,i,0,s,h => by simp at h; subst h; simp [symE]
 | x :: l,i,k + 1,s,h => by
  have:=Ani l (i + 1) k s (by simpa using h)
  simp [symE,this]
  omega
theorem Akb:∀ (l:List (List UInt8)) (i:Nat) (s:List UInt8),symE i (l ++ [s]) = symE i l ++ [(.string ⟨⟨s⟩⟩,int ((i + l.length:Nat):Int),i + l.length)]
 | [],i,s => by simp [symE]
 | x :: l,i,s => by
  simp [symE,Akb l (i + 1) s]
  omega
theorem A0d {X:Nat → Prop} {A M N:Nat} {a:ArM} {s:List UInt8} {m m':Mem} {t:Nat → Option Nat} {cs ns:AV} {xs:List AV} (h:ArT t A M cs ns xs a m) (hx:∀ j,t j ≠ none → X j ∧ j < m.next)
  (k:KpC (fun j => j = A ∨ j = M ∨ owns ns j) m m') (hN:m.next ≤ N) (hN2:N < m'.next) (hgN:∃ v,m'.get N = some (.cells (flat ((a.names ++ [s]).map strA)) false v)) (hgA:∃ v,m'.get A = some (.cells [int a.room,cs,.sl N 0 (a.names.length + 1) 1 false none,.mp M] false v))
  (hM:∃ v,m'.map M = some ⟨symE 0 (a.names ++ [s]),a.names.length + 1,v⟩) (hl:a.names.length < 4096):Up X A (nameM a s) m m':=by
 obtain ⟨lt,ta,⟨v,get⟩,ml,tm,⟨v2,map⟩,cells,names,len,row,sane⟩:=h
 have hC:∀ j,owns ns j → t j = some 2:=by
  intro j hj
  rcases names with ⟨_,rfl⟩ | ⟨_,C,w,rfl,_,h2,_⟩
  ·exact hj.elim
  ·have:C = j:=hj
   rw [← this]; exact h2
 have tc:∀ j n,j < m.next → t j = some n → n ≠ 0 → n ≠ 2 → n ≠ 3 → m'.get j = m.get j:=by
  intro j n hj ht h0 h1 h3
  refine k.get j hj ?_
  rintro (rfl | rfl | h)
  ·rw [ta] at ht; cases ht; exact h0 rfl
  ·rw [tm] at ht; cases ht; exact h3 rfl
  ·rw [hC j h] at ht; cases ht; exact h1 rfl
 have kn:=k.next
 have told:∀ j,j < m.next → (if j < m.next then t j else if j = N then some 2 else none) = t j:=fun j hj => if_pos hj
 refine ⟨fun j => X j ∨ m.next ≤ j,⟨fun j => if j < m.next then t j else if j = N then some 2 else none,M,cs,.sl N 0 (a.names.length + 1) 1 false none,xs,⟨by omega,(told A lt).trans ta,hgA,by omega,(told M ml).trans tm,by simpa [nameM] using hM,?_,?_,len,?_,?_⟩,?_⟩,?_,fun j h => h⟩
 ·exact cells.mono kn fun j hj ht => ⟨tc j 1 hj ht (by omega) (by omega) (by omega),(told j hj).trans ht⟩
 ·obtain ⟨w,hw⟩:=hgN
  have:¬ N < m.next:=by omega
  exact .inr ⟨by simp [nameM],N,w,by simp [nameM],hN2,by simp [this],hw⟩
 ·intro i c x hc hx'
  exact (row i c x hc hx').mono kn fun j hj ht => ⟨tc j (4 + i) hj ht (by omega) (by omega) (by omega),(told j hj).trans ht⟩
 ·obtain ⟨s1,s2,s3,s4⟩:=sane
  exact ⟨s1,s2,s3,by simp [nameM]; omega⟩
 ·intro j hj
  dsimp only at hj
  by_cases h1:j < m.next
  ·rw [if_pos h1] at hj
   exact ⟨.inl (hx j hj).1,by omega⟩
  ·rw [if_neg h1] at hj
   by_cases h2:j = N
   ·subst h2; exact ⟨.inr hN,hN2⟩
   ·rw [if_neg h2] at hj
    exact absurd rfl hj
 ·refine k.mono fun j hj => ?_
  rcases hj with rfl | rfl | hj
  ·exact (hx j (by rw [ta]; simp)).1
  ·exact (hx j (by rw [tm]; simp)).1
  ·exact (hx j (by rw [hC j hj]; simp)).1
theorem Agv (l:List (List UInt8)):okAll 1 (l.map strA) = true:=by
 induction l with
 | nil => rfl
 | cons s l ih => rw [List.map_cons,Aak,ih]; simp
theorem q59 {X:Nat → Prop} {A:Nat} {a:ArM} {m:Mem} (hA:Ar X A a m) (s:List UInt8) (hs:s.length < 2 ^ 62):wph Tryz.prog ca (.func 68) [.ptr A 0,strA s] m fun v m' => v = .tup [valA (symM a s).2.1,int (symM a s).2.2] ∧ Up X A (symM a s).1 m m':=by
 refine Aah Tryz.func68 rfl rfl (by simp [Tryz.f68]) (by simp [Tryz.f68]) fun Q hQ => ?_
 simp only [Tryz.f68,show ca.keepRes 68 = false from rfl,show ca.keepArgs 68 = false from rfl] at hQ ⊢
 have k1:Kp m (m.new [int 0,int 0] false):=by simp
 have q1:=q34 (hA.kp k1)
 have q2:=An7 (g12 s hs)
 simp [q1.go,q2.go]
 unfold symM at hQ
 cases hsy:Sym s with
 | false =>
  rw [hsy] at hQ
  simp [Aa8]
  refine hQ _ _ _ ?_
  rw [Aam]
  simp [aresult,oneOf,valA]
  exact Up.kp hA (by simp)
 | true =>
  rw [hsy,if_pos rfl] at hQ
  obtain ⟨t,M,cs,ns,xs,h0,hx0⟩:=id hA
  have h:=h0.kc (Y:=fun _ => False) (.of (.of k1)) fun _ _ _ _ h => h
  obtain ⟨w,hv⟩:=h.get
  obtain ⟨w2,hmap⟩:=h.map
  have hl:=Aeh (P:=Tryz.prog) (ok:=true) Aqa Tryz.underlying9 hmap (Agm a.names 0) s
  have nA:A ≠ m.next:=by have:=hA.lt; omega
  have hAlt:=hA.lt
  simp [hv]
  cases hf:a.names.findIdx? fun x => decide (x = s) with
  | some i =>
   rw [hf] at hl hQ
   have hi:i < a.names.length:=by
    rw [List.findIdx?_eq_some_iff_getElem] at hf
    exact hf.1
   have hg:=Ani a.names 0 i _ (List.getElem?_eq_getElem hi)
   simp only [hg,Nat.zero_add] at hl
   have wi:IntKind.i64.wrap (i:Int) = (i:Int):=IntWalk.i64_in _ (by have:=h.sane; omega)
   simp [hl,Age,wi]
   refine hQ _ _ _ ?_
   rw [Aam]
   simp [aresult,oneOf]
   exact ⟨rfl,Up.kp hA (by simp)⟩
  | none =>
   rw [hf] at hl hQ
   simp only [Aka,Option.map_some] at hl
   have ln:=fun m' R => Agz (T:=32) (R:=R) (m':=m') h.names Tryz.underlying32
   simp only [List.length_map] at ln
   simp [hl,hv,ln]
   refine Aal (fun hr => ?_) fun hr => ?_
   ·have hr':4096 ≤ a.names.length:=by have:=of_decide_eq_true hr; omega
    dsimp only at hQ
    rw [if_pos hr'] at hQ
    simp [Aa8]
    refine hQ _ _ _ ?_
    rw [Aam]
    simp [aresult,oneOf]
    exact ⟨rfl,Up.kp hA (by simp)⟩
   ·have hr':¬ 4096 ≤ a.names.length:=by have:=of_decide_eq_false hr; omega
    dsimp only at hQ
    rw [if_neg hr'] at hQ
    have hu:=Ad4 (P:=Tryz.prog) Aqa Tryz.underlying9 hmap (Agm a.names 0) hf (int a.names.length)
    have ownC:∀ j,owns ns j → j < m.next ∧ t j = some 2:=by
     intro j hj
     rcases h0.names with ⟨_,rfl⟩ | ⟨_,C,u,rfl,hc1,hc2,_⟩
     ·exact hj.elim
     ·have e:C = j:=hj
      subst e
      exact ⟨hc1,hc2⟩
    have nM:M ≠ A:=fun e => by have q:=h0.tm; rw [e,h0.ta] at q; cases q
    have nown:∀ j,owns ns j → ¬ j = M:=fun j hj e => by have q:=(ownC j hj).2; rw [e,h0.tm] at q; cases q
    have nownA:¬ owns ns A:=fun hh => by have q:=(ownC A hh).2; rw [h0.ta] at q; cases q
    obtain ⟨M1,hM1⟩:∃ M1,M1 = (m.new [int 0,int 0] false).setMap M (symE 0 a.names ++ [(.string ⟨⟨s⟩⟩,int a.names.length,a.names.length)]) (a.names.length + 1):=⟨_,rfl⟩
    have g1:∀ j,M1.get j = (m.new [int 0,int 0] false).get j:=fun j => by rw [hM1]; simp
    have n1:M1.next = m.next + 1:=by rw [hM1]; simp
    have kM:KpC (fun j => j = M) m M1:=⟨by omega,fun j hj _ => by rw [g1,Mem.get_new,if_neg (by omega)],fun j hj hn => by rw [hM1]; simp [show j ≠ M from hn,Ne.symm (show j ≠ M from hn)]⟩
    have hvA:M1.get A = some (.cells [int a.room,cs,ns,.mp M] false w):=by rw [g1]; exact hv
    have hsrc:=Ad8 (m:=M1.new (strA s).cells false) (id:=M1.next) (c:=some 1) (k:=1) (ag:=false) (x:=strA s) (w:=M1.clock + 1) (f:=false) rfl (by simp) (by simp) (by simp)
    obtain ⟨m3,p1,p2,⟨w3,p3⟩,p4,p5⟩:=Ae5 (T:=32) ((Abk h0.names.acc kM nown).kp (.new M1 (strA s).cells false)) (Agv _) el32 (zs:=[strA s]) (zs':=[strA s]) (List.cons_ne_nil _ _) (by simp [Aak,Abu]) (by simp) (.refl _) (by simp; omega)
    have hv3:m3.get A = some (.cells [int a.room,cs,ns,.mp M] false w):=by
     rw [p4 A (by simp; omega) nownA]
     have:A ≠ M1.next:=by omega
     simp [this]
     exact hvA
    simp [hv,hu,abuildSlice,zeros,fillAt]
    rw [← hM1]
    simp [n1] at hsrc p1
    have wl:IntKind.i64.wrap (a.names.length:Int) = (a.names.length:Int):=IntWalk.i64_in _ (by omega)
    have nA4:m.next ≠ A:=Ne.symm nA
    have hb3:m3.get m.next = some (.cells [int 0,int 0] false (m.clock + 1)):=by
     rw [p4 m.next (by simp; omega) (fun hh => by have:=(ownC _ hh).1; omega)]
     have:m.next ≠ M1.next:=by omega
     simp [this,g1]
    simp [abuiltin,hsrc,p1,hv3,Age,wl,hb3,nA4,nA]
    refine hQ _ _ _ ?_
    rw [Aam]
    simp [aresult,oneOf,wl]
    refine ⟨rfl,?_⟩
    simp at p2 p3
    refine A0d (N:=m.next + 2) h0 hx0 (⟨by simp; omega,fun j hj hn => ?_,fun j hj hn => ?_⟩:KpC (fun j => j = A ∨ j = M ∨ owns ns j) m _) (by omega) (by simp; omega) ⟨w3,?_⟩ ⟨m3.clock + 1,?_⟩ ?_ (by omega)
    ·have a1:j ≠ A:=fun e => hn (.inl e)
     have a2:¬ owns ns j:=fun e => hn (.inr (.inr e))
     have a3:j ≠ m.next:=by omega
     have:=p4 j (by simp; omega) a2
     simp [show j ≠ M1.next by omega,g1,a3] at this
     simp [a1,a3,this]
    ·have a2:j ≠ M:=fun e => hn (.inr (.inl e))
     have b1:=p5 j (by simp; omega)
     have b2:=kM.x j hj a2
     simp at b1 b2
     simp
     exact ⟨b1.1.trans b2.1,b1.2.trans b2.2⟩
    ·have b1:m.next + 2 ≠ A:=by omega
     simp [b1]
     rw [n1] at p3
     simpa using p3
    ·simp [nA]
    ·have b1:=p5 M (by have:=h0.ml; simp; omega)
     simp at b1
     refine ⟨?_,?_⟩
     rotate_left
     ·simp [b1.2]
      rw [hM1]
      simp [Akb]
      rfl
theorem A0b {J:Nat → Mem → Prop} {lo db:Nat} (l:List Dat) (hl:l.length < 2 ^ 21)
  (hJ:∀ k x m,l[k]? = some x → J (k + 1) m → wph Tryz.prog ca (.yield lo) [int k,enc x] m fun v m' => v = .sc (.bool true) ∧ J k m')
  (hb:∀ k m,J k m → has m db [.lst (encs l)]) (m:Mem) (h:J l.length m):wph Tryz.prog ca (.func 93) [.yl lo,.ptr db 0] m fun v m' => v = .tup [] ∧ J 0 m':=by
 refine Aah Tryz.func93 rfl rfl (by simp [Tryz.f93]) (by simp [Tryz.f93]) fun Q hQ => ?_
 simp only [Tryz.f93,show ca.keepRes 93 = false from rfl,show ca.keepArgs 93 = false from rfl] at hQ ⊢
 obtain ⟨bl,bv,be⟩:=hb _ _ h
 have w0:IntKind.i64.wrap ((l.length:Int) - 1) = (l.length:Int) - 1:=IntWalk.i64_in _ (by omega)
 simp [be,w0]
 refine Acw (fun k s m' => k ≤ l.length ∧ s.at 3 = int ((k:Int) - 1) ∧ s.at 0 = .yl lo ∧ s.at 1 = .ptr db 0 ∧ J k m') l.length ⟨Nat.le_refl _,by simp,by simp,by simp,h⟩ ?_
 rintro k s m' ⟨hk,e3,e0,e1,hJk⟩ Q' hn he
 obtain ⟨bl,bv,be⟩:=hb _ _ hJk
 simp [e3]
 cases k with
 | zero =>
  simp
  refine he _ _ _ (by simp) ?_
  simp
  exact hQ _ _ _ (by rw [Aii (.inl rfl)]; exact ⟨rfl,hJk⟩)
 | succ k =>
  obtain ⟨x,hx⟩:∃ x,l[k]? = some x:=⟨_,List.getElem?_eq_getElem (by omega)⟩
  have hx':(encs l)[k]? = some (enc x):=by rw [Acu,hx]; rfl
  have e3':s.at 3 = int (k:Int):=by rw [e3]; congr 3; omega
  have ek:((k:Int) + 1 - 1) = (k:Int):=by omega
  have hix:=Aag (P:=Tryz.prog) (q:=.i64) Tryz.underlying31 Abq hx' (Aav x)
  have h0:(0:Int) ≤ k:=by omega
  have w1:IntKind.i64.wrap ((k:Int) - 1) = (k:Int) - 1:=IntWalk.i64_in _ (by omega)
  have h1:(1:Int) ≤ (k:Int) + 1:=by omega
  simp [e0,e1,e3',be,hix,ek,h1]
  refine Aad (hJ k x m' hx hJk) ?_
  rintro v m2 ⟨rfl,hJ2⟩
  simp [e3',w1]
  refine hn k _ _ (by omega) ⟨by omega,by simp,by simp [e0],by simp [e1],hJ2⟩
end Go.Proofs.YtkoekdfimpcofaaGreat
namespace Go.V
variable {P:Program}
theorem Ag7 {q:IntKind} {k:Int}:∀ (ks:List Int) (i:Nat),Instr.findNow (.int q) (.int .i64 k) (ks.map fun x => ⟨.int .i64 x,undef,0⟩) i = some ((ks.findIdx? fun x => decide (x = k)).map fun j => (j + i,undef))
 | [],i => rfl
 | x :: ks,i => by
  simp only [List.map_cons,Instr.findNow,List.findIdx?_cons]
  have h:Instr.sameNow (.int q) (.int .i64 k) (.int .i64 x) = some (decide (x = k)):=by
   show some _ = _
   congr 1
   rw [Bool.eq_iff_iff]
   simp only [decide_eq_true_eq]
   constructor
   ·intro h; first | exact (by simpa using h:k = x).symm | exact (by simpa using h)
   ·intro h; subst h; simp
  rw [h]
  by_cases e:x = k
  ·simp [e]
  ·simp only [e,decide_false,Ag7 ks (i + 1)]
   cases ks.findIdx? fun x => decide (x = k) with
   | none => simp
   | some j => simp; omega
theorem Alq {T:TypeId} {q:IntKind} (hT:P.underlying T = some (.int q)) (k:Int) (ks:List Int):afind P T (.int .i64 k) (ks.map fun x => .int .i64 x) = some (ks.findIdx? fun x => decide (x = k)):=by
 have e:(ks.map fun x => Value.int .i64 x).map (fun x => (⟨x,undef,0⟩:MapEntry)) = ks.map fun x => ⟨.int .i64 x,undef,0⟩:=by rw [List.map_map]; rfl
 unfold afind
 rw [hT]
 dsimp only
 rw [e,Ag7]
 cases ks.findIdx? fun x => decide (x = k) <;> simp
theorem Aoa {T:TypeId} {q:IntKind} (hT:P.underlying T = some (.int q)) (e:Bool) (k:Int):akey P T e (.sc (.int .i64 k)) = some (.int .i64 k):=by
 have h:pureRun P (Instr.checkKey e 10000 T (.int .i64 k)) = some ():=by
  rw [show (10000:Nat) = 9999 + 1 from rfl]
  unfold Instr.checkKey
  rw [Aaf,Aaj hT]
  rfl
 unfold akey
 simp [plain,h]
theorem Aei {t kt et:TypeId} {q:IntKind} (h:tmap P t = some (kt,et)) (hk:P.underlying kt = some (.int q)) {m:Mem} {id:Nat} {M:AMap} (hM:m.map id = some M) {ks:List Int} (hs:M.es.map (·.1) = ks.map fun x => .int .i64 x) (k:Int) (ok:Bool) :
  alookup P t (.mp id) (.sc (.int .i64 k)) ok m = (match ks.findIdx? fun x => decide (x = k) with
   | some i => (match M.es[i]? with | some (_,v,_) => some (if ok then .tup [v,.sc (.bool true)] else v) | Option.none => Option.none)
   | Option.none => (tzero P et).map fun z => if ok then .tup [z,.sc (.bool false)] else z):=by
 unfold alookup amapOf
 simp only [h,hM,Option.map_some,Aoa hk,hs,Alq hk]
 cases ks.findIdx? fun x => decide (x = k) <;> rfl
theorem Aan {t kt et:TypeId} {q:IntKind} (h:tmap P t = some (kt,et)) (hk:P.underlying kt = some (.int q)) {m:Mem} {id:Nat} {M:AMap} (hM:m.map id = some M) {ks:List Int} (hs:M.es.map (·.1) = ks.map fun x => .int .i64 x) {k:Int} (hn:(ks.findIdx? fun x => decide (x = k)) = none) (v:AV) :
  amapUpdate P t (.mp id) (.sc (.int .i64 k)) v m = some (m.setMap id (M.es ++ [(.int .i64 k,v,M.ck)]) (M.ck + 1)):=by
 unfold amapUpdate
 simp only [h,hM,Aoa hk,hs,Alq hk,hn]
end Go.V
namespace Go.Proofs.YtkoekdfimpcofaaGreat
set_option maxRecDepth 4000
set_option maxRecDepth 4000
set_option maxRecDepth 4000
open Go.V
attribute [local simp] Nat.add_assoc
mutual
def makeM:Dat → ArM → ArM × Val × Int
 | .mk K N S _ L T,a =>
  if K = 1 ∨ K = 2 ∨ K = 3 then (a,(K,N),0) else if K = 5 then symM a S else if K = 4 then allocM a ⟨3,0,[],S⟩ else
  if K = 8 then (if (vecM L a).2.2 ≠ 0 then ((vecM L a).1,(0,0),(vecM L a).2.2) else allocM (vecM L a).1 ⟨2,0,(vecM L a).2.1,[]⟩) else
  if (lstM L (if K = 7 then tailM T a else (a,(4,0),0))).2.2 ≠ 0 then ((lstM L (if K = 7 then tailM T a else (a,(4,0),0))).1,(0,0),(lstM L (if K = 7 then tailM T a else (a,(4,0),0))).2.2) else lstM L (if K = 7 then tailM T a else (a,(4,0),0))
def vecM:List Dat → ArM → ArM × List Val × Int
 | [],a => (a,[],0)
 | d :: l,a => if (makeM d a).2.2 ≠ 0 then ((makeM d a).1,[],(makeM d a).2.2) else ((vecM l (makeM d a).1).1,(makeM d a).2.1 :: (vecM l (makeM d a).1).2.1,(vecM l (makeM d a).1).2.2)
def tailM:List Dat → ArM → ArM × Val × Int
 | [],a => (a,(4,0),0)
 | d :: _,a => makeM d a
def lstM:List Dat → ArM × Val × Int → ArM × Val × Int
 | [],r => r
 | d :: l,r => if (lstM l r).2.2 ≠ 0 then lstM l r else if (makeM d (lstM l r).1).2.2 ≠ 0 then ((makeM d (lstM l r).1).1,(lstM l r).2.1,(makeM d (lstM l r).1).2.2) else allocM (makeM d (lstM l r).1).1 ⟨1,0,[(makeM d (lstM l r).1).2.1,(lstM l r).2.1],[]⟩
end
theorem Ai0:∀ (l r:List Dat) (a:ArM),(vecM l a).2.2 = 0 → vecM (l ++ r) a = ((vecM r (vecM l a).1).1,(vecM l a).2.1 ++ (vecM r (vecM l a).1).2.1,(vecM r (vecM l a).1).2.2)
 | [],r,a,_ => by simp [vecM]
 | d :: l,r,a,h => by
  rw [vecM] at h
  split at h
  ·rename_i h1; exact absurd h h1
  ·rename_i h1
   have:=Ai0 l r (makeM d a).1 h
   simp [vecM,h1,this]
theorem Ar.cut {X:Nat → Prop} {A:Nat} {a:ArM} {m:Mem} (h:Ar X A a m):Ar (fun j => X j ∧ j < m.next) A a m:=h.mono fun j hj hx => ⟨hx,hj⟩
theorem Up.less {X:Nat → Prop} {A:Nat} {a:ArM} {m m':Mem} (h:Up (fun j => X j ∧ j < m.next) A a m m'):Up X A a m m':=by
 obtain ⟨X',h1,h2,h3⟩:=h
 exact ⟨X',h1,h2.mono fun j h => h.1,fun j hj => (h3 j hj).imp (fun h => h.1) id⟩
theorem Up.out {X:Nat → Prop} {A:Nat} {a:ArM} {m m':Mem} (h:Up X A a m m'):∃ X',Ar X' A a m' ∧ KpC X m m' ∧ ∀ j,X' j → (X j ∨ m.next ≤ j) ∧ j < m'.next:=by
 obtain ⟨X',h1,h2,h3⟩:=h
 exact ⟨_,h1.cut,h2,fun j hj => ⟨h3 j hj.1,hj.2⟩⟩
theorem Azu {m0 m:Mem} {A:Nat} {k:Int} {l:List Val} {x:AV} (h:Acc m0 m 2 true (vals l) x):∃ m',fzvs m [.ptr A 0,.agg [int k,int 0,x,.emp 0]] = ([.ptr A 0,ceA ⟨k,0,l,[]⟩],m') ∧ KpC (owns x) m m':=by
 have lv:Lv m0 m 2 true (vals l) x:=by
  rcases h with ⟨h1,h2⟩ | ⟨h,id,w,h1,h2,h3,h4⟩
  ·exact .inl ⟨0,by omega,h1,h2⟩
  ·exact .inr (.inr ⟨id,w,none,h1,h2,h3,h4⟩)
 obtain ⟨m',e1,e2⟩:=lv.fz rfl (Aeo l) (Aba l)
 refine ⟨m',?_,e2⟩
 simp [fzvs,fzv,fzs,e1,ceA]
theorem Aga:∀ {l:List Dat} {x:Dat},goods l = true → x ∈ l → good x = true
 | z :: l,x,h,hx => by
  rw [goods] at h
  simp at h
  rcases List.mem_cons.1 hx with rfl | hx
  ·exact h.1
  ·exact Aga h.2 hx
theorem Agk {X0 X1:Nat → Prop} {A B:Nat} {a':ArM} {m m4 m5:Mem} (k:Kp m m4) (kc:KpC X0 m4 m5) (hA5:Ar X1 A a' m5) (hX:∀ j,X1 j → X0 j ∨ m4.next ≤ j) (hX0:∀ j,X0 j → j < m.next) (hB:m.next ≤ B) (hB4:B < m4.next) (cs:List AV):Up X0 A a' m (m5.set B cs):=by
 refine ⟨X1,hA5.kc (Aao B cs m5) fun j hj e => ?_,KpC.cut (((KpC.of (.of k)).trans (kc.mono fun j h => .inl h)).trans ((Aao B cs m5).mono fun j h => .inr (by omega))),fun j hj => (hX j hj).imp id fun h => by have:=k.next; omega⟩
 have e:j = B:=e
 subst e
 rcases hX j hj with h | h
 ·have:=hX0 j h; omega
 ·omega
theorem Amt (m:Mem) (v:Val) (e:Int):fzr m (.tup [.agg [int v.1,int v.2],int e]) = (.tup [valA v,int e],m):=by
 rw [Aab]
 simp [fzr,fzvs]
theorem q61 (l:List Dat) (m:Mem):EH Tryz.prog ca (.func 70) [.lst (encs l)] m (.fn (.func 93) [] [.ptr m.next 0]) (m.new [.lst (encs l)] false):=by
 refine eh_of (Aah Tryz.func70 rfl rfl (by simp [Tryz.f70]) (by simp [Tryz.f70]) fun Q hQ => ?_)
 simp only [Tryz.f70,show ca.keepRes 70 = false from rfl,show ca.keepArgs 70 = false from rfl] at hQ ⊢
 simp
 exact hQ _ _ _ ⟨.inr rfl,_,rfl,by simp [oneOf]⟩
def LInv (X:Nat → Prop) (A V E db lo:Nat) (m M5:Mem) (r:ArM × Val × Int) (mm:Mem):Prop :=
 ∃ X1,Ar X1 A r.1 mm ∧ (∀ j,X1 j → ((X j ∧ j < m.next) ∨ M5.next ≤ j) ∧ j < mm.next ∧ j ≠ db ∧ j ≠ lo) ∧ KpC (fun j => (X j ∧ j < m.next) ∨ M5.next ≤ j ∨ j = V ∨ j = E) M5 mm ∧ (∃ w,mm.get V = some (.cells [int r.2.1.1,int r.2.1.2] false w)) ∧ ∃ w,mm.get E = some (.cells [int r.2.2] false w)
theorem Axx {m:Mem} {A id w:Nat} {k:Int} {x y:Val} (h:m.get id = some (.cells [int x.1,int x.2,int y.1,int y.2] false w)):fzvs m [.ptr A 0,.agg [int k,int 0,.sl id 0 2 2 true (some 2),.emp 0]] = ([.ptr A 0,ceA ⟨k,0,[x,y],[]⟩],m.mark id (flat (vals [x,y])) w):=by
 have e:=Adl (m:=m) (id:=id) (k:=2) (ag:=true) (cap:=some 2) (ys:=vals [x,y]) (v:=w) (f:=false) rfl (by simpa [vals,Aa7,Avj] using h) (Aeo _) (Aba _)
 rw [Aa0] at e
 simp at e
 simp [fzvs,fzv,fzs,e,ceA]
theorem Adj (lo:Nat) (st:LoopState) (p:Option Code) (c:LCode) (m:Mem):KpC (fun j => j = lo) m (m.setLoop lo st p c):=⟨by simp,fun id hi hx => by simp,fun id hi hx => by
 have:id ≠ lo:=hx
 simp [this]⟩
theorem Ami (i w:Nat) (cs:List AV) (m:Mem):KpC (fun j => j = i) m (m.mark i cs w):=⟨by simp,fun id hi hx => by
 have:id ≠ i:=hx
 simp [this],fun id hi hx => by simp⟩
theorem Agy {X X2 X3:Nat → Prop} {A V E db lo:Nat} {m M5 mm mf:Mem} {r:ArM × Val × Int} {l:AV} (hX2:∀ j,X2 j → ((X j ∧ j < m.next) ∨ M5.next ≤ j) ∧ j < mm.next ∧ j ≠ db ∧ j ≠ lo) (kc:KpC (fun j => (X j ∧ j < m.next) ∨ M5.next ≤ j ∨ j = V ∨ j = E) M5 mm) (hdb:has mm db [l])
  (hM:M5.next ≤ mm.next) (hlt:lo < mm.next) (hlo:M5.next ≤ lo) (h1:db < lo) (h2:db ≠ V) (h3:db ≠ E) (km:KpC (fun j => X2 j ∨ j = V ∨ j = E ∨ j = lo) mm mf) (hA:Ar X3 A r.1 mf) (hX3:∀ j,X3 j → (X2 j ∨ mm.next ≤ j) ∧ j < mf.next) (gV:∃ w,mf.get V = some (.cells [int r.2.1.1,int r.2.1.2] false w)) (gE:∃ w,mf.get E = some (.cells [int r.2.2] false w)):LInv X A V E db lo m M5 r mf ∧ has mf db [l]:=by
 refine ⟨⟨X3,hA,fun j h => ?_,kc.trans (km.mono fun j h => ?_),gV,gE⟩,hdb.kc km ?_⟩
 ·obtain ⟨q1,q2⟩:=hX3 j h
  rcases q1 with q1 | q1
  ·exact ⟨(hX2 j q1).1,q2,(hX2 j q1).2.2⟩
  ·exact ⟨.inr (by omega),q2,by omega,by omega⟩
 ·rcases h with h | h | h | h
  ·exact (hX2 j h).1.imp id .inl
  ·exact .inr (.inr (.inl h))
  ·exact .inr (.inr (.inr h))
  ·exact .inr (.inl (by omega))
 ·rintro (h | h | h | h)
  ·exact (hX2 db h).2.2.1 rfl
  ·exact h2 h
  ·exact h3 h
  ·omega
def MakeK (X:Nat → Prop) (A:Nat) (d:Dat) (a:ArM) (m:Mem) (v:AV) (m':Mem):Prop:=v = .tup [valA (makeM d a).2.1,int (makeM d a).2.2] ∧ Up X A (makeM d a).1 m m'
theorem q36 {A:Nat}:∀ (n:Nat) (d:Dat),d.size ≤ n → d.fits → good d = true → ∀ (X:Nat → Prop) (a:ArM) (m:Mem),Ar X A a m → wph Tryz.prog ca (.func 46) [.ptr A 0,enc d] m (MakeK X A d a m)
 | 0,d,hs,_,_ => by cases d; simp [Dat.size] at hs
 | n + 1,d,hs,hf,hg => by
  intro X a m hA
  have ih:=q36 (A:=A) n
  refine Aah Tryz.func46 rfl rfl (by simp [Tryz.f46]) (by simp [Tryz.f46]) fun Q hQ => ?_
  simp only [Tryz.f46,show ca.keepRes 46 = false from rfl,show ca.keepArgs 46 = false from rfl] at hQ ⊢
  obtain ⟨K,N,S,M,L,T⟩:=d
  have ft:=Abo hf
  obtain ⟨hal,hgL,hgT⟩:=Aze hg
  rw [Dat.fits] at hf
  rw [Dat.size] at hs
  have hAlt:=hA.lt
  obtain ⟨m1,hm1⟩:∃ m1,m1 = (((m.new [.ptr A 0] false).new [int K,int N,.sc (.string ⟨⟨S⟩⟩),.lst (M.map int),.lst (encs L),.lst (encs T)] false).new [int 0,int 0] false).newMap:=⟨_,rfl⟩
  obtain ⟨v1,hmp⟩:∃ v,m1.map (m.next + 3) = some ⟨[],0,v⟩:=⟨_,by rw [hm1]; simp; rfl⟩
  have hu1:=Aan (P:=Tryz.prog) Abg Tryz.underlying3 hmp (ks:=[]) rfl (k:=1) rfl (int 1)
  obtain ⟨m2,hm2⟩:∃ m2,m2 = m1.setMap (m.next + 3) ([] ++ [(.int .i64 1,int 1,0)]) (0 + 1):=⟨_,rfl⟩
  obtain ⟨v2,hmp2⟩:∃ v,m2.map (m.next + 3) = some ⟨[(.int .i64 1,int 1,0)],1,v⟩:=⟨_,by rw [hm2]; simp; rfl⟩
  have hu2:=Aan (P:=Tryz.prog) Abg Tryz.underlying3 hmp2 (ks:=[1]) rfl (k:=2) rfl (int 2)
  obtain ⟨m3,hm3⟩:∃ m3,m3 = m2.setMap (m.next + 3) ([(.int .i64 1,int 1,0)] ++ [(.int .i64 2,int 2,1)]) (1 + 1):=⟨_,rfl⟩
  obtain ⟨v3,hmp3⟩:∃ v,m3.map (m.next + 3) = some ⟨[(.int .i64 1,int 1,0),(.int .i64 2,int 2,1)],2,v⟩:=⟨_,by rw [hm3]; simp; rfl⟩
  have hu3:=Aan (P:=Tryz.prog) Abg Tryz.underlying3 hmp3 (ks:=[1,2]) rfl (k:=3) rfl (int 3)
  obtain ⟨m4,hm4⟩:∃ m4,m4 = m3.setMap (m.next + 3) ([(.int .i64 1,int 1,0),(.int .i64 2,int 2,1)] ++ [(.int .i64 3,int 3,2)]) (2 + 1):=⟨_,rfl⟩
  obtain ⟨v4,hmp4⟩:∃ v,m4.map (m.next + 3) = some ⟨[(.int .i64 1,int 1,0),(.int .i64 2,int 2,1),(.int .i64 3,int 3,2)],3,v⟩:=⟨_,by rw [hm4]; simp; rfl⟩
  have hl:=Aei (P:=Tryz.prog) (ok:=true) Abg Tryz.underlying3 hmp4 (ks:=[1,2,3]) rfl K
  rw [← hm2] at hu1
  rw [← hm3] at hu2
  rw [← hm4] at hu3
  have k4:Kp m m4:=by
   rw [hm4,hm3,hm2,hm1]
   simp
  have g4:∀ j,m4.get j = m1.get j:=fun j => by rw [hm4,hm3,hm2]; simp
  have n4:m4.next = m.next + 4:=by rw [hm4,hm3,hm2,hm1]; simp
  have b0:has m4 m.next [.ptr A 0]:=⟨by omega,m.clock + 1,by rw [g4,hm1]; simp⟩
  have b1:has m4 (m.next + 1) [int K,int N,.sc (.string ⟨⟨S⟩⟩),.lst (M.map int),.lst (encs L),.lst (encs T)]:=⟨by omega,m.clock + 2,by rw [g4,hm1]; simp⟩
  have b2:has m4 (m.next + 2) [int 0,int 0]:=⟨by omega,m.clock + 3,by rw [g4,hm1]; simp⟩
  clear hm2 hm3 hm4 hmp hmp2 hmp3
  simp [enc,Abv Abg]
  rw [← hm1]
  clear hm1
  obtain ⟨_,x0,e0⟩:=b0
  obtain ⟨_,x1,e1⟩:=b1
  obtain ⟨_,x2,e2⟩:=b2
  have fin:∀ (s':Sl) (m':Mem) (v:Val) (e:Int) (a':ArM),s'.at 4 = .ptr (m.next + 2) 0 → s'.at 5 = int e → (∃ w,m'.get (m.next + 2) = some (.cells [int v.1,int v.2] false w)) → makeM (.mk K N S M L T) a = (a',v,e) → Up X A a' m m' → Q .ret s' m':=by
   intro s' m' v e a' h4 h5 ⟨w,hg⟩ hm hu
   refine hQ _ _ _ ?_
   rw [Aam]
   refine ⟨_,by simp [aresult,h4,h5,hg,aload,partOf]; rfl,?_⟩
   unfold MakeK
   rw [hm]
   simp only [Bool.false_eq_true,if_false,oneOf,Amt]
   exact ⟨trivial,hu⟩
  have hA4:=hA.cut.kp k4
  have hlt2:m.next + 2 < m4.next:=by omega
  simp [hu1,hu2,hu3,e1]
  by_cases k123:K = 1 ∨ K = 2 ∨ K = 3
  ·have hl':alookup Tryz.prog 143 (.mp (m.next + 3)) (int K) true m4 = some (.tup [int K,.sc (.bool true)]):=by
    rcases k123 with rfl | rfl | rfl <;> (rw [hl]; rfl)
   simp [hl',e1,e2,Age]
   refine fin _ _ (K,N) 0 a (by simp) (by simp) ⟨_,by simp; rfl⟩ (by rw [makeM,if_pos k123]) (Up.kp hA (k4.set (by omega) _))
  ·have hl':alookup Tryz.prog 143 (.mp (m.next + 3)) (int K) true m4 = some (.tup [int 0,.sc (.bool false)]):=by
    have hfi:([1,2,3]:List Int).findIdx? (fun x => decide (x = K)) = none:=by
     rw [List.findIdx?_eq_none_iff]
     intro x hx
     simp at hx
     simp
     omega
    rw [hl,hfi]
    simp
   simp [hl',e1]
   by_cases k5:K = 5
   ·simp [k5,e0,e1]
    refine Aad (q59 hA4 S (by have:=ft.s; omega)) ?_
    rintro _ m5 ⟨rfl,X1,hA5,kc5,hX5⟩
    have e5:=(kc5.get (m.next + 2) hlt2 (fun h => by omega)).trans e2
    simp [e5]
    refine fin _ _ (symM a S).2.1 (symM a S).2.2 (symM a S).1 (by simp) (by simp) ⟨_,by simp; rfl⟩ (by rw [makeM,if_neg k123,if_pos k5]) ?_
    exact (Agk k4 kc5 hA5 hX5 (fun j h => h.2) (by omega) hlt2 _).less
   by_cases k4':K = 4
   ·simp [k5,k4',e0,e1,abuild,placesOf,fillAt]
    refine Aad (Ahz (args:=[.ptr A 0,ceA ⟨3,0,[],S⟩]) (m:=m4) Tryz.func69 rfl rfl rfl (by simp [fzvs,fzs,fz1,ceA,byts]) (by simp [fzvs]) (q60 hA4 ⟨3,0,[],S⟩ (by simp) (by have:=ft.s; simpa using this))) ?_
    rintro _ m5 ⟨rfl,X1,hA5,kc5,hX5⟩
    have e5:=(kc5.get (m.next + 2) hlt2 (fun h => by omega)).trans e2
    simp [e5]
    refine fin _ _ (allocM a ⟨3,0,[],S⟩).2.1 (allocM a ⟨3,0,[],S⟩).2.2 (allocM a ⟨3,0,[],S⟩).1 (by simp) (by simp) ⟨_,by simp; rfl⟩ (by rw [makeM,if_neg k123,if_neg k5,if_pos k4']) ?_
    exact (Agk k4 kc5 hA5 hX5 (fun j h => h.2) (by omega) hlt2 _).less
   by_cases k8:K = 8
   ·simp [k5,k4',k8,e0,e1]
    have hmk:makeM (.mk K N S M L T) a = (if (vecM L a).2.2 ≠ 0 then ((vecM L a).1,(0,0),(vecM L a).2.2) else allocM (vecM L a).1 ⟨2,0,(vecM L a).2.1,[]⟩):=by rw [makeM,if_neg k123,if_neg k5,if_neg k4',if_pos k8]
    refine Aas 58 L.length (fun i s' m' => ∃ a' vs X1,vecM (L.take i) a = (a',vs,0) ∧ Ar X1 A a' m' ∧ (∀ j,X1 j → ((X j ∧ j < m.next) ∨ m4.next ≤ j) ∧ j < m'.next) ∧ KpC (fun j => (X j ∧ j < m.next) ∨ m4.next ≤ j) m4 m' ∧ Acc m4 m' 2 true (vals vs) (s'.at 9) ∧ vs.length ≤ i ∧ ∀ j,owns (s'.at 9) j → ¬ X1 j) (by simp) (by have:=ft.l; omega) ⟨a,[],_,by simp [vecM],hA4,fun j h => ⟨.inl h,by omega⟩,.refl _ _,.inl ⟨rfl,by simp⟩,by simp,fun j hj => by simp at hj; exact (Ann.1 hj).elim⟩ ?_
    rintro i s' m' hi e58 ⟨a',vs,X1,hvec,hA',hX1,kc',hacc,hvl,hdis⟩ hsame hw Q' hn he
    have d2:s'.at 2 = .ptr m.next 0:=(hsame 2 (by kernel_rfl)).trans (by simp)
    have d4:s'.at 4 = .ptr (m.next + 2) 0:=(hsame 4 (by kernel_rfl)).trans (by simp)
    have d56:s'.at 56 = .lst (encs L):=(hsame 56 (by kernel_rfl)).trans (by simp)
    have d57:s'.at 57 = int L.length:=(hsame 57 (by kernel_rfl)).trans (by simp)
    clear hsame
    have n':=kc'.next
    have g0:=(kc'.get m.next (by omega) (fun h => by omega)).trans e0
    have g2:=(kc'.get (m.next + 2) (by omega) (fun h => by omega)).trans e2
    simp [e58,d57]
    refine Aal (fun h => ?_) fun h => ?_
    ·have hlt:i < L.length:=by simpa using h
     obtain ⟨x,hx⟩:∃ x,L[i]? = some x:=⟨_,List.getElem?_eq_getElem hlt⟩
     have hx':(encs L)[i]? = some (enc x):=by rw [Acu,hx]; rfl
     have hxL:=List.mem_of_getElem? hx
     have hsz:=Ab3 hxL
     have hix:=Aag (P:=Tryz.prog) (q:=.i64) Tryz.underlying31 Abq hx' (Aav x)
     have zd:List.drop 6 zeroCells = []:=rfl
     have n0:m.next ≠ m'.next:=by omega
     simp [e58,d56,hix,d2,g0,n0,zd]
     obtain ⟨M2,hM2⟩:∃ M2,M2 = (m'.new zeroCells false).set m'.next (enc x).cells:=⟨_,rfl⟩
     have kM:Kp m' M2:=by rw [hM2]; simp
     have nM:M2.next = m'.next + 1:=by rw [hM2]; simp
     rw [← hM2]
     refine Aad (ih x (by omega) (Acb hf.2.1 hxL) (Aga hgL hxL) X1 a' M2 (hA'.kp kM)) ?_
     rintro _ m5 ⟨rfl,hup⟩
     obtain ⟨X2,hA5,kc5,hX5⟩:=hup.out
     have n5:=kc5.next
     have g05:=(kc5.get m.next (by omega) (fun h => by have:=hX1 _ h; omega)).trans ((kM.get m.next (by omega)).trans g0)
     have g25:=(kc5.get (m.next + 2) (by omega) (fun h => by have:=hX1 _ h; omega)).trans ((kM.get (m.next + 2) (by omega)).trans g2)
     have kct:KpC (fun j => (X j ∧ j < m.next) ∨ m4.next ≤ j) m4 m5:=(kc'.trans (.of (.of kM))).trans (kc5.mono fun j h => (hX1 j h).1)
     have htk:vecM (L.take (i + 1)) a = vecM (L.take i ++ [x]) a:=by
      obtain ⟨h1,h2⟩:=List.getElem?_eq_some_iff.1 hx
      rw [List.take_succ_eq_append_getElem h1,h2]
     rw [Ai0 _ _ _ (by rw [hvec])] at htk
     simp only [hvec] at htk
     have hall:L = L.take i ++ x :: L.drop (i + 1):=by
      obtain ⟨h1,h2⟩:=List.getElem?_eq_some_iff.1 hx
      rw [← h2,List.getElem_cons_drop,List.take_append_drop]
     have hvA:=Ai0 (L.take i) (x :: L.drop (i + 1)) a (by rw [hvec])
     rw [← hall] at hvA
     simp only [hvec] at hvA
     by_cases hz:(makeM x a').2.2 = 0
     ·have hmx:makeM x a' = ((makeM x a').1,(makeM x a').2.1,0):=by rw [← hz]
      obtain ⟨M5,hM5⟩:∃ M5,M5 = (m5.new [int 0,int 0] false).set m5.next [int (makeM x a').2.1.1,int (makeM x a').2.1.2]:=⟨_,rfl⟩
      have k5':Kp m5 M5:=by rw [hM5]; simp
      have n6:M5.next = m5.next + 1:=by rw [hM5]; simp
      have hac5:Acc m4 M5 2 true (vals vs) (s'.at 9):=(Abk (hacc.kp kM) kc5 hdis).kp k5'
      have hsrc:=Ad8 (m:=M5.new (valA (makeM x a').2.1).cells false) (id:=M5.next) (c:=some 1) (k:=2) (ag:=true) (x:=valA (makeM x a').2.1) (w:=M5.clock + 1) (f:=false) rfl (by simp) (by simp) (by simp [valA])
      obtain ⟨v3,m6,p1,p2,p3,p4⟩:=Ana (T:=46) (m:=M5.new (valA (makeM x a').2.1).cells false) (zs:=[valA (makeM x a').2.1]) (hac5.kp (.new _ _ _)) (by simp; omega) (Aba _) el46 (by simp [Aak,Abu]) (by simp [fzx,fzvs]) (by have:=ft.l; simp; omega)
      have n7:=p3.next
      simp at n7
      simp only [Aog] at hsrc p1 p3 p4
      simp [hz]
      rw [← hM5]
      simp [abuildSlice,zeros,fillAt,abuiltin,hsrc,p1,e58,hw]
      have hX2l:∀ j,X2 j → j < m5.next:=fun j h => (hX5 j h).2
      have own9:∀ j,owns (s'.at 9) j → j < m'.next:=fun j h => (Ad5 hacc j h).2
      have dis2:∀ j,owns (s'.at 9) j → ¬ X2 j:=fun j h h2 => by
       rcases (hX5 j h2).1 with h3 | h3
       ·exact hdis j h h3
       ·have:=own9 j h; omega
      refine hn _ _ hlt (by simp) ⟨(makeM x a').1,vs ++ [(makeM x a').2.1],X2,by rw [htk]; simp [vecM,hz],?_,fun j h => ⟨?_,?_⟩,?_,?_,by simp; omega,fun j hj h2 => ?_⟩
      ·refine (hA5.kp (k5'.trans (.new _ _ _))).kc p3 fun j h h2 => absurd h (dis2 j h2)
      ·rcases (hX5 j h).1 with h3 | h3
       ·exact (hX1 j h3).1
       ·exact .inr (by omega)
      ·have:=hX2l j h; omega
      ·refine (kct.trans (.of (.of (k5'.trans (.new _ _ _))))).trans (p3.mono fun j h => .inr ?_)
       exact (Ad5 hacc j h).1
      ·rw [Alw,Aay,Ai1]
       simpa using p2
      ·simp at hj
       rcases p4 j hj with h3 | h3
       ·exact dis2 j h3 h2
       ·have:=hX2l j h2; simp at h3; omega
     ·have hvz:vecM L a = ((makeM x a').1,vs,(makeM x a').2.2):=by rw [hvA]; simp [vecM,hz]
      have n25:m.next + 2 ≠ m5.next:=by omega
      have d13:∀ e:Int,int e = int e:=fun _ => rfl
      simp [hz,Aa8,d4,g25,n25]
      refine he _ _ _ (by simp) ?_
      simp
      refine fin _ _ (0,0) (makeM x a').2.2 (makeM x a').1 (by simp [d4]) (by simp) ⟨_,by simp; rfl⟩ (by rw [hmk,hvz]; simp [hz]) ?_
      refine (Agk (m5:=(m5.new [int 0,int 0] false).set m5.next [int (makeM x a').2.1.1,int (makeM x a').2.1.2]) k4 (kct.cut.trans (.of (.of (by simp)))) (hA5.kp (by simp)) (fun j h => ?_) (fun j h => h.2) (by omega) hlt2 _).less
      rcases (hX5 j h).1 with h3 | h3
      ·exact (hX1 j h3).1
      ·exact .inr (by omega)
    ·have hge:i = L.length:=by have:=of_decide_eq_false h; omega
     subst hge
     simp
     refine he _ _ _ (by simp) ?_
     rw [List.take_length] at hvec
     obtain ⟨x9,hx9⟩:∃ x9,x9 = s'.at 9:=⟨_,rfl⟩
     rw [← hx9] at hacc hdis
     have hxc:x9.okc = true ∧ x9.cells = [x9]:=by
      rcases hacc with ⟨_,rfl⟩ | ⟨_,id,w,rfl,_⟩ <;> exact ⟨rfl,rfl⟩
     obtain ⟨m6,hz6,kc6⟩:=Azu (A:=A) (k:=2) hacc
     have hA6:Ar X1 A a' m6:=hA'.kc kc6 fun j h h2 => absurd h (hdis j h2)
     have n6:=kc6.next
     simp [d2,g0,← hx9,abuild,placesOf,fillAt,hxc]
     refine Aad (Ahz Tryz.func69 rfl rfl rfl hz6 (by simp [fzvs]) (q60 hA6 ⟨2,0,vs,[]⟩ (by have:=ft.l; simp; omega) (by simp))) ?_
     rintro _ m7 ⟨rfl,hup⟩
     obtain ⟨X2,hA7,kc7,hX7⟩:=hup.out
     have g26:=(kc6.get (m.next + 2) (by omega) (fun h => by have:=(Ad5 hacc _ h).1; omega)).trans g2
     have g27:=(kc7.get (m.next + 2) (by omega) (fun h => by have:=hX1 _ h; omega)).trans g26
     simp [d4,g27]
     refine fin _ _ (allocM a' ⟨2,0,vs,[]⟩).2.1 (allocM a' ⟨2,0,vs,[]⟩).2.2 (allocM a' ⟨2,0,vs,[]⟩).1 (by simp [d4]) (by simp) ⟨_,by simp; rfl⟩ (by rw [hmk,hvec]; simp) ?_
     have kall:KpC (fun j => (X j ∧ j < m.next) ∨ m4.next ≤ j) m4 m7:=(kc'.trans (kc6.mono fun j h => .inr (Ad5 hacc j h).1)).trans (kc7.mono fun j h => (hX1 j h).1)
     refine (Agk k4 kall.cut hA7 (fun j h => ?_) (fun j h => h.2) (by omega) hlt2 _).less
     rcases (hX7 j h).1 with h3 | h3
     ·exact (hX1 j h3).1
     ·exact .inr (by omega)
   have hmk:makeM (.mk K N S M L T) a = (if (lstM L (if K = 7 then tailM T a else (a,(4,0),0))).2.2 ≠ 0 then ((lstM L (if K = 7 then tailM T a else (a,(4,0),0))).1,(0,0),(lstM L (if K = 7 then tailM T a else (a,(4,0),0))).2.2) else lstM L (if K = 7 then tailM T a else (a,(4,0),0))):=by rw [makeM,if_neg k123,if_neg k5,if_neg k4',if_neg k8]
   have q1:m.next ≠ m4.next:=by omega
   have q2:m.next + 1 ≠ m4.next:=by omega
   have q3:m.next ≠ m4.next + 1:=by omega
   simp [k5,k4',k8,e0,e1,abuild,placesOf,fillAt,q1,q2,q3]
   obtain ⟨M5,hM5⟩:∃ M5,M5 = (((m4.new [int 0,int 0] false).new [int 0] false).set m4.next [int 4,int 0]).set (m4.next + 1) [int 0]:=⟨_,rfl⟩
   have kM5:Kp m4 M5:=by rw [hM5]; simp
   have nM5:M5.next = m4.next + 2:=by rw [hM5]; simp
   have gV:M5.get m4.next = some (.cells [int 4,int 0] false (m4.clock + 3)):=by rw [hM5]; simp
   have gE:M5.get (m4.next + 1) = some (.cells [int 0] false (m4.clock + 4)):=by rw [hM5]; simp
   have f0:=(kM5.get m.next (by omega)).trans e0
   have f1:=(kM5.get (m.next + 1) (by omega)).trans e1
   have f2:=(kM5.get (m.next + 2) (by omega)).trans e2
   have hA5:=hA4.kp kM5
   rw [← hM5]
   obtain ⟨r0,hr0⟩:∃ r0,r0 = (if K = 7 then tailM T a else (a,(4,0),0)):=⟨_,rfl⟩
   rw [← hr0] at hmk
   refine Arr (fun s2 m2 => s2.at 2 = .ptr m.next 0 ∧ s2.at 3 = .ptr (m.next + 1) 0 ∧ s2.at 4 = .ptr (m.next + 2) 0 ∧ s2.at 14 = .ptr m4.next 0 ∧ s2.at 15 = .ptr (m4.next + 1) 0 ∧ LInv X A m4.next (m4.next + 1) m2.next m2.next m M5 r0 m2) (fun hk7 k' hk' => ?_) (fun hk7 k' hk' => ?_) ?_
   ·have h7:K = 7:=of_decide_eq_true hk7
    subst h7
    rw [if_pos rfl] at hr0
    obtain ⟨t,rfl⟩:∃ t,T = [t]:=by
     rcases T with _ | ⟨t,_ | ⟨t2,T2⟩⟩
     ·simp [alone] at hal
     ·exact ⟨t,rfl⟩
     ·simp [alone] at hal
    rw [tailM] at hr0
    have hszt:=Ab3 (by simp:t ∈ [t])
    have hix:=Abw (P:=Tryz.prog) (T:=31) (q:=.i64) (x:=enc t) (l:=[]) Tryz.underlying31 Abq (by simp)
    simp only [encs] at f1
    refine Aat (by kernel_rfl) (by kernel_rfl) ?_
    simp [f0,f1,encs,hix]
    refine Aad (ih t (by simp [sizes] at hszt hs; omega) (Acb hf.2.2 (by simp)) (Aga hgT (by simp)) _ a M5 hA5) ?_
    rintro _ m6 ⟨rfl,hup⟩
    obtain ⟨X1,hA6,kc6,hX6⟩:=hup.out
    have n6:=kc6.next
    have gV6:=(kc6.get m4.next (by omega) (fun h => by omega)).trans gV
    have gE6:=(kc6.get (m4.next + 1) (by omega) (fun h => by omega)).trans gE
    have q4:m4.next + 1 ≠ m4.next:=by omega
    simp [gV6,gE6]
    refine hk' _ _ ⟨by simp,by simp,by simp,by simp,by simp,?_⟩
    rw [hr0]
    have hB:∀ j,X1 j → j ≠ m4.next ∧ j ≠ m4.next + 1 ∧ ((X j ∧ j < m.next) ∨ M5.next ≤ j) ∧ j < m6.next:=fun j h => by
     rcases (hX6 j h).1 with h3 | h3
     ·exact ⟨by omega,by omega,.inl h3,(hX6 j h).2⟩
     ·exact ⟨by omega,by omega,.inr h3,(hX6 j h).2⟩
    refine ⟨X1,(hA6.kc (Aao m4.next _ _) fun j h e => absurd e (hB j h).1).kc (Aao (m4.next + 1) _ _) fun j h e => absurd e (hB j h).2.1,fun j h => ⟨(hB j h).2.2.1,by simpa using (hB j h).2.2.2,?_,?_⟩,?_,⟨m6.clock + 1,by simp⟩,⟨m6.clock + 2,by simp⟩⟩
    ·have:=(hB j h).2.2.2; simp; omega
    ·have:=(hB j h).2.2.2; simp; omega
    ·exact ((kc6.mono fun j h => .inl h).trans ((Aao m4.next _ _).mono fun j h => .inr (.inr (.inl h)))).trans ((Aao (m4.next + 1) _ _).mono fun j h => .inr (.inr (.inr h)))
   ·have h7:¬ K = 7:=of_decide_eq_false hk7
    rw [if_neg h7] at hr0
    simp
    refine hk' _ _ ⟨by simp,by simp,by simp,by simp,by simp,?_⟩
    rw [hr0]
    exact ⟨_,hA5,fun j h => ⟨.inl h,by omega,by omega,by omega⟩,.refl _ _,⟨_,gV⟩,⟨_,gE⟩⟩
   ·rintro s2 m2 ⟨d2,d3,d4,d14,d15,X1,hA2,hX1,kc2,⟨wV,gV2⟩,⟨wE,gE2⟩⟩
    have n2:=kc2.next
    have own:∀ j,m.next ≤ j → j < m4.next → ¬ ((X j ∧ j < m.next) ∨ M5.next ≤ j ∨ j = m4.next ∨ j = m4.next + 1):=fun j h1 h2 h => by omega
    have h0:=(kc2.get m.next (by omega) (own _ (by omega) (by omega))).trans f0
    have h1:=(kc2.get (m.next + 1) (by omega) (own _ (by omega) (by omega))).trans f1
    have h2:=(kc2.get (m.next + 2) (by omega) (own _ (by omega) (by omega))).trans f2
    simp [d3,h1,(q61 L m2).go]
    refine Ajf (f:=93) (a:=[]) (b:=[.ptr m2.next 0]) (by simp) (by kernel_rfl) ?_
    simp only [List.nil_append,List.singleton_append]
    generalize hcd:LCode.mk _ _ _ _ _ = c
    refine Ab2 (A0b (J:=fun k mm => LInv X A m4.next (m4.next + 1) m2.next (m2.next + 1) m M5 (lstM (L.drop k) r0) mm ∧ has mm m2.next [.lst (encs L)] ∧ ∃ ver,mm.loop (m2.next + 1) = some ⟨.ready,none,c,ver⟩ ∧ m2.next + 1 < mm.next) L ft.l ?_ (fun k mm h => h.2.1) _ ?_) ?_
    ·rintro k x mm hx ⟨⟨X2,hA7,hX2,kc7,⟨uV,hV⟩,⟨uE,hE⟩⟩,⟨dbl,dbv,dbe⟩,ver,hloop,hlt⟩
     have hid:(m2.new [AV.lst (encs L)] false).next = m2.next + 1:=by simp
     rw [hid]
     refine Agj hloop (by rw [← hcd]; rfl) ?_
     have c1:=congrArg LCode.assign hcd
     have c2:=congrArg LCode.body hcd
     have c3:=congrArg LCode.N hcd
     have c4:=congrArg LCode.s hcd
     have c5:=congrArg LCode.ps hcd
     dsimp only at c1 c2 c3 c4 c5
     simp only [← c1,← c2,← c3,← c4,← c5]
     have nn:=kc7.next
     have h0':=(kc7.get m.next (by omega) (own _ (by omega) (by omega))).trans f0
     have zd:List.drop 6 zeroCells = []:=rfl
     have w1:m4.next + 1 ≠ mm.next:=by omega
     have w2:m4.next + 1 ≠ mm.next + 1:=by omega
     have w3:m.next ≠ mm.next:=by omega
     have w4:m.next ≠ mm.next + 1:=by omega
     have w5:m4.next ≠ mm.next:=by omega
     have w6:m4.next ≠ mm.next + 1:=by omega
     have hstep:lstM (L.drop k) r0 = lstM (x :: L.drop (k + 1)) r0:=by
      obtain ⟨h1,h2⟩:=List.getElem?_eq_some_iff.1 hx
      rw [← h2,List.getElem_cons_drop]
     rw [hstep,lstM]
     generalize lstM (L.drop (k + 1)) r0 = r at hA7 hV hE ⊢
     simp [Sl.puts,hloop,d2,d14,d15,hE,w1,w2,w5,zd]
     by_cases hr:r.2.2 = 0
     rotate_left
     ·simp [hr,hE,w1,w2,w5,d15]
      have km0:KpC (fun j => j = m2.next + 1) mm (((((mm.new zeroCells false).set mm.next (enc x).cells).setLoop (m2.next + 1) .busy none c).new [int 0,int 0] false).setLoop (m2.next + 1) .ready none c):=⟨by simp,fun id hi hx => by
       have a1:id ≠ mm.next:=by omega
       have a2:id ≠ mm.next + 1:=by omega
       simp [a1,a2],fun id hi hx => by
       have a1:id ≠ m2.next + 1:=hx
       simp [a1]⟩
      obtain ⟨r1,r2⟩:=Agy (r:=r) (V:=m4.next) (E:=m4.next + 1) hX2 kc7 ⟨dbl,dbv,dbe⟩ (by omega) hlt (by omega) (by omega) (by omega) (by omega) (km0.mono fun j h => .inr (.inr (.inr h))) (hA7.kc km0 fun j h e => absurd e (hX2 j h).2.2.2) (fun j h => ⟨.inl h,by have:=(hX2 j h).2.1; simp; omega⟩) ⟨uV,by simp [w5,w6,hV]⟩ ⟨uE,by simp [w1,w2,w5,hE]⟩
      exact ⟨r1,r2,by omega⟩
     ·simp [hr,d2,h0',w3,w4]
      obtain ⟨Mb,hMb⟩:∃ Mb,Mb = (((mm.new zeroCells false).set mm.next (enc x).cells).setLoop (m2.next + 1) .busy none c).new [int 0,int 0] false:=⟨_,rfl⟩
      have kb:KpC (fun j => j = m2.next + 1) mm Mb:=by
       rw [hMb]
       exact ⟨by simp,fun id hi hx => by
        have a1:id ≠ mm.next:=by omega
        have a2:id ≠ mm.next + 1:=by omega
        simp [a1,a2],fun id hi hx => by
        have a1:id ≠ m2.next + 1:=hx
        simp [a1]⟩
      have nb:Mb.next = mm.next + 2:=by rw [hMb]; simp
      have hAb:Ar X2 A r.1 Mb:=hA7.kc kb fun j h e => absurd e (hX2 j h).2.2.2
      have gbE:Mb.get (m4.next + 1) = some (.cells [int r.2.2] false uE):=by rw [hMb]; simp [w1,w2,w5,hE]
      have gbV:Mb.get m4.next = some (.cells [int r.2.1.1,int r.2.1.2] false uV):=by rw [hMb]; simp [w5,w6,hV]
      obtain ⟨uF,gbF⟩:∃ w,Mb.get (mm.next + 1) = some (.cells [int 0,int 0] false w):=⟨_,by rw [hMb]; simp; rfl⟩
      obtain ⟨uL,lbL⟩:∃ w,Mb.loop (m2.next + 1) = some ⟨.busy,none,c,w⟩:=⟨_,by rw [hMb]; simp; rfl⟩
      rw [← hMb]
      clear hMb
      have hxL:=List.mem_of_getElem? hx
      have hszx:=Ab3 hxL
      have nX2:∀ j,m.next ≤ j → j < M5.next → ¬ X2 j:=fun j q1 q2 h => by have:=(hX2 j h).1; omega
      refine Aad (ih x (by omega) (Acb hf.2.1 hxL) (Aga hgL hxL) X2 r.1 Mb hAb) ?_
      rintro _ m6 ⟨rfl,hup⟩
      obtain ⟨X3,hA6,kc6,hX6⟩:=hup.out
      have n6:=kc6.next
      have g6E:=(kc6.get (m4.next + 1) (by omega) (nX2 _ (by omega) (by omega))).trans gbE
      have g6V:=(kc6.get m4.next (by omega) (nX2 _ (by omega) (by omega))).trans gbV
      have g6F:=(kc6.get (mm.next + 1) (by omega) (fun h => by have:=(hX2 _ h).2.1; omega)).trans gbF
      have l6:=(kc6.x (m2.next + 1) (by omega) (fun h => (hX2 _ h).2.2.2 rfl)).1.trans lbL
      have z1:m4.next ≠ mm.next:=by omega
      have z2:mm.next ≠ m4.next:=by omega
      have z3:m4.next ≠ mm.next + 1:=by omega
      have z4:mm.next + 1 ≠ m4.next:=by omega
      simp [g6F,g6E,z1,z2,z3,z4,d15]
      by_cases hz:(makeM x r.1).2.2 = 0
      rotate_left
      ·simp [hz,l6]
       have hX3:∀ j,X3 j → (X2 j ∨ mm.next + 2 ≤ j) ∧ j < m6.next:=fun j h => ⟨(hX6 j h).1.imp id fun h => by omega,(hX6 j h).2⟩
       have hne:∀ j,X3 j → j ≠ mm.next + 1 ∧ j ≠ m4.next + 1 ∧ j ≠ m2.next + 1:=fun j h => by
        rcases (hX3 j h).1 with q | q
        ·have q1:=hX2 j q
         exact ⟨by omega,fun e => nX2 _ (by omega) (by omega) (e ▸ q),q1.2.2.2⟩
        ·omega
       have ks:KpC (fun j => (X2 j ∨ j = m4.next ∨ j = m4.next + 1 ∨ j = m2.next + 1) ∨ mm.next ≤ j) mm (((m6.set (mm.next + 1) [int (makeM x r.1).2.1.1,int (makeM x r.1).2.1.2]).set (m4.next + 1) [int (makeM x r.1).2.2]).setLoop (m2.next + 1) .ready none c) :=
        ((((kb.mono fun j h => .inl (.inr (.inr (.inr h)))).trans (kc6.mono fun j h => .inl (.inl h))).trans ((Aao (mm.next + 1) _ _).mono fun j h => .inr (by omega))).trans ((Aao (m4.next + 1) _ _).mono fun j h => .inl (.inr (.inr (.inl h))))).trans ((Adj (m2.next + 1) _ _ _ _).mono fun j h => .inl (.inr (.inr (.inr h))))
       obtain ⟨r1,r2⟩:=Agy (r:=((makeM x r.1).1,r.2.1,(makeM x r.1).2.2)) (V:=m4.next) (E:=m4.next + 1) hX2 kc7 ⟨dbl,dbv,dbe⟩ (by omega) hlt (by omega) (by omega) (by omega) (by omega) ks.cut (((hA6.kc (Aao (mm.next + 1) _ _) fun j h e => absurd e (hne j h).1).kc (Aao (m4.next + 1) _ _) fun j h e => absurd e (hne j h).2.1).kc (Adj (m2.next + 1) _ _ _ _) fun j h e => absurd e (hne j h).2.2) (fun j h => ⟨(hX3 j h).1.imp id fun h => by omega,by have:=(hX3 j h).2; simp; omega⟩) ⟨uV,by simp [z1,z2,z3,z4,g6V]⟩ ⟨m6.clock + 2,by simp⟩
       exact ⟨r1,r2,by omega⟩
      ·have z5:m.next ≠ m4.next + 1:=by omega
       have g60:=(kc6.get m.next (by omega) (nX2 _ (by omega) (by omega))).trans ((kb.get m.next (by omega) (by omega)).trans h0')
       simp [hz,d2,d14,g60,w4,z5,z1,z2,z3,z4,g6V,abuildSlice,zeros,fillAt,abuild,placesOf]
       have hX3:∀ j,X3 j → (X2 j ∨ mm.next + 2 ≤ j) ∧ j < m6.next:=fun j h => ⟨(hX6 j h).1.imp id fun h => by omega,(hX6 j h).2⟩
       have hne:∀ j,X3 j → j ≠ mm.next + 1 ∧ j ≠ m4.next + 1 ∧ j ≠ m2.next + 1 ∧ j ≠ m4.next:=fun j h => by
        rcases (hX3 j h).1 with q | q
        ·have q1:=hX2 j q
         exact ⟨by omega,fun e => nX2 _ (by omega) (by omega) (e ▸ q),q1.2.2.2,fun e => nX2 _ (by omega) (by omega) (e ▸ q)⟩
        ·omega
       obtain ⟨M7,hM7⟩:∃ M7,M7 = (((m6.set (mm.next + 1) [int (makeM x r.1).2.1.1,int (makeM x r.1).2.1.2]).set (m4.next + 1) [int 0]).new [int (makeM x r.1).2.1.1,int (makeM x r.1).2.1.2,int r.2.1.1,int r.2.1.2] false):=⟨_,rfl⟩
       have ks7:KpC (fun j => j = mm.next + 1 ∨ j = m4.next + 1) m6 M7:=by
        rw [hM7]
        exact (((Aao (mm.next + 1) _ _).mono fun j h => .inl h).trans ((Aao (m4.next + 1) _ _).mono fun j h => .inr h)).trans (.of (.of (.new _ _ _)))
       have n7:M7.next = m6.next + 1:=by rw [hM7]; simp
       have hA7':Ar X3 A (makeM x r.1).1 M7:=hA6.kc ks7 fun j h e => by have:=hne j h; omega
       obtain ⟨w7,g7⟩:∃ w,M7.get m6.next = some (.cells [int (makeM x r.1).2.1.1,int (makeM x r.1).2.1.2,int r.2.1.1,int r.2.1.2] false w):=⟨_,by rw [hM7]; simp; rfl⟩
       obtain ⟨u7E,g7E⟩:∃ w,M7.get (m4.next + 1) = some (.cells [int 0] false w):=⟨m6.clock + 2,by
        have a1:m4.next + 1 ≠ m6.next:=by omega
        rw [hM7]; simp [a1]⟩
       have l7:M7.loop (m2.next + 1) = some ⟨.busy,none,c,uL⟩:=by rw [hM7]; simp; exact l6
       rw [← hM7]
       clear hM7
       have hA8:Ar X3 A (makeM x r.1).1 (M7.mark m6.next (flat (vals [(makeM x r.1).2.1,r.2.1])) w7):=hA7'.kc (Ami m6.next _ _ _) fun j h e => by have:=(hX3 j h).2; omega
       refine Aad (Ahz Tryz.func69 rfl rfl rfl (Axx (x:=(makeM x r.1).2.1) (y:=r.2.1) g7) (by simp [fzvs]) (q60 hA8 ⟨1,0,[(makeM x r.1).2.1,r.2.1],[]⟩ (by simp) (by simp))) ?_
       rintro _ m9 ⟨rfl,hup⟩
       obtain ⟨X4,hA9,kc9,hX9⟩:=hup.out
       have n9:=kc9.next
       simp [n7] at n9
       have nX3:∀ j,m.next ≤ j → j < M5.next → ¬ X3 j:=fun j q1 q2 h => by
        rcases (hX3 j h).1 with q | q
        ·exact nX2 j q1 q2 q
        ·omega
       have kall:KpC (fun j => (X2 j ∨ j = m4.next ∨ j = m4.next + 1 ∨ j = m2.next + 1) ∨ mm.next ≤ j) mm m9 :=
        ((((kb.mono fun j h => .inl (.inr (.inr (.inr h)))).trans (kc6.mono fun j h => .inl (.inl h))).trans (ks7.mono fun j h => h.elim (fun h => .inr (by omega)) fun h => .inl (.inr (.inr (.inl h))))).trans ((Ami m6.next _ _ _).mono fun j h => .inr (by omega))).trans (kc9.mono fun j h => (hX3 j h).1.imp .inl fun h => by omega)
       have g9V:m9.get m4.next = some (.cells [int r.2.1.1,int r.2.1.2] false uV):=by
        rw [kc9.get m4.next (by simp; omega) (nX3 _ (by omega) (by omega))]
        have a1:m4.next ≠ m6.next:=by omega
        simp [a1]
        rw [ks7.get m4.next (by omega) (by omega)]
        exact g6V
       have g9E:m9.get (m4.next + 1) = some (.cells [int 0] false u7E):=by
        rw [kc9.get (m4.next + 1) (by simp; omega) (nX3 _ (by omega) (by omega))]
        have a1:m4.next + 1 ≠ m6.next:=by omega
        simp [a1]
        exact g7E
       have l9:m9.loop (m2.next + 1) = some ⟨.busy,none,c,uL⟩:=by
        rw [(kc9.x (m2.next + 1) (by simp; omega) (fun h => (hne _ h).2.2.1 rfl)).1]
        simp
        exact l7
       simp [d14,d15,g9V,g9E,l9]
       have hX4:∀ j,X4 j → (X2 j ∨ mm.next + 2 ≤ j) ∧ j < m9.next:=fun j h => by
        refine ⟨?_,(hX9 j h).2⟩
        rcases (hX9 j h).1 with q | q
        ·exact (hX3 j q).1
        ·simp at q; exact .inr (by omega)
       have hne4:∀ j,X4 j → j ≠ m4.next + 1 ∧ j ≠ m2.next + 1 ∧ j ≠ m4.next:=fun j h => by
        rcases (hX4 j h).1 with q | q
        ·exact ⟨fun e => nX2 _ (by omega) (by omega) (e ▸ q),(hX2 j q).2.2.2,fun e => nX2 _ (by omega) (by omega) (e ▸ q)⟩
        ·omega
       obtain ⟨al,hal2⟩:∃ al,al = allocM (makeM x r.1).1 ⟨1,0,[(makeM x r.1).2.1,r.2.1],[]⟩:=⟨_,rfl⟩
       rw [← hal2] at hA9 ⊢
       have ks:KpC (fun j => (X2 j ∨ j = m4.next ∨ j = m4.next + 1 ∨ j = m2.next + 1) ∨ mm.next ≤ j) mm (((m9.set m4.next [int al.2.1.1,int al.2.1.2]).set (m4.next + 1) [int al.2.2]).setLoop (m2.next + 1) .ready none c) :=
        ((kall.trans ((Aao m4.next _ _).mono fun j h => .inl (.inr (.inl h)))).trans ((Aao (m4.next + 1) _ _).mono fun j h => .inl (.inr (.inr (.inl h))))).trans ((Adj (m2.next + 1) _ _ _ _).mono fun j h => .inl (.inr (.inr (.inr h))))
       obtain ⟨r1,r2⟩:=Agy (r:=al) (V:=m4.next) (E:=m4.next + 1) hX2 kc7 ⟨dbl,dbv,dbe⟩ (by omega) hlt (by omega) (by omega) (by omega) (by omega) ks.cut (((hA9.kc (Aao m4.next _ _) fun j h e => absurd e (hne4 j h).2.2).kc (Aao (m4.next + 1) _ _) fun j h e => absurd e (hne4 j h).1).kc (Adj (m2.next + 1) _ _ _ _) fun j h e => absurd e (hne4 j h).2.1) (fun j h => ⟨(hX4 j h).1.imp id fun h => by omega,by have:=(hX4 j h).2; simp; omega⟩) ⟨m9.clock + 1,by simp⟩ ⟨m9.clock + 2,by simp⟩
       exact ⟨r1,r2,by omega⟩
    ·rw [List.drop_length,lstM]
     have w5:m4.next ≠ m2.next:=by omega
     have w6:m4.next + 1 ≠ m2.next:=by omega
     refine ⟨⟨X1,hA2.kp (by simp),fun j h => ⟨(hX1 j h).1,?_,(hX1 j h).2.2.1,?_⟩,kc2.trans (.of (.of (by simp))),⟨wV,by simp [w5,gV2]⟩,⟨wE,by simp [w6,gE2]⟩⟩,⟨by simp,_,by simp; rfl⟩,_,by simp; rfl,by simp⟩
     ·have:=(hX1 j h).2.1; simp; omega
     ·have:=(hX1 j h).2.1; omega
    ·rintro v mm ⟨rfl,⟨X2,hA7,hX2,kc7,⟨uV,hV⟩,⟨uE,hE⟩⟩,_,ver,hloop,hlt⟩
     rw [List.drop_zero] at hA7 hV hE
     have nn:=kc7.next
     have h2':=(kc7.get (m.next + 2) (by omega) (own _ (by omega) (by omega))).trans f2
     have kfin:KpC (fun j => X j ∧ j < m.next) m4 (mm.killLoop (m2.next + 1)):=by
      have a1:KpC (fun j => (X j ∧ j < m.next) ∨ m4.next ≤ j) m4 mm:=(KpC.of (.of kM5)).trans (kc7.mono fun j h => h.imp id fun h => by omega)
      have a2:KpC (fun j => (X j ∧ j < m.next) ∨ m4.next ≤ j) mm (mm.killLoop (m2.next + 1)):=⟨by simp,fun id hi hx => by simp,fun id hi hx => by
       have:id ≠ m2.next + 1:=fun e => hx (.inr (by omega))
       simp [this]⟩
      exact (a1.trans a2).cut
     have hA8:Ar X2 A (lstM L r0).1 (mm.killLoop (m2.next + 1)):=hA7.kc (Y:=fun j => j = m2.next + 1) ⟨by simp,fun id hi hx => by simp,fun id hi hx => by
      have:id ≠ m2.next + 1:=hx
      simp [this]⟩ fun j h e => absurd e (hX2 j h).2.2.2
     have hX8:∀ j,X2 j → (X j ∧ j < m.next) ∨ m4.next ≤ j:=fun j h => (hX2 j h).1.imp id fun h => by omega
     refine ⟨_,.normal,by simpa using hloop,by simp,rfl,?_⟩
     by_cases hz:(lstM L r0).2.2 = 0
     ·simp [d15,d14,d4,hE,hV,hz,h2']
      refine fin _ _ (lstM L r0).2.1 0 (lstM L r0).1 (by simp [d4]) (by simp) ⟨_,by simp; rfl⟩ (by rw [hmk,if_neg (by simp [hz]),← hz]) ?_
      exact (Agk k4 kfin hA8 hX8 (fun j h => h.2) (by omega) hlt2 _).less
     ·simp [d15,d14,d4,hE,hV,hz]
      refine Aaq (by kernel_rfl) ?_
      simp [d15,d14,d4,hE,hV,hz,h2',Aa8]
      have w7:m4.next + 1 ≠ m.next + 2:=by omega
      have w8:m4.next ≠ m.next + 1:=by omega
      refine Aa2 (l:=[(1,2)]) (by kernel_rfl) (?_:List.all _ _ = true) ?_
      ·simp [metAtD,metOkD,rank,verKeptD,Region.wanted,Mem.ver,hE,w7,Ne.symm w7,w8]
      simp [d4]
      refine fin _ _ (0,0) (lstM L r0).2.2 (lstM L r0).1 (by simp [d4]) (by simp) ⟨_,by simp; rfl⟩ (by rw [hmk,if_pos hz]) ?_
      exact (Agk k4 kfin hA8 hX8 (fun j h => h.2) (by omega) hlt2 _).less
def ofM (d:Dat) (a:ArM):ArM × Val × Int:=if chk d = 0 then makeM d a else (a,(0,0),chk d)
theorem q21 {X:Nat → Prop} {A:Nat} {a:ArM} {m:Mem} (hA:Ar X A a m) (d:Dat) (hd:d.fits):wph Tryz.prog ca (.func 18) [.ptr A 0,enc d] m fun v m' => v = .tup [valA (ofM d a).2.1,int (ofM d a).2.2] ∧ Up X A (ofM d a).1 m m':=by
 refine Aah Tryz.func18 rfl rfl (by simp [Tryz.f18]) (by simp [Tryz.f18]) fun Q hQ => ?_
 simp only [Tryz.f18,show ca.keepRes 18 = false from rfl,show ca.keepArgs 18 = false from rfl] at hQ ⊢
 have k1:Kp m ((m.new (enc d).cells false).new [int 0,int 0] false):=by simp
 have q1:=q34 (hA.kp k1)
 have fin:∀ (s':Sl) (m':Mem) (v:Val) (e:Int) (a':ArM),s'.at 4 = .ptr (m.next + 1) 0 → s'.at 5 = int e → (∃ w,m'.get (m.next + 1) = some (.cells [int v.1,int v.2] false w)) → ofM d a = (a',v,e) → Up X A a' m m' → Q .ret s' m':=by
  intro s' m' v e a' h4 h5 ⟨w,hg⟩ hm hu
  refine hQ _ _ _ ?_
  rw [Aam]
  refine ⟨_,by simp [aresult,h4,h5,hg,aload,partOf]; rfl,?_⟩
  rw [hm]
  simp only [Bool.false_eq_true,if_false,oneOf,Amt]
  exact ⟨trivial,hu⟩
 simp [q1.go,(An7 (g14 d hd)).go]
 by_cases hc:chk d = 0
 ·simp [hc]
  refine Aad (q36 d.size d (Nat.le_refl _) hd (Aw3 hc).1 _ a _ (hA.cut.kp k1)) ?_
  rintro _ m5 ⟨rfl,hup⟩
  obtain ⟨X1,hA5,kc5,hX5⟩:=hup.out
  have g5:m5.get (m.next + 1) = some (.cells [int 0,int 0] false (m.clock + 2)):=by
   rw [kc5.get (m.next + 1) (by simp) (fun h => by omega)]
   simp
  simp [g5]
  refine fin _ _ (makeM d a).2.1 (makeM d a).2.2 (makeM d a).1 (by simp) (by simp) ⟨_,by simp; rfl⟩ (by rw [ofM,if_pos hc]) ?_
  exact (Agk k1 kc5 hA5 (fun j h => (hX5 j h).1) (fun j h => h.2) (by omega) (by simp) _).less
 ·simp [hc,Aa8]
  refine fin _ _ (0,0) (chk d) a (by simp) (by simp) ⟨_,by simp; rfl⟩ (by rw [ofM,if_neg hc]) (Up.kp hA (by simp))
theorem two51:Two Tryz.prog 53 3 2:=⟨⟨_,_,Tryz.underlying53,by decide,by decide,rfl,rfl,rfl,rfl⟩,tagg3,tagg2,by kernel_rfl,by kernel_rfl⟩
theorem And {xo yo:Operand} (v w:Val):abin Tryz.prog .eql 53 xo yo (valA v) (valA w) = some (.sc (.bool (decide (v = w)))):=by
 have:=(Axf (xo:=xo) (yo:=yo) two51 (x1:=.int .i64 v.1) (y1:=.int .i64 w.1) (x2:=.int .i64 v.2) (y2:=.int .i64 w.2) (b1:=decide (v.1 = w.1)) (b2:=decide (v.2 = w.2)) (fun d => by rw [Ag8 Tryz.underlying3]) (fun d => by rw [Ag8 Tryz.underlying2])).1
 have e:decide (v = w) = (decide (v.1 = w.1) && decide (v.2 = w.2)):=by
  obtain ⟨a,b⟩:=v
  obtain ⟨c,d⟩:=w
  simp [Prod.ext_iff]
 rw [e]
 exact this
mutual
def eqM (a:ArM):Nat → Int → Val → Val → Bool × Int
 | 0,left,_,_ => (false,left)
 | n + 1,left,x,y =>
  if left - 1 < 0 then (false,left - 1) else if x = y then (true,left - 1) else
  match ixM a x,ixM a y with
  | some i,some j => if (a.cells.getD i zeroC).k ≠ (a.cells.getD j zeroC).k ∨ 3 < (a.cells.getD i zeroC).k ∨ (a.cells.getD i zeroC).s ≠ (a.cells.getD j zeroC).s then (false,left - 1) else
   if (a.cells.getD i zeroC).a.length ≠ (a.cells.getD j zeroC).a.length then (false,left - 1) else eqsM a n (left - 1) (a.cells.getD i zeroC).a (a.cells.getD j zeroC).a
  | _,_ => (false,left - 1)
def eqsM (a:ArM):Nat → Int → List Val → List Val → Bool × Int
 | n,left,x :: xs,y :: ys => if (eqM a n left x y).1 = true then eqsM a n (eqM a n left x y).2 xs ys else (false,(eqM a n left x y).2)
 | _,left,_,_ => (true,left)
end
theorem Arv {a:ArM} {n:Nat} (ih:∀ left x y,0 ≤ left → (eqM a n left x y).2 ≤ left ∧ -1 ≤ (eqM a n left x y).2 ∧ ((eqM a n left x y).1 = true → 0 ≤ (eqM a n left x y).2)):∀ (xs ys:List Val) (left:Int),0 ≤ left → (eqsM a n left xs ys).2 ≤ left ∧ -1 ≤ (eqsM a n left xs ys).2 ∧ ((eqsM a n left xs ys).1 = true → 0 ≤ (eqsM a n left xs ys).2)
 | [],ys,left,h => by rw [eqsM]; exact ⟨Int.le_refl _,by omega,fun _ => h⟩; simp
 | x :: xs,[],left,h => by rw [eqsM]; exact ⟨Int.le_refl _,by omega,fun _ => h⟩; simp
 | x :: xs,y :: ys,left,h => by
  obtain ⟨h1,h2,h3⟩:=ih left x y h
  rw [eqsM]
  split
  ·rename_i hc
   have:=Arv ih xs ys (eqM a n left x y).2 (h3 hc)
   exact ⟨by omega,this.2⟩
  ·exact ⟨h1,h2,by simp⟩
theorem eq_le (a:ArM):∀ (n:Nat) (left:Int) (x y:Val),0 ≤ left → (eqM a n left x y).2 ≤ left ∧ -1 ≤ (eqM a n left x y).2 ∧ ((eqM a n left x y).1 = true → 0 ≤ (eqM a n left x y).2)
 | 0,left,x,y,h => by rw [eqM]; exact ⟨Int.le_refl _,by omega,by simp⟩
 | n + 1,left,x,y,h => by
  rw [eqM]
  split
  ·exact ⟨by dsimp only; omega,by dsimp only; omega,by simp⟩
  split
  ·exact ⟨by dsimp only; omega,by dsimp only; omega,fun _ => by dsimp only; omega⟩
  split
  ·split
   ·exact ⟨by dsimp only; omega,by dsimp only; omega,by simp⟩
   split
   ·exact ⟨by dsimp only; omega,by dsimp only; omega,by simp⟩
   have:=Arv (n:=n) (fun l x y h => eq_le a n l x y h) (a.cells.getD ‹_› zeroC).a (a.cells.getD ‹_› zeroC).a (left - 1) (by omega)
   rename_i i j _ _ _ _
   have:=Arv (n:=n) (fun l x y h => eq_le a n l x y h) (a.cells.getD i zeroC).a (a.cells.getD j zeroC).a (left - 1) (by omega)
   exact ⟨by omega,this.2⟩
  ·exact ⟨by dsimp only; omega,by dsimp only; omega,by simp⟩
theorem q76 {A L v:Nat} {left:Int} {m:Mem} (h:m.get L = some (.cells [.ptr A 0,int left] false v)) (h1:0 ≤ left) (h2:left ≤ 1024):EH Tryz.prog ca (.func 133) [.ptr L 0] m (.sc (.bool (decide (0 ≤ left - 1)))) (m.set L [.ptr A 0,int (left - 1)]):=by
 refine eh_of ?_
 refine Aah Tryz.func133 rfl rfl (by simp [Tryz.f133]) (by simp [Tryz.f133]) fun Q hQ => ?_
 simp only [Tryz.f133,show ca.keepRes 133 = false from rfl,show ca.keepArgs 133 = false from rfl] at hQ ⊢
 have hw:IntKind.i64.wrap (left - 1) = left - 1:=IntWalk.i64_in _ (by omega)
 simp [h,hw]
 refine hQ _ _ _ ?_
 simp
theorem El.kc {m m':Mem} {x:AV} {l:List Val} {Y:Nat → Prop} (h:El m x l) (k:KpC Y m m') (hY:∀ j,owns x j → ¬ Y j):El m' x l:=by
 rcases h with rfl | ⟨rfl,rfl⟩ | ⟨h,id,v,f,rfl,h1,h2⟩
 ·exact .inl rfl
 ·exact .inr (.inl ⟨rfl,rfl⟩)
 ·exact .inr (.inr ⟨h,id,v,f,rfl,Nat.lt_of_lt_of_le h1 k.next,by rw [k.get id h1 (hY id rfl)]; exact h2⟩)
theorem El.len {m m':Mem} {x:AV} {l:List Val} {R:TypeId} (h:El m x l):abuiltin Tryz.prog .len #[46] R [x] m' = some (int l.length,m'):=by
 rcases h with rfl | ⟨rfl,rfl⟩ | ⟨_,id,v,f,rfl,_⟩
 ·rw [Abj Tryz.underlying46,Aa0]
 ·exact Ae3 Tryz.underlying46
 ·rw [Adp Tryz.underlying46]
theorem El.at {m:Mem} {x:AV} {l:List Val} (h:El m x l) {i:Nat} {v:Val} (hv:l[i]? = some v):∃ p,aindexAddr Tryz.prog 46 x (int i) = some p ∧ ∀ m',(∀ j,owns x j → m'.get j = m.get j) → aload Tryz.prog 53 p m' = some (valA v):=by
 have hi:=(List.getElem?_eq_some_iff.1 hv).1
 rcases h with rfl | ⟨rfl,rfl⟩ | ⟨_,id,w,f,rfl,h1,h2⟩
 ·refine ⟨_,Abp hv,fun m' _ => ?_⟩
  simp [aload,Aet Aqg Abb,Aab]
 ·simp at hv
 ·have hv':(vals l)[i]? = some (valA v):=by rw [Af5,hv]; rfl
  obtain ⟨q1,q2⟩:=Aeb (Aba l) hv'
  refine ⟨_,Aax Tryz.underlying46 Abb hi,fun m' hm => ?_⟩
  have hg:=(hm id rfl).trans h2
  simp only [aload,hg,Nat.zero_add]
  rw [Aet Aqg Abb,if_pos q1,q2]
  rfl
theorem El.okc {m:Mem} {x:AV} {l:List Val} (h:El m x l):x.okc = true ∧ x.cells = [x]:=by
 rcases h with rfl | ⟨_,rfl⟩ | ⟨_,id,v,f,rfl,_⟩ <;> exact ⟨rfl,rfl⟩
theorem Alg:∀ s:List UInt8,(byts s).mapM V.byteOf = some s
 | [] => rfl
 | b :: s => by
  have ih:=Alg s
  have hb:V.byteOf (.sc (.int .u8 b.toNat)) = some b:=by simp [V.byteOf]
  simp only [byts,List.map_cons,List.mapM_cons,hb] at ih ⊢
  rw [ih]
  rfl
def EqK (A L:Nat) (r:Bool × Int) (m:Mem) (v:AV) (m':Mem):Prop:=v = .sc (.bool r.1) ∧ has m' L [.ptr A 0,int r.2] ∧ KpC (fun j => j = L) m m'
theorem q78 {X:Nat → Prop} {A L:Nat} {a:ArM} {n:Nat} (ih:∀ (left:Int) (x y:Val) (m:Mem),Ar X A a m → has m L [.ptr A 0,int left] → 0 ≤ left → left ≤ 1024 → left < n → wph Tryz.prog ca (.func 124) [.ptr L 0,valA x,valA y] m (EqK A L (eqM a n left x y) m))
  (hXL:¬ X L) {x1 x2:AV} {l1 l2:List Val} {left:Int} {m:Mem} (hA:Ar X A a m) (hL:has m L [.ptr A 0,int left]) (h0:0 ≤ left) (h1:left ≤ 1024) (hn0:left < n) (e1:El m x1 l1) (e2:El m x2 l2) (o1:∀ j,owns x1 j → X j) (o2:∀ j,owns x2 j → X j) (hl:l1.length ≤ 4096) :
  wph Tryz.prog ca (.func 134) [x1,x2,.fn (.func 124) [.ptr L 0] []] m (EqK A L (if l1.length ≠ l2.length then (false,left) else eqsM a n left l1 l2) m):=by
 refine Aah Tryz.func134 rfl rfl (by simp [Tryz.f134]) (by simp [Tryz.f134]) fun Q hQ => ?_
 simp only [Tryz.f134,show ca.keepRes 134 = false from rfl,show ca.keepArgs 134 = true from rfl] at hQ ⊢
 have fin:∀ (e:Ex) (s':Sl) (m':Mem) (r:Bool × Int),(e = .normal ∨ e = .ret) → s'.at 6 = .sc (.bool r.1) → has m' L [.ptr A 0,int r.2] → KpC (fun j => j = L) m m' → (if l1.length ≠ l2.length then (false,left) else eqsM a n left l1 l2) = r → Q e s' m':=by
  intro e s' m' r he h6 hL' kc hr
  rw [hr] at hQ
  exact hQ _ _ _ (Aac he h6 ⟨rfl,hL',kc⟩)
 simp [e1.len,e2.len]
 by_cases hln:l1.length = l2.length
 rotate_left
 ·have hln':¬ (l1.length:Int) = l2.length:=by omega
  simp [hln']
  exact fin _ _ _ (false,left) (.inr rfl) (by simp) hL (.refl _ _) (if_pos hln)
 simp [hln,e1.len]
 refine Aas 17 l2.length (fun i s' m' => ∃ lf,eqsM a n left l1 l2 = eqsM a n lf (l1.drop i) (l2.drop i) ∧ 0 ≤ lf ∧ lf ≤ 1024 ∧ lf < n ∧ has m' L [.ptr A 0,int lf] ∧ KpC (fun j => j = L) m m') (by simp) (by omega) ⟨left,by simp,h0,h1,hn0,hL,.refl _ _⟩ ?_
 rintro i s' m' hi e17 ⟨lf,heq,hf0,hf1,hf2,hL',kc⟩ hsame hw Q' hn he
 have d1:s'.at 1 = x2:=(hsame 1 (by kernel_rfl)).trans (by simp)
 have d2:s'.at 2 = .fn (.func 124) [.ptr L 0] []:=(hsame 2 (by kernel_rfl)).trans (by simp)
 have d15:s'.at 15 = x1:=(hsame 15 (by kernel_rfl)).trans (by simp)
 have d16:s'.at 16 = int l2.length:=(hsame 16 (by kernel_rfl)).trans (by simp)
 clear hsame
 simp [e17,d16]
 refine Aal (fun h => ?_) fun h => ?_
 ·have hlt:i < l2.length:=by simpa using h
  obtain ⟨v1,hv1⟩:∃ v,l1[i]? = some v:=⟨_,List.getElem?_eq_getElem (by omega)⟩
  obtain ⟨v2,hv2⟩:∃ v,l2[i]? = some v:=⟨_,List.getElem?_eq_getElem hlt⟩
  obtain ⟨p1,a1,b1⟩:=(e1.kc kc fun j hj e => hXL (e ▸ o1 j hj)).at hv1
  obtain ⟨p2,a2,b2⟩:=(e2.kc kc fun j hj e => hXL (e ▸ o2 j hj)).at hv2
  have na1:∀ cs,aload Tryz.prog 53 p2 ((m'.new [int 0,int 0] false).set m'.next cs) = some (valA v2):=fun cs => b2 _ fun j hj => by
   have:j < m'.next:=by
    rcases e2 with rfl | ⟨_,rfl⟩ | ⟨_,id,w,f,rfl,q,_⟩
    ·exact hj.elim
    ·exact hj.elim
    ·have e:id = j:=hj
     have:=kc.next
     omega
   have hne:j ≠ m'.next:=by omega
   simp [hne]
  simp [e17,d15,d1,a1,b1 m' (fun _ _ => rfl),a2,na1,d2,Aab]
  obtain ⟨Mc,hMc⟩:∃ Mc,Mc = (((m'.new [int 0,int 0] false).set m'.next [int v1.1,int v1.2]).new [int 0,int 0] false).set (m'.next + 1) [int v2.1,int v2.2]:=⟨_,rfl⟩
  have kMc:Kp m' Mc:=by rw [hMc]; simp
  rw [← hMc]
  have hAc:Ar X A a Mc:=(hA.kc kc fun j hj e => absurd hj (e ▸ hXL)).kp kMc
  refine Aad (ih lf v1 v2 Mc hAc (hL'.kp kMc) hf0 hf1 hf2) ?_
  rintro _ m5 ⟨rfl,hL5,kc5⟩
  obtain ⟨b1,b2,b3⟩:=eq_le a n lf v1 v2 hf0
  have hd1:l1.drop i = v1 :: l1.drop (i + 1):=by
   obtain ⟨h1,h2⟩:=List.getElem?_eq_some_iff.1 hv1
   rw [← h2,List.getElem_cons_drop]
  have hd2:l2.drop i = v2 :: l2.drop (i + 1):=by
   obtain ⟨h1,h2⟩:=List.getElem?_eq_some_iff.1 hv2
   rw [← h2,List.getElem_cons_drop]
  rw [hd1,hd2,eqsM] at heq
  have kall:KpC (fun j => j = L) m m5:=(kc.trans (.of (.of kMc))).trans kc5
  cases hq:(eqM a n lf v1 v2).1 with
  | true =>
   rw [if_pos hq] at heq
   simp [e17,hw]
   exact hn _ _ hlt (by simp) ⟨_,heq,b3 hq,by omega,by omega,hL5,kall⟩
  | false =>
   rw [if_neg (by simp [hq])] at heq
   simp
   refine he _ _ _ (by simp) ?_
   simp
   exact fin _ _ _ (false,(eqM a n lf v1 v2).2) (.inr rfl) (by simp) hL5 kall (by rw [if_neg (by simp [hln]),heq])
 ·have hge:i = l2.length:=by have:=of_decide_eq_false h; omega
  subst hge
  simp
  refine he _ _ _ (by simp) ?_
  simp
  refine fin _ _ _ (true,lf) (.inr rfl) (by simp) hL' kc ?_
  rw [if_neg (by simp [hln]),heq,List.drop_eq_nil_of_le (Nat.le_of_eq hln),eqsM]
  simp
theorem q42 {X:Nat → Prop} {A L:Nat} {a:ArM} (hsm:Small a) (hXL:¬ X L):∀ (n:Nat) (left:Int) (x y:Val) (m:Mem),Ar X A a m → has m L [.ptr A 0,int left] → 0 ≤ left → left ≤ 1024 → left < n → wph Tryz.prog ca (.func 124) [.ptr L 0,valA x,valA y] m (EqK A L (eqM a n left x y) m)
 | 0,left,x,y,m,_,_,h0,_,h2 => by omega
 | n + 1,left,x,y,m,hA,hL,h0,h1,h2 => by
  have ih:=q42 (X:=X) (A:=A) (L:=L) hsm hXL n
  refine Aah Tryz.func124 rfl rfl (by simp [Tryz.f124]) (by simp [Tryz.f124]) fun Q hQ => ?_
  simp only [Tryz.f124,show ca.keepRes 124 = false from rfl,show ca.keepArgs 124 = false from rfl] at hQ ⊢
  obtain ⟨hLl,wL,gL⟩:=hL
  have nL:m.next ≠ L:=by omega
  have nL1:m.next + 1 ≠ L:=by omega
  have nL':L ≠ m.next:=by omega
  have nL1':L ≠ m.next + 1:=by omega
  have k1:Kp m ((m.new [int x.1,int x.2] false).new [int y.1,int y.2] false):=by simp
  obtain ⟨M1,hM1⟩:∃ M1,M1 = ((m.new [int x.1,int x.2] false).new [int y.1,int y.2] false).set L [.ptr A 0,int (left - 1)]:=⟨_,rfl⟩
  have kc1:KpC (fun j => j = L) m M1:=by
   rw [hM1]
   exact (KpC.of (.of k1)).trans (Aao L _ _)
  have hA1:Ar X A a M1:=hA.kc kc1 fun j hj e => absurd hj (e ▸ hXL)
  have hL1:has M1 L [.ptr A 0,int (left - 1)]:=by rw [hM1]; exact ⟨by simp; omega,m.clock + 3,by simp⟩
  have gx:M1.get m.next = some (.cells [int x.1,int x.2] false (m.clock + 1)):=by rw [hM1]; simp [nL]
  have gy:M1.get (m.next + 1) = some (.cells [int y.1,int y.2] false (m.clock + 2)):=by rw [hM1]; simp [nL1]
  have qp:=q76 (A:=A) (L:=L) (v:=wL) (left:=left) (m:=(m.new [int x.1,int x.2] false).new [int y.1,int y.2] false) (by simp [nL',nL1',gL]) h0 h1
  rw [← hM1] at qp
  clear hM1
  have fin:∀ (e:Ex) (s':Sl) (m':Mem) (r:Bool × Int),(e = .normal ∨ e = .ret) → s'.at 6 = .sc (.bool r.1) → has m' L [.ptr A 0,int r.2] → KpC (fun j => j = L) M1 m' → eqM a (n + 1) left x y = r → Q e s' m':=by
   intro e s' m' r he h6 hL' kc hr
   rw [hr] at hQ
   exact hQ _ _ _ (Aac he h6 ⟨rfl,hL',kc1.trans kc⟩)
  simp [qp.go]
  by_cases hl:left - 1 < 0
  ·have hl':¬ 0 ≤ left - 1:=by omega
   have hl1:¬ 1 ≤ left:=by omega
   simp [hl1]
   exact fin _ _ _ (false,left - 1) (.inr rfl) (by simp) hL1 (.refl _ _) (by rw [eqM,if_pos hl])
  have hl1:1 ≤ left:=by omega
  simp [hl1,gx,gy,Aab,And]
  by_cases hxy:x = y
  ·simp [hxy]
   exact fin _ _ _ (true,left - 1) (.inr rfl) (by simp) hL1 (.refl _ _) (by rw [eqM,if_neg hl,if_pos hxy])
  simp [hxy]
  obtain ⟨t,M,cs,ns,xs,h,hx⟩:=id hA1
  have hcx:=q77 h hx x
  have hcy:=q77 h hx y
  have hL1':=hL1
  obtain ⟨_,wL1,gL1⟩:=hL1
  refine Aaq (by kernel_rfl) ?_
  simp [gL1,gx,gy,Aab,hcx.go,hcy.go]
  refine Aa2 (l:=[(5,9),(5,10)]) (by kernel_rfl) (?_:List.all _ _ = true) ?_
  ·simp [metAtD,metOkD,rank,verKeptD,Region.wanted,Mem.ver,gL1,gx,gy]
  simp
  have hfalse:∀ (s':Sl),s'.at 6 = .sc (.bool false) → eqM a (n + 1) left x y = (false,left - 1) → Q .ret s' M1:=fun s' q1 q2 => fin _ _ _ (false,left - 1) (.inr rfl) q1 hL1' (.refl _ _) q2
  cases hix:ixM a x with
  | none =>
   have c1:cellP a cs x = .sc (.pointer none):=by simp [cellP,hix]
   refine Aat (by kernel_rfl) (by kernel_rfl) ?_
   simp [c1,Aqz,undefV,undef]
   exact hfalse _ (by simp) (by rw [eqM,if_neg hl,if_neg hxy,hix])
  | some i =>
  obtain ⟨hxi,c,hc⟩:=Ac7 hix
  obtain ⟨C,vc,x1,rfl,hC,htC,hgC,hxi1,hzi,hrow⟩:=h.at hc
  have c1:cellP a (.sl C 0 a.cells.length 4 true none) x = .ptr C (i * 4):=by simp [cellP,hix,blk]
  cases hiy:ixM a y with
  | none =>
   have c2:cellP a (.sl C 0 a.cells.length 4 true none) y = .sc (.pointer none):=by simp [cellP,hiy]
   refine Aat (by kernel_rfl) (by kernel_rfl) ?_
   simp [c1,c2,Aqz,eq135,undefV,undef]
   exact hfalse _ (by simp) (by rw [eqM,if_neg hl,if_neg hxy,hix,hiy])
  | some j =>
  obtain ⟨hyj,d,hd⟩:=Ac7 hiy
  obtain ⟨C',vc',y1,hC',_,_,_,hyj1,hzj,hrow2⟩:=h.at hd
  obtain rfl:C = C':=by cases hC'; rfl
  have c2:cellP a (.sl C 0 a.cells.length 4 true none) y = .ptr C (j * 4):=by simp [cellP,hiy,blk]
  obtain ⟨f1,f2⟩:=Aeb (Ahx a.cells xs) hzi
  obtain ⟨g1,g2⟩:=Aeb (Ahx a.cells xs) hzj
  have hgi:a.cells.getD i zeroC = c:=by simp [List.getD_eq_getElem?_getD,hc]
  have hgj:a.cells.getD j zeroC = d:=by simp [List.getD_eq_getElem?_getD,hd]
  have part:∀ {k:Nat} {r:AV} (q:Nat) (T:TypeId) (w:AV),k * 4 + 4 ≤ (flat (List.zipWith rowA a.cells xs)).length → ((flat (List.zipWith rowA a.cells xs)).drop (k * 4)).take 4 = r.cells → r.cells[q]? = some w → (flat (List.zipWith rowA a.cells xs))[k * 4 + q]? = some w:=by
   intro k r q T w h1 h2 h3
   have hq:q < 4:=by
    have:=(List.getElem?_eq_some_iff.1 h3).1
    rw [← h2] at this
    simp at this
    omega
   rw [← h2,List.getElem?_take_of_lt hq,List.getElem?_drop] at h3
   exact h3
  have px0:=part 0 3 (int c.k) f1 f2 rfl
  have px2:=part 2 3 x1 f1 f2 rfl
  have px3:=part 3 3 (.lst (byts c.s)) f1 f2 rfl
  have py0:=part 0 3 (int d.k) g1 g2 rfl
  have py2:=part 2 3 y1 g1 g2 rfl
  have py3:=part 3 3 (.lst (byts d.s)) g1 g2 rfl
  simp only [Nat.add_zero] at px0 py0
  have heqM:eqM a (n + 1) left x y = (if c.k ≠ d.k ∨ 3 < c.k ∨ c.s ≠ d.s then (false,left - 1) else if c.a.length ≠ d.a.length then (false,left - 1) else eqsM a n (left - 1) c.a d.a):=by rw [eqM,if_neg hl,if_neg hxy,hix,hiy]; simp only [hgi,hgj]
  refine Aat (by kernel_rfl) (by kernel_rfl) ?_
  by_cases hk:c.k = d.k
  rotate_left
  ·simp [c1,c2,eq135,hgC,px0,py0,px3,py3,hk,undefV,undef]
   exact hfalse _ (by simp) (by rw [heqM,if_pos (.inl hk)])
  by_cases hk3:3 < c.k
  ·have hk3':3 < d.k:=by omega
   simp [c1,c2,eq135,hgC,px0,py0,px3,py3,hk,hk3',undefV,undef]
   exact hfalse _ (by simp) (by rw [heqM,if_pos (.inr (.inl hk3))])
  have hk3':¬ 3 < d.k:=by omega
  have hby:∀ s:List UInt8,aconvert Tryz.prog 100 9 (.lst (byts s)) = some (.sc (.string ⟨⟨s⟩⟩)):=fun s => Am9 Tryz.underlying100 Tryz.underlying9 Tryz.underlying5 (Alg s)
  by_cases hs:c.s = d.s
  rotate_left
  ·simp [c1,c2,eq135,hgC,px0,py0,px3,py3,hk,hk3',hby,hs]
   exact hfalse _ (by simp) (by rw [heqM,if_pos (.inr (.inr hs))])
  ·simp [c1,c2,eq135,hgC,px0,py0,px3,py3,hk,hk3',hby,hs]
   refine Aat (by kernel_rfl) (by kernel_rfl) ?_
   have ox:=(El.of hrow).okc
   have oy:=(El.of hrow2).okc
   have ownX:∀ {z:AV} {k:Nat} {l:List Val},Has t (4 + k) 2 true (.emp 1) M1 z (vals l) → ∀ j,owns z j → X j:=by
    intro z k l hh j hj
    rcases hh with ⟨_,rfl⟩ | ⟨_,id,w,rfl,_,ht,_⟩
    ·exact hj.elim
    ·have e:id = j:=hj
     subst e
     exact (hx _ (by rw [ht]; simp)).1
   simp [hgC,px2,py2]
   refine Aad (q78 (n:=n) (fun left x y m => ih left x y m) hXL hA1 hL1' (by omega) (by omega) (by omega) (.of hrow) (.of hrow2) (ownX hrow) (ownX hrow2) (hsm c (List.mem_of_getElem? hc)).1) ?_
   rintro _ m5 ⟨rfl,hL5,kc5⟩
   simp
   exact fin _ _ _ _ (.inr rfl) (by simp) hL5 kc5 (by rw [heqM,if_neg (by simp [hk,hk3',hs])])
def equalM (a:ArM) (x y:Val):Bool:=goodM a x && (goodM a y && (eqM a 1025 1024 x y).1)
theorem q24 {X:Nat → Prop} {A:Nat} {a:ArM} {m:Mem} (hA:Ar X A a m) (hsm:Small a) (x y:Val):EH Tryz.prog ca (.func 113) [.ptr A 0,valA x,valA y] m (.sc (.bool (equalM a x y))) m:=by
 refine Aaw Tryz.func113 rfl rfl rfl rfl (args1:=[.ptr A 0,valA x,valA y]) (m1:=m) (by simp [fzvs]) (by simp) (by simp [Tryz.f113]) (by simp [Tryz.f113]) ?_
 have k1:Kp m ((m.new [int x.1,int x.2] false).new [int y.1,int y.2] false):=by simp
 have q1:=q34 (hA.kp k1)
 have q2:=q41 (hA.kp k1) x
 have q3:=q41 (hA.kp k1) y
 simp only [Tryz.f113,show ca.keepRes 113 = false from rfl]
 unfold equalM
 cases hgx:goodM a x with
 | false =>
  rw [hgx] at q2
  simp [q1.go,Aab,q2.go,undefV,undef]
 | true =>
 rw [hgx] at q2
 cases hgy:goodM a y with
 | false =>
  rw [hgy] at q3
  simp [q1.go,Aab,q2.go,q3.go]
 | true =>
 rw [hgy] at q3
 simp [q1.go,Aab,q2.go,q3.go,abuild,placesOf,fillAt]
 refine Aad (q42 (X:=fun j => X j ∧ j < m.next) (A:=A) (L:=m.next + 2) (a:=a) hsm (fun h => by omega) 1025 1024 x y _ (hA.cut.kp (by simp)) ⟨by simp,m.clock + 3,by simp⟩ (by omega) (by omega) (by omega)) ?_
 rintro _ m5 ⟨rfl,hL5,kc5⟩
 simp
 exact Afy kc5 (by simp) fun j h => by omega
theorem Has.elems {t:Nat → Option Nat} {n:Nat} {m:Mem} {x:AV} {l:List (List UInt8)} (h:Has t n 1 false (.emp 0) m x (l.map strA)):elemsOf m x = some (l.map strA):=by
 rcases h with ⟨h,rfl⟩ | ⟨h,id,v,rfl,h1,_,h2⟩
 ·rw [h]; rfl
 ·simp only [elemsOf,h2]
  have:=Adz (k:=1) (ag:=false) rfl (l.map strA) (fun y hy => by obtain ⟨s,_,rfl⟩:=List.mem_map.1 hy; simp)
  rw [if_pos ⟨by rw [Aa5 (Agv l)]; simp,rfl⟩,List.drop_zero,this]
theorem Agn (m:Mem):∀ l:List (List UInt8),fzvs m (l.map strA) = (l.map strA,m)
 | [] => rfl
 | s :: l => by simp [fzvs,Agn m l]
theorem q62 {t:Nat → Option Nat} {n:Nat} {m:Mem} {x:AV} {l:List (List UInt8)} (h:Has t n 1 false (.emp 0) m x (l.map strA)) (hl:l.length ≤ 65536):wph Tryz.prog ca (.func 33) [x] m fun v m' => Kp m m' ∧ v.okc = true ∧ v.cells = [v]:=by
 have he:=h.elems
 cases l with
 | nil =>
  have e:cloneL Tryz.prog 33 [x] m = some (.emp 1,m.skip):=by
   simp only [cloneL,he,List.map_nil]
  exact ⟨_,_,Abh rfl e,Ajd (.refl m),rfl,rfl⟩
 | cons s l =>
  have run:EH Tryz.prog cf0 (.func 33) [x] m (.sl (m.next + 1) 0 (l.length + 1) 1 false none) ((m.new [] false).new (flat ((s :: l).map strA)) false):=by
   refine eh_of ?_
   refine Aah Tryz.func33 rfl rfl (by simp [Tryz.f33]) (by simp [Tryz.f33]) fun Q hQ => ?_
   simp only [Tryz.f33,show cf0.keepRes 33 = true from rfl,show cf0.keepArgs 33 = true from rfl] at hQ ⊢
   rcases h with ⟨h,_⟩ | ⟨_,id,w,rfl,h1,_,h2⟩
   ·cases h
   have hs:srcOf (m.new [] false) (.sl id 0 ((s :: l).map strA).length 1 false none) = some ((s :: l).map strA):=by
    have hne:id ≠ m.next:=by omega
    have e1:srcOf (m.new [] false) (.sl id 0 ((s :: l).map strA).length 1 false none) = elemsOf (m.new [] false) (.sl id 0 ((s :: l).map strA).length 1 false none):=rfl
    rw [e1,← he]
    simp only [elemsOf,Mem.get_new,if_neg hne]
   have q:=Acl (P:=Tryz.prog) (T:=32) (k:=1) (ag:=false) (ag':=false) (id:=m.next) (ys:=(s :: l).map strA) (ys':=(s :: l).map strA) (m:=m.new [] false) (m':=m.new [] false) (v:=m.clock + 1) el32 (by simp) (Agv _) (by first | exact Agn _ _ | simp [fzx,Agn]) (by simp) (by simp at hl ⊢; omega)
   have nn:∀ {xo yo:Operand} {N:Nat},abin Tryz.prog .eql 32 xo yo (.sl id 0 N 1 false none) (.emp 0) = some (.sc (.bool false)):=by
    intro xo yo N
    have:nilTest Tryz.prog 32 (.sl id 0 N 1 false none) (.emp 0) = some false:=by simp [nilTest,Tryz.underlying32]
    simp [abin,plain,this]
   simp at hs q
   simp [nn,abuildSlice,fillAt,zeros,hs,q]
   refine hQ _ _ _ ⟨.inr rfl,_,rfl,?_⟩
   simp [oneOf]
  have e:cloneL Tryz.prog 33 [x] m = some (.sl (m.next + 1) 0 (l.length + 1) 1 false none,(m.new [] false).new (flat ((s :: l).map strA)) false):=by
   simp only [cloneL,he,List.map_cons]
   exact Acz run
  exact ⟨_,_,Abh rfl e,by simp,rfl,rfl⟩
theorem A1c {x y:Operand} {i:Nat}:abin Tryz.prog .eql 59 x y (.mp i) (ofConst (.map none)) = some (.sc (.bool false)):=by
 show abin Tryz.prog .eql 59 x y (.mp i) (.sc (.map none)) = _
 have:nilTest Tryz.prog 59 (.mp i) (.sc (.map none)) = some false:=by
  unfold nilTest
  rw [Tryz.underlying59]
 simp [abin,plain,this]
theorem Azc {x:AV}:amakeIface Tryz.prog 59 x = some (.iface 59 x):=by unfold amakeIface; rw [Tryz.underlying59]
theorem Axb {x:AV}:aassert Tryz.prog 59 false (.iface 59 x) = some x:=by unfold aassert; rw [Tryz.underlying59]; simp
theorem q63 {i:Nat} {M:AMap} {m:Mem} (h:m.map i = some M):wph Tryz.prog ca (.func 34) [.mp i] m fun v m' => Kp m m' ∧ ∃ j,v = .mp j:=by
 obtain ⟨v',m',e,k,j,hj⟩:∃ v' m',EH Tryz.prog ca (.func 56) [.iface 59 (.mp i)] m v' m' ∧ Kp m m' ∧ ∃ j,v' = .iface 59 (.mp j):=by
  have hk:ca.hook 56 = some mcloneH:=rfl
  refine ⟨.iface 59 (.mp m.next),_,Abh hk (by unfold mcloneH; simp only [h,Option.map_some]; rfl),by simp,_,rfl⟩
 refine Aah Tryz.func34 rfl rfl (by simp [Tryz.f34]) (by simp [Tryz.f34]) fun Q hQ => ?_
 simp only [Tryz.f34,show ca.keepRes 34 = false from rfl,show ca.keepArgs 34 = false from rfl] at hQ ⊢
 subst hj
 simp [A1c,Azc,e.go,Axb]
 refine hQ _ _ _ ?_
 simp
 exact k
theorem q37 {X:Nat → Prop} {A:Nat} {a:ArM} {m:Mem} (hA:Ar X A a m) (hsm:Small a):wph Tryz.prog ca (.func 15) [.ptr A 0] m fun v m' => (∃ i,v = .ptr i 0) ∧ Kp m m':=by
 refine Aah Tryz.func15 rfl rfl (by simp [Tryz.f15]) (by simp [Tryz.f15]) fun Q hQ => ?_
 simp only [Tryz.f15,show ca.keepRes 15 = false from rfl,show ca.keepArgs 15 = false from rfl] at hQ ⊢
 have q1:=q34 hA
 obtain ⟨t,M,cs,ns,xs,h,hx⟩:=hA
 obtain ⟨w,hv⟩:=h.get
 obtain ⟨w2,hmap⟩:=h.map
 have hAl:=h.lt
 have hMl:=h.ml
 have hsane:=h.sane
 simp [q1.go]
 refine Aaq (by kernel_rfl) ?_
 simp [hv]
 refine Aad (q62 h.names hsane.2.2.2) ?_
 rintro vn m1 ⟨k1,on1,on2⟩
 have hv1:=(k1.get A hAl).trans hv
 have hmap1:=(k1.x M hMl).2.trans hmap
 simp [hv1]
 refine Aad (q63 hmap1) ?_
 rintro _ m2 ⟨k2,jm,rfl⟩
 have k12:=k1.trans k2
 have hv2:=(k12.get A hAl).trans hv
 have n2:=k12.next
 simp [abuild,placesOf,fillAt,on1,on2]
 refine Aa2 (l:=[(3,8),(8,12),(3,13)]) (by kernel_rfl) (?_:List.all _ _ = true) ?_
 ·simp [metAtD,metOkD,rank,verKeptD,Region.wanted,Mem.ver,hv,hv1,hv2]
 have nA:A ≠ m2.next:=by omega
 have lc:=fun m' R => Agz (T:=60) (R:=R) (m':=m') h.cells Tryz.underlying60
 simp only [List.length_zipWith,h.len,Nat.min_self] at lc
 simp [hv2,nA,lc]
 refine Aas 29 a.cells.length (fun i s' m' => Kp m m' ∧ m2.next < m'.next ∧ ∃ z ys w9,m'.get m2.next = some (.cells [int a.room,z,vn,.mp jm] false w9) ∧ Acc m m' 4 true ys z ∧ ys.length = i ∧ okAll 4 ys = true ∧ ¬ owns z m2.next) (by simp) (by omega) ⟨k12.trans (by simp),by simp,.emp 0,[],_,by simp; rfl,.inl ⟨rfl,rfl⟩,rfl,rfl,fun h => h⟩ ?_
 rintro i s' m' hi e29 ⟨hkp,hlt,z,ys,w9,hN,hacc,hyl,hok,hzN⟩ hsame hw Q' hn he
 have d3:s'.at 3 = .ptr m2.next 0:=(hsame 3 (by kernel_rfl)).trans (by simp)
 have d27:s'.at 27 = cs:=(hsame 27 (by kernel_rfl)).trans (by simp)
 have d28:s'.at 28 = int a.cells.length:=(hsame 28 (by kernel_rfl)).trans (by simp)
 clear hsame
 simp [e29,d28]
 refine Aal (fun hc => ?_) fun hc => ?_
 ·have hlt2:i < a.cells.length:=by simpa using hc
  obtain ⟨c,hci⟩:∃ c,a.cells[i]? = some c:=⟨_,List.getElem?_eq_getElem hlt2⟩
  have h':=h.kc (Y:=fun _ => False) (.of (.of hkp)) fun _ _ _ _ h => h
  obtain ⟨C,vc,x,rfl,hC,htC,hgC,hxi,hzi,hrow⟩:=h'.at hci
  have hix:=Aax (P:=Tryz.prog) (q:=.i64) (ag:=true) (c:=none) (id:=C) (off:=0) (len:=a.cells.length) (i:=i) Tryz.underlying60 Ai2 hlt2
  obtain ⟨f1,f2⟩:=Aeb (Ahx a.cells xs) hzi
  have hnx:=hkp.next
  have nC:C ≠ m'.next:=by omega
  have nN:m2.next ≠ m'.next:=by omega
  have hcs:=hsm c (List.mem_of_getElem? hci)
  simp [e29,d27,hix,hgC,f1,f2]
  obtain ⟨M3,hM3⟩:∃ M3,M3 = (m'.new [int 0,int 0,.emp 0,.emp 0] false).set m'.next [int c.k,int c.n,x,.lst (byts c.s)]:=⟨_,rfl⟩
  have k3:Kp m' M3:=by rw [hM3]; simp
  have n3:M3.next = m'.next + 1:=by rw [hM3]; simp
  have hN3:=(k3.get m2.next hlt).trans hN
  have g5:M3.get m'.next = some (.cells [int c.k,int c.n,x,.lst (byts c.s)] false (m'.clock + 2)):=by rw [hM3]; simp
  rw [← hM3]
  clear hM3
  refine Aaq (by kernel_rfl) ?_
  simp [d3,hN3,g5]
  refine Aad (q64 (c:=c) (x0:=x) ((El.of hrow).kp k3) hcs.1 hcs.2) ?_
  rintro _ m4 ⟨k4,x2,rfl,hf⟩
  have n4:=k4.next
  have hN4:=(k4.get m2.next (by omega)).trans hN3
  have hsrc:=Ad8 (m:=m4.new (rowA c x2).cells false) (id:=m4.next) (c:=some 1) (k:=4) (ag:=true) (x:=rowA c x2) (w:=m4.clock + 1) (f:=false) rfl (by simp) (by simp) (Ank c x2)
  obtain ⟨m5,p1,p2,⟨w5,p3⟩,p4,p5⟩:=Ae5 (T:=60) ((hacc.kp (k3.trans k4)).kp (.new m4 (rowA c x2).cells false)) hok el60 (zs:=[rowA c x2]) (zs':=[rowA c x2]) (List.cons_ne_nil _ _) (by simp [Aak,Abu]) (by simp) (.refl _) (by simp; omega)
  have hN5:m5.get m2.next = some (.cells [int a.room,z,vn,.mp jm] false w9):=by
   rw [p4 m2.next (by simp; omega) hzN]
   have:m2.next ≠ m4.next:=by omega
   simp [this]
   exact hN4
  have nn4:m2.next ≠ m4.next:=by omega
  simp only [Ah7] at hsrc p1 p3
  simp [rowA,abuildSlice,zeros,fillAt]
  simp [rowA] at hsrc p1
  simp [abuiltin,hsrc,p1,d3,hN5]
  refine Aa2 (l:=[(4,6),(4,7)]) (by kernel_rfl) (?_:List.all _ _ = true) ?_
  ·simp [metAtD,metOkD,rank,verKeptD,Region.wanted,Mem.ver,d3,hN3,hN4,nn4]
  simp [e29,hw]
  have k34:=(hkp.trans k3).trans k4
  have kp5:Kp m m5:=by
   refine ⟨by rw [p2]; simp; omega,fun j hj => ?_,fun j hj => ?_⟩
   ·have a1:j ≠ m4.next:=by omega
    have:=p4 j (by simp; omega) (fun hh => by have:=(Ad5 hacc j hh).1; omega)
    simp [a1] at this
    rw [this]
    exact k34.get j hj
   ·have b1:=p5 j (by simp; omega)
    have b2:=k34.x j hj
    simp at b1
    exact ⟨b1.1.trans b2.1,b1.2.trans b2.2⟩
  refine hn _ _ hlt2 (by simp) ⟨kp5.set n2 _,by simp [p2]; omega,_,ys ++ [rowA c x2],m5.clock + 1,by simp; rfl,.inr ⟨by simp,m4.next + 1,w5,by simp,by omega,by simp [p2],?_⟩,by simp [hyl],?_,fun hh => ?_⟩
  ·have a1:m4.next + 1 ≠ m2.next:=by omega
   simp [a1]
   simpa using p3
  ·have:okAll 4 (ys ++ [rowA c x2]) = (okAll 4 ys && okAll 4 [rowA c x2]):=by simp [okAll]
   rw [this,hok]
   simp [Aak,Abu]
  ·have e:m4.next + 1 = m2.next:=hh
   omega
 ·simp
  refine he _ _ _ (by simp) ?_
  simp [d3]
  refine hQ _ _ _ ?_
  simp
  exact hkp
abbrev clC (A:Nat) (n:Int) (l:List Val) (k:Int):List AV:=[.ptr A 0,int n,.lst (vals l),int k]
def Cs (X:Nat → Prop) (A C:Nat) (n:Int) (l:List Val) (a:ArM) (k:Int) (m m':Mem):Prop :=
 ∃ X',Ar X' A a m' ∧ (∀ j,X' j → (X j ∨ m.next ≤ j) ∧ j < m'.next) ∧ KpC (fun j => X j ∨ j = C) m m' ∧ has m' C (clC A n l k)
section
variable {X:Nat → Prop} {A C:Nat} {n:Int} {l:List Val} {a:ArM} {k:Int} {m:Mem}
theorem Cs.refl (hA:Ar X A a m) (hX:∀ j,X j → j < m.next) (hC:has m C (clC A n l k)):Cs X A C n l a k m m:=⟨X,hA,fun j h => ⟨.inl h,hX j h⟩,.refl _ _,hC⟩
theorem Cs.kp {m':Mem} (hA:Ar X A a m) (hX:∀ j,X j → j < m.next) (hC:has m C (clC A n l k)) (q:Kp m m'):Cs X A C n l a k m m':=⟨X,hA.kp q,fun j h => ⟨.inl h,Nat.lt_of_lt_of_le (hX j h) q.next⟩,.of (.of q),hC.kp q⟩
theorem Cs.box {m1 m5:Mem} {B:Nat} (k1:Kp m m1) (hX:∀ j,X j → j < m.next) (hCl:C < m.next) (h:Cs X A C n l a k m1 m5) (hB:m.next ≤ B) (hB1:B < m1.next) (cs:List AV):Cs X A C n l a k m (m5.set B cs):=by
 obtain ⟨X',h1,h2,h3,h4⟩:=h
 have n1:=k1.next
 refine ⟨X',h1.kc (Aao B cs m5) fun j hj e => ?_,fun j hj => ?_,KpC.cut (((KpC.of (.of k1)).trans (h3.mono fun j h => .inl h)).trans ((Aao B cs m5).mono fun j h => .inr (by omega))),h4.kc (Aao B cs m5) (by omega)⟩
 ·have e:j = B:=e
  subst e
  rcases (h2 j hj).1 with h | h
  ·have:=hX j h; omega
  ·omega
 ·refine ⟨(h2 j hj).1.imp id fun h => by omega,by simpa using (h2 j hj).2⟩
theorem q112 (hA:Ar X A a m) (hsm:Small a) (hC:has m C (clC A n l k)) (v:Val):EH Tryz.prog ca (.func 135) [.ptr C 0,valA v] m (ceA (getM a v).1) m:=by
 obtain ⟨hl,w,hg⟩:=hC
 have n0:C ≠ m.next:=by omega
 have n1:C ≠ m.next + 1:=by omega
 have n2:C ≠ m.next + 2:=by omega
 have q:=q57 (hA.kp (m':=(m.new [int v.1,int v.2] false).new [int 0,int 0,.emp 0,.emp 0] false) (by simp)) hsm v
 refine Aaw Tryz.func135 rfl rfl rfl rfl (args1:=[.ptr C 0,valA v]) (m1:=m) (by simp [fzvs]) (by simp) (by simp [Tryz.f135]) (by simp [Tryz.f135]) ?_
 simp only [Tryz.f135,show ca.keepRes 135 = false from rfl]
 simp
 refine Aaq (by kernel_rfl) ?_
 simp [hg,n0,n1,Aab,q.go]
 refine Aa2 (l:=[(3,9),(4,9)]) (by kernel_rfl) (?_:List.all _ _ = true) ?_
 ·simp [metAtD,metOkD,rank,verKeptD,Region.wanted,Mem.ver,hg,n0,n1,n2]
 simp [fzs,ceA]
theorem Azy (c:CeM):afield Tryz.prog 102 (ceA c) 0 = some (int c.k):=by
 have h1:(tfield Tryz.prog 102 0).map (fun fd => (fd.type,fd.offset)) = some (3,0):=by kernel_rfl
 obtain ⟨fd,h1,h2⟩:=Option.map_eq_some_iff.1 h1
 have h3:=congrArg Prod.fst h2
 have h4:=congrArg Prod.snd h2
 dsimp only at h3 h4
 simp only [afield,h1,ceA,h3,h4]
 rw [Akk tagg3]
 rfl
theorem q65 (hA:Ar X A a m) (hsm:Small a) (hC:has m C (clC A n l k)) (v:Val) (kd:Int):EH Tryz.prog ca (.func 125) [.ptr C 0,valA v,int kd] m (.sc (.bool (decide ((getM a v).1.k = kd)))) m:=by
 have k1:Kp m (m.new [int v.1,int v.2] false):=by simp
 have q:=q112 (hA.kp k1) hsm (hC.kp k1) v
 refine Aaw Tryz.func125 rfl rfl rfl rfl (args1:=[.ptr C 0,valA v,int kd]) (m1:=m) (by simp [fzvs]) (by simp) (by simp [Tryz.f125]) (by simp [Tryz.f125]) ?_
 simp [Tryz.f125,show ca.keepRes 125 = false from rfl,Aab,q.go,Azy]
theorem q126 (n:Int):Gives Tryz.prog ca 149 [int n] (valA (1,n)):=by
 refine Aae Tryz.func149 rfl rfl rfl rfl (by simp) (by simp [Tryz.f149]) (by simp [Tryz.f149]) fun m => ?_
 simp [Tryz.f149,show ca.keepRes 149 = false from rfl,abuild,placesOf,fillAt]
 rfl
def failK (k kd:Int):Int:=if k = 0 then kd else k
theorem q134 (hC:has m C (clC A n l k)) (kd:Int):wph Tryz.prog ca (.func 156) [.ptr C 0,int kd] m fun v m' => v = valA (0,0) ∧ KpC (fun j => j = C) m m' ∧ has m' C (clC A n l (failK k kd)):=by
 obtain ⟨hl,w,hg⟩:=hC
 have n0:C ≠ m.next:=by omega
 have n0':m.next ≠ C:=by omega
 refine Aah Tryz.func156 rfl rfl (by simp [Tryz.f156]) (by simp [Tryz.f156]) fun Q hQ => ?_
 simp only [Tryz.f156,show ca.keepRes 156 = false from rfl,show ca.keepArgs 156 = false from rfl] at hQ ⊢
 by_cases h:k = 0
 ·simp [hg,n0,n0',h,Aa8]
  refine hQ _ _ _ ?_
  rw [Aam]
  simp [aresult,oneOf,n0,n0',failK,h]
  refine ⟨rfl,KpC.cut (((KpC.of (.of (.new _ _ _))).trans ((Aao C _ _).mono fun j h => .inl h)).trans ((Aao m.next _ _).mono fun j h => .inr (by omega))),by simp; omega,m.clock + 2,by simp [n0]⟩
 ·simp [hg,n0,n0',h,Aa8]
  refine hQ _ _ _ ?_
  rw [Aam]
  simp [aresult,oneOf,n0,n0',failK,h]
  exact ⟨rfl,(KpC.of (.of (by simp))),by simp; omega,w,by simp [n0,hg]⟩
theorem Aca (m:Mem) (v:Val):fzr m (valA v) = (valA v,m):=by
 have:=Atk v m
 unfold valA at *
 exact this
def allocC (a:ArM) (k:Int) (c:CeM):Val × ArM × Int:=if k ≠ 0 then ((0,0),a,k) else if (allocM a c).2.2 ≠ 0 then ((0,0),(allocM a c).1,8) else ((allocM a c).2.1,(allocM a c).1,0)
theorem q127 (hA:Ar X A a m) (hX:∀ j,X j → j < m.next) (hXC:¬ X C) (hC:has m C (clC A n l k)) (c:CeM) (h1:c.a.length < 2 ^ 21) (h2:c.s.length < 2 ^ 21):wph Tryz.prog ca (.func 150) [.ptr C 0,ceA c] m fun v m' => v = valA (allocC a k c).1 ∧ Cs X A C n l (allocC a k c).2.1 (allocC a k c).2.2 m m':=by
 have hC0:=hC
 obtain ⟨hl,w,hg⟩:=hC
 have n0:C ≠ m.next:=by omega
 have n1:C ≠ m.next + 1:=by omega
 have n2:C ≠ m.next + 2:=by omega
 refine Aah Tryz.func150 rfl rfl (by simp [Tryz.f150]) (by simp [Tryz.f150]) fun Q hQ => ?_
 simp only [Tryz.f150,show ca.keepRes 150 = false from rfl,show ca.keepArgs 150 = false from rfl] at hQ ⊢
 have fin:∀ (s':Sl) (m':Mem) (v:Val) (a':ArM) (k':Int),s'.at 4 = .ptr (m.next + 1) 0 → (∃ w,m'.get (m.next + 1) = some (.cells [int v.1,int v.2] false w)) → allocC a k c = (v,a',k') → Cs X A C n l a' k' m m' → Q .ret s' m':=by
  intro s' m' v a' k' h4 ⟨w,hg⟩ hm hu
  refine hQ _ _ _ ?_
  rw [Aam]
  refine ⟨_,by simp [aresult,h4,hg,aload,partOf]; rfl,?_⟩
  rw [hm]
  simp only [Bool.false_eq_true,if_false,oneOf,Aab,Aca]
  exact ⟨trivial,hu⟩
 by_cases hk:k = 0
 rotate_left
 ·simp [hg,n0,n1,hk,Aa8]
  exact fin _ _ (0,0) a k (by simp) ⟨_,by simp; rfl⟩ (by rw [allocC,if_pos hk]) (Cs.kp hA hX hC0 (by simp))
 subst hk
 obtain ⟨M1,hM1⟩:∃ M1,M1 = ((m.new (ceA c).cells false).new [int 0,int 0] false):=⟨_,rfl⟩
 have k1:Kp m M1:=by rw [hM1]; simp
 have nM:M1.next = m.next + 2:=by rw [hM1]; simp
 have gc:M1.get m.next = some (.cells [int c.k,int c.n,.lst (vals c.a),.lst (byts c.s)] false (m.clock + 1)):=by rw [hM1]; simp
 have gB:M1.get (m.next + 1) = some (.cells [int 0,int 0] false (m.clock + 2)):=by rw [hM1]; simp
 have gC:=(k1.get C hl).trans hg
 have ecA:AV.agg [int c.k,int c.n,.lst (vals c.a),.lst (byts c.s)] = ceA c:=rfl
 simp [hg,n0,n1]
 simp at hM1
 rw [← hM1]
 clear hM1
 refine Aaq (by kernel_rfl) ?_
 simp [gC,gc,ecA]
 refine Aad (q60 (hA.kp k1) c h1 h2) ?_
 rintro _ m5 ⟨rfl,hup⟩
 obtain ⟨X',hA5,kc5,hX5⟩:=hup.out
 have n5:=kc5.next
 have g5C:=(kc5.get C (by omega) hXC).trans gC
 have g5B:=(kc5.get (m.next + 1) (by omega) (fun h => by have:=hX _ h; omega)).trans gB
 have nC5:C ≠ m5.next:=by omega
 have nB5:m.next + 1 ≠ m5.next:=by omega
 have g5c:=(kc5.get m.next (by omega) (fun h => by have:=hX _ h; omega)).trans gc
 have nc5:m.next ≠ m5.next:=by omega
 simp
 refine Aa2 (l:=[(3,9),(4,9)]) (by kernel_rfl) (?_:List.all _ _ = true) ?_
 ·simp [metAtD,metOkD,rank,verKeptD,Region.wanted,Mem.ver,gC,gc,g5C,g5c,nC5,nc5,hg,n0,n1,n2]
 have hX1:∀ j,X' j → X j ∨ M1.next ≤ j:=fun j h => (hX5 j h).1
 by_cases he:(allocM a c).2.2 = 0
 ·simp [he,g5B,nB5,Aab]
  refine fin _ _ (allocM a c).2.1 (allocM a c).1 0 (by simp) ⟨_,by simp [nB5]; rfl⟩ (by rw [allocC,if_neg (by simp),if_neg (by simp [he])]) ?_
  have k5:Kp m5 ((m5.new [int 0,int 0] false).set m5.next [int (allocM a c).2.1.1,int (allocM a c).2.1.2]):=by simp
  refine Cs.box k1 hX hl ⟨X',hA5.kp k5,fun j hj => ⟨(hX1 j hj).imp id fun h => by omega,?_⟩,?_,?_⟩ (by omega) (by omega) _
  ·have:=(hX5 j hj).2
   simp; omega
  ·exact (kc5.mono fun j h => .inl h).trans (.of (.of k5))
  ·exact ⟨by simp; omega,w,by simp [nC5,g5C]⟩
 ·simp [he]
  have k5:Kp m5 ((m5.new [int 0,int 0] false).set m5.next [int (allocM a c).2.1.1,int (allocM a c).2.1.2]):=by simp
  refine Aad (q134 (A:=A) (n:=n) (l:=l) (k:=0) (m:=(m5.new [int 0,int 0] false).set m5.next [int (allocM a c).2.1.1,int (allocM a c).2.1.2]) ⟨by simp; omega,w,by simp [nC5,g5C]⟩ 8) ?_
  rintro _ m7 ⟨rfl,kc7,hC7⟩
  have n7:=kc7.next
  simp at n7
  have g7B:=kc7.get (m.next + 1) (by simp; omega) (by omega)
  simp [nB5,g5B] at g7B
  simp [g7B,Aab]
  refine fin _ _ (0,0) (allocM a c).1 8 (by simp) ⟨_,by simp; rfl⟩ (by rw [allocC,if_neg (by simp),if_pos he]) ?_
  refine Cs.box k1 hX hl ⟨X',(hA5.kp k5).kc kc7 fun j hj e => ?_,fun j hj => ⟨(hX1 j hj).imp id fun h => by omega,?_⟩,?_,hC7⟩ (by omega) (by omega) _
  ·have e:j = C:=e
   subst e
   rcases hX1 j hj with h | h
   ·exact absurd h hXC
   ·omega
  ·have:=(hX5 j hj).2
   omega
  ·exact ((kc5.mono fun j h => .inl h).trans (.of (.of k5))).trans (kc7.mono fun j h => Or.inr h)
end
def Pairs (a:ArM):Prop:=∀ c ∈ a.cells,c.k = 1 → ∃ x y,c.a = [x,y]
def carM (a:ArM) (v:Val):Val:=(getM a v).1.a.getD 0 (0,0)
def cdrM (a:ArM) (v:Val):Val:=(getM a v).1.a.getD 1 (0,0)
theorem Pairs.get {a:ArM} (h:Pairs a) {v:Val} (hk:(getM a v).1.k = 1):(getM a v).1.a = [carM a v,cdrM a v]:=by
 unfold carM cdrM
 unfold getM at *
 split at hk
 ·rename_i i hi
  obtain ⟨_,c,hc⟩:=Ac7 hi
  simp only [List.getD_eq_getElem?_getD,hc,Option.getD_some] at hk ⊢
  obtain ⟨x,y,e⟩:=h c (List.mem_of_getElem? hc) hk
  simp [e]
 ·simp [zeroC] at hk
section
variable {X:Nat → Prop} {A C:Nat} {n:Int} {l:List Val} {a:ArM} {k:Int} {m:Mem}
end
theorem Aea:∀ (l:List Val) (i:Nat) (v:Val),i < l.length → splice (flat (vals l)) (i * 2) [int v.1,int v.2] = flat (vals (l.set i v))
 | x :: l,0,v,_ => by simp [Aay,Aa7,splice,valA]
 | x :: l,i + 1,v,h => by
  have ih:=Aea l i v (by simpa using h)
  have e:(i + 1) * 2 = i * 2 + 2:=by omega
  simp only [splice] at ih
  rw [List.set_cons_succ,Aay,Aay,Aa7,Aa7,← ih,e]
  simp [splice,valA]
theorem A0a {J:Nat → Mem → Prop} {lo db:Nat} (l:List Val) (hl:l.length < 2 ^ 21)
  (hJ:∀ k x m,l[k]? = some x → J (k + 1) m → wph Tryz.prog ca (.yield lo) [int k,valA x] m fun v m' => v = .sc (.bool true) ∧ J k m')
  (hb:∀ k m,J k m → has m db [.lst (vals l)]) (m:Mem) (h:J l.length m):wph Tryz.prog ca (.func 172) [.yl lo,.ptr db 0] m fun v m' => v = .tup [] ∧ J 0 m':=by
 refine Aah Tryz.func172 rfl rfl (by simp [Tryz.f172]) (by simp [Tryz.f172]) fun Q hQ => ?_
 simp only [Tryz.f172,show ca.keepRes 172 = false from rfl,show ca.keepArgs 172 = false from rfl] at hQ ⊢
 obtain ⟨bl,bv,be⟩:=hb _ _ h
 have w0:IntKind.i64.wrap ((l.length:Int) - 1) = (l.length:Int) - 1:=IntWalk.i64_in _ (by omega)
 simp [be,w0]
 refine Acw (fun k s m' => k ≤ l.length ∧ s.at 3 = int ((k:Int) - 1) ∧ s.at 0 = .yl lo ∧ s.at 1 = .ptr db 0 ∧ J k m') l.length ⟨Nat.le_refl _,by simp,by simp,by simp,h⟩ ?_
 rintro k s m' ⟨hk,e3,e0,e1,hJk⟩ Q' hn he
 obtain ⟨bl,bv,be⟩:=hb _ _ hJk
 simp [e3]
 cases k with
 | zero =>
  simp
  refine he _ _ _ (by simp) ?_
  simp
  exact hQ _ _ _ (by rw [Aii (.inl rfl)]; exact ⟨rfl,hJk⟩)
 | succ k =>
  obtain ⟨x,hx⟩:∃ x,l[k]? = some x:=⟨_,List.getElem?_eq_getElem (by omega)⟩
  have hx':(vals l)[k]? = some (valA x):=by rw [Af5,hx]; rfl
  have e3':s.at 3 = int (k:Int):=by rw [e3]; congr 3; omega
  have ek:((k:Int) + 1 - 1) = (k:Int):=by omega
  have hix:=Aag (P:=Tryz.prog) (q:=.i64) Tryz.underlying46 Abb hx' (by simp)
  have h0:(0:Int) ≤ k:=by omega
  have w1:IntKind.i64.wrap ((k:Int) - 1) = (k:Int) - 1:=IntWalk.i64_in _ (by omega)
  have h1:(1:Int) ≤ (k:Int) + 1:=by omega
  simp [e0,e1,e3',be,hix,ek,h1]
  refine Aad (hJ k x m' hx hJk) ?_
  rintro v m2 ⟨rfl,hJ2⟩
  simp [e3',w1]
  refine hn k _ _ (by omega) ⟨by omega,by simp,by simp [e0],by simp [e1],hJ2⟩
theorem q171 (l:List Val) (m:Mem):EH Tryz.prog ca (.func 170) [.lst (vals l)] m (.fn (.func 172) [] [.ptr m.next 0]) (m.new [.lst (vals l)] false):=by
 refine eh_of (Aah Tryz.func170 rfl rfl (by simp [Tryz.f170]) (by simp [Tryz.f170]) fun Q hQ => ?_)
 simp only [Tryz.f170,show ca.keepRes 170 = false from rfl,show ca.keepArgs 170 = true from rfl] at hQ ⊢
 simp
 exact hQ _ _ _ ⟨.inr rfl,_,rfl,by simp [oneOf]⟩
def aheadM (a:ArM) (k:Int) (e:Val):List Val → Val × ArM × Int
 | [] => (e,a,k)
 | x :: l => allocC (aheadM a k e l).2.1 (aheadM a k e l).2.2 ⟨1,0,[x,(aheadM a k e l).1],[]⟩
def JA (X:Nat → Prop) (A C:Nat) (n:Int) (l0:List Val) (m:Mem) (c:LCode) (xs:List Val) (r:Val × ArM × Int) (mm:Mem):Prop :=
 (∃ X1,Ar X1 A r.2.1 mm ∧ ∀ j,X1 j → (X j ∨ m.next + 5 ≤ j) ∧ j < mm.next) ∧ KpC (fun j => X j ∨ j = C) m mm ∧ has mm C (clC A n l0 r.2.2) ∧ (∃ w,mm.get m.next = some (.cells [.ptr C 0] false w)) ∧ (∃ w,mm.get (m.next + 1) = some (.cells [int r.1.1,int r.1.2] false w)) ∧ (∃ w,mm.get (m.next + 2) = some (.cells [int 0,int 0] false w)) ∧ has mm (m.next + 3) [.lst (vals xs)] ∧ (∃ ver,mm.loop (m.next + 4) = some ⟨.ready,none,c,ver⟩) ∧ m.next + 5 ≤ mm.next
theorem q129 {X:Nat → Prop} {A C:Nat} {n:Int} {l0:List Val} {a:ArM} {k:Int} {m:Mem} (hA:Ar X A a m) (hX:∀ j,X j → j < m.next) (hXC:¬ X C) (hC:has m C (clC A n l0 k)) (l:List Val) (hl:l.length < 2 ^ 21) (e:Val):wph Tryz.prog ca (.func 151) [.ptr C 0,.lst (vals l),valA e] m fun v m' => v = valA (aheadM a k e l).1 ∧ Cs X A C n l0 (aheadM a k e l).2.1 (aheadM a k e l).2.2 m m':=by
 have hC0:=hC
 obtain ⟨hCl,w,hg⟩:=hC
 refine Aah Tryz.func151 rfl rfl (by simp [Tryz.f151]) (by simp [Tryz.f151]) fun Q hQ => ?_
 simp only [Tryz.f151,show ca.keepRes 151 = false from rfl,show ca.keepArgs 151 = false from rfl] at hQ ⊢
 obtain ⟨M1,hM1⟩:∃ M1,M1 = ((m.new [.ptr C 0] false).new [int e.1,int e.2] false).new [int 0,int 0] false:=⟨_,rfl⟩
 have k1:Kp m M1:=by rw [hM1]; simp
 have n1:M1.next = m.next + 3:=by rw [hM1]; simp
 have g0:M1.get m.next = some (.cells [.ptr C 0] false (m.clock + 1)):=by rw [hM1]; simp
 have g1:M1.get (m.next + 1) = some (.cells [int e.1,int e.2] false (m.clock + 2)):=by rw [hM1]; simp
 have g2:M1.get (m.next + 2) = some (.cells [int 0,int 0] false (m.clock + 3)):=by rw [hM1]; simp
 simp
 rw [← hM1]
 clear hM1
 simp [(q171 l M1).go]
 refine Ajf (f:=172) (a:=[]) (b:=[.ptr M1.next 0]) (by simp) (by kernel_rfl) ?_
 simp only [List.nil_append,List.singleton_append]
 generalize hcd:LCode.mk _ _ _ _ _ = c
 refine Ab2 (A0a (J:=fun k' mm => JA X A C n l0 m c l (aheadM a k e (l.drop k')) mm) l hl ?_ (fun k mm h => by rw [n1]; exact h.2.2.2.2.2.2.1) _ ?_) ?_
 ·rintro k' x mm hx ⟨⟨X1,hA1,hX1⟩,kc,hC1,⟨w0,h0⟩,⟨w1,h1⟩,⟨w2,h2⟩,h3,⟨ver,hloop⟩,hn⟩
  have hid:(M1.new [AV.lst (vals l)] false).next = m.next + 4:=by simp [n1]
  rw [hid]
  refine Agj hloop (by rw [← hcd]; rfl) ?_
  have c1:=congrArg LCode.assign hcd
  have c2:=congrArg LCode.body hcd
  have c3:=congrArg LCode.N hcd
  have c4:=congrArg LCode.s hcd
  have c5:=congrArg LCode.ps hcd
  dsimp only at c1 c2 c3 c4 c5
  simp only [← c1,← c2,← c3,← c4,← c5]
  have hstep:aheadM a k e (l.drop k') = allocC (aheadM a k e (l.drop (k' + 1))).2.1 (aheadM a k e (l.drop (k' + 1))).2.2 ⟨1,0,[x,(aheadM a k e (l.drop (k' + 1))).1],[]⟩:=by
   obtain ⟨h1,h2⟩:=List.getElem?_eq_some_iff.1 hx
   rw [← List.getElem_cons_drop h1,h2,aheadM]
  rw [hstep]
  generalize aheadM a k e (l.drop (k' + 1)) = r at hA1 hC1 h1 ⊢
  have z0:m.next ≠ mm.next:=by omega
  have z1:m.next + 1 ≠ mm.next:=by omega
  simp [Sl.puts,hloop,h0,h1,z0,z1,abuildSlice,zeros,fillAt,abuild,placesOf]
  obtain ⟨Mb,hMb⟩:∃ Mb,Mb = (((mm.new [int 0,int 0] false).set mm.next [int x.1,int x.2]).setLoop (m.next + 4) .busy none c).new [int x.1,int x.2,int r.1.1,int r.1.2] false:=⟨_,rfl⟩
  have kb:KpC (fun j => j = m.next + 4) mm Mb:=by
   rw [hMb]
   exact ⟨by simp,fun id hi hx => by
    have a1:id ≠ mm.next:=by omega
    have a2:id ≠ mm.next + 1:=by omega
    simp [a1,a2],fun id hi hx => by
    have a1:id ≠ m.next + 4:=hx
    simp [a1]⟩
  have nb:Mb.next = mm.next + 2:=by rw [hMb]; simp
  obtain ⟨wF,gF⟩:∃ w,Mb.get (mm.next + 1) = some (.cells [int x.1,int x.2,int r.1.1,int r.1.2] false w):=⟨_,by rw [hMb]; simp; rfl⟩
  obtain ⟨uL,lb⟩:∃ w,Mb.loop (m.next + 4) = some ⟨.busy,none,c,w⟩:=⟨_,by rw [hMb]; simp; rfl⟩
  rw [← hMb]
  clear hMb
  obtain ⟨M9,hM9⟩:∃ M9,M9 = Mb.mark (mm.next + 1) (flat (vals [x,r.1])) wF:=⟨_,rfl⟩
  have k9:KpC (fun j => j = m.next + 4) mm M9:=by
   rw [hM9]
   exact KpC.cut (KpC.trans (kb.mono fun j h => .inl h) ((Ami (mm.next + 1) wF _ Mb).mono fun j h => .inr (by omega)))
  have n9:M9.next = mm.next + 2:=by rw [hM9]; simp [nb]
  have l9:M9.loop (m.next + 4) = some ⟨.busy,none,c,uL⟩:=by rw [hM9]; simp; exact lb
  have q:=Ahz Tryz.func150 rfl rfl rfl (Axx (A:=C) (k:=1) (x:=x) (y:=r.1) gF) (by simp [fzvs]) (q127 (X:=X1) (A:=A) (n:=n) (l:=l0) (k:=r.2.2) (a:=r.2.1) (m:=Mb.mark (mm.next + 1) (flat (vals [x,r.1])) wF) (by rw [← hM9]; exact hA1.kc k9 fun j h e => by rcases (hX1 j h).1 with h | h; have:=hX j h; omega; omega) (fun j h => by rw [← hM9,n9]; have:=(hX1 j h).2; omega) (fun h => by rcases (hX1 C h).1 with h | h; exact hXC h; omega) (by rw [← hM9]; exact hC1.kc k9 (by omega)) ⟨1,0,[x,r.1],[]⟩ (by simp) (by simp))
  rw [← hM9] at q
  refine Aad q ?_
  rintro _ m5 ⟨rfl,X2,hA2,hX2,kc2,hC2⟩
  have n5:=kc2.next
  have keep:∀ j,m.next ≤ j → j < m.next + 5 → ¬ (X1 j ∨ j = C):=fun j h1 h2 h => by
   rcases h with h | h
   ·rcases (hX1 j h).1 with h | h
    ·have:=hX j h; omega
    ·omega
   ·omega
  have h50:=(kc2.get m.next (by omega) (keep _ (by omega) (by omega))).trans ((k9.get m.next (by omega) (by omega)).trans h0)
  have h51:=(kc2.get (m.next + 1) (by omega) (keep _ (by omega) (by omega))).trans ((k9.get (m.next + 1) (by omega) (by omega)).trans h1)
  have h52:=(kc2.get (m.next + 2) (by omega) (keep _ (by omega) (by omega))).trans ((k9.get (m.next + 2) (by omega) (by omega)).trans h2)
  have h53:=(h3.kc k9 (by omega)).kc kc2 (keep _ (by omega) (by omega))
  have l5:=(kc2.x (m.next + 4) (by omega) (keep _ (by omega) (by omega))).1.trans l9
  simp [h51,l5,Aab]
  have hX2':∀ j,X2 j → (X j ∨ m.next + 5 ≤ j) ∧ j < m5.next:=fun j h => ⟨(hX2 j h).1.elim (fun h => (hX1 j h).1) fun h => .inr (by omega),(hX2 j h).2⟩
  have ne2:∀ j,X2 j → j ≠ m.next + 1 ∧ j ≠ m.next + 4:=fun j h => by
   rcases (hX2' j h).1 with h | h
   ·have:=hX j h; omega
   ·omega
  have p0:m.next ≠ m.next + 1:=by omega
  refine ⟨⟨X2,(hA2.kc (Aao (m.next + 1) _ _) fun j h e => absurd e (ne2 j h).1).kc (Adj (m.next + 4) _ _ _ _) fun j h e => absurd e (ne2 j h).2,fun j h => by simpa using hX2' j h⟩,?_,(hC2.kc (Aao (m.next + 1) _ _) (by omega)).kc (Adj (m.next + 4) _ _ _ _) (by omega),⟨w0,by simp [h50]⟩,⟨_,by simp; rfl⟩,⟨w2,by simp [h52]⟩,(h53.kc (Aao (m.next + 1) _ _) (by omega)).kc (Adj (m.next + 4) _ _ _ _) (by omega),⟨_,by simp; rfl⟩,by simp; omega⟩
  refine KpC.cut (((((kc.mono fun j h => .inl h).trans (k9.mono fun j h => .inr (by omega))).trans (kc2.mono fun j h => ?_)).trans ((Aao (m.next + 1) _ _).mono fun j h => .inr (by omega))).trans ((Adj (m.next + 4) _ _ _ _).mono fun j h => .inr (by omega)))
  rcases h with h | h
  ·rcases (hX1 j h).1 with h | h
   ·exact .inl (.inl h)
   ·exact .inr (by omega)
  ·exact .inl (.inr h)
 ·rw [List.drop_length,aheadM]
  have kk:Kp m ((M1.new [AV.lst (vals l)] false).newLoop c):=(k1.trans (.new _ _ _)).newLoop c
  have p0:m.next ≠ m.next + 3:=by omega
  have p1:m.next + 1 ≠ m.next + 3:=by omega
  have p2:m.next + 2 ≠ m.next + 3:=by omega
  refine ⟨⟨X,hA.kp kk,fun j h => ⟨.inl h,by have:=hX j h; simp; omega⟩⟩,.of (.of kk),hC0.kp kk,⟨_,by simp [n1,g0]; rfl⟩,⟨_,by simp [n1,g1]; rfl⟩,⟨_,by simp [n1,g2]; rfl⟩,⟨by simp [n1],_,by simp [n1]; rfl⟩,⟨_,by simp [n1]; rfl⟩,by simp [n1]⟩
 ·rintro v mm ⟨rfl,⟨X1,hA1,hX1⟩,kc,hC1,⟨w0,h0⟩,⟨w1,h1⟩,⟨w2,h2⟩,h3,⟨ver,hloop⟩,hn⟩
  rw [List.drop_zero] at hA1 hC1 h1
  have hid:(M1.new [AV.lst (vals l)] false).next = m.next + 4:=by simp [n1]
  rw [hid]
  refine ⟨_,.normal,hloop,by simp,rfl,?_⟩
  simp [h1,h2,Aab]
  refine hQ _ _ _ ?_
  rw [Aam]
  have kl:KpC (fun j => j = m.next + 4) mm (mm.killLoop (m.next + 4)):=⟨by simp,fun id hi hx => by simp,fun id hi hx => by
   have:id ≠ m.next + 4:=hx
   simp [this]⟩
  refine ⟨[valA (aheadM a k e l).1],by simp [aresult,Aab],?_⟩
  simp only [Bool.false_eq_true,if_false,oneOf,Aca]
  refine ⟨trivial,X1,(hA1.kc kl fun j h e => ?_).kc (Aao (m.next + 2) _ _) fun j h e => ?_,fun j h => ⟨(hX1 j h).1.imp id fun h => by omega,by simpa using (hX1 j h).2⟩,KpC.cut (((kc.mono fun j h => .inl h).trans (kl.mono fun j h => .inr (by omega))).trans ((Aao (m.next + 2) _ _).mono fun j h => .inr (by omega))),(hC1.kc kl (by omega)).kc (Aao (m.next + 2) _ _) (by omega)⟩
  all_goals
   rcases (hX1 j h).1 with h | h
   ·have:=hX j h; omega
   ·omega
theorem q33 (m:Mem):EH Tryz.prog ca (.func 123) [] m tableA m:=Axr rfl run22 Aqh
def rowOf (n:Int):List UInt8 × Int × Int:=if n < 0 ∨ 85 ≤ n then ([],0,0) else (rws[n.toNat]?).getD ([],0,0)
theorem At9 {n:Int} (h:¬ n < 0) (h2:¬ 85 ≤ n):rws[n.toNat]? = some (rowOf n):=by
 have hl:n.toNat < rws.length:=by rw [Afc]; omega
 unfold rowOf
 rw [if_neg (by omega),List.getElem?_eq_getElem hl]
 rfl
theorem Ayg {n:Int} (h:¬ n < 0) (h2:¬ 85 ≤ n):aindex Tryz.prog 210 tableA (int n) = some (.agg (rowC (rowOf n))):=by
 have:=Atv (At9 h h2)
 rwa [Int.toNat_of_nonneg (by omega)] at this
theorem Ake {n:Int} (h:n < 0 ∨ 85 ≤ n):rowOf n = ([],0,0):=by unfold rowOf; rw [if_pos h]
@[simp] theorem A2r (r:List UInt8 × Int × Int) (n:Nat):AV.bels n (rowC r) = true:=rfl
@[simp] theorem A2q (r:List UInt8 × Int × Int) (m:Mem):fzv m (.agg (rowC r)) = (.agg (rowC r),m):=rfl
theorem q31 (n:Int):Gives Tryz.prog ca 112 [int n] (.tup [.agg (rowC (rowOf n)),.sc (.bool (!decide ((rowOf n).1 = [])))]):=by
 refine Aae Tryz.func112 rfl rfl rfl rfl (by simp) (by simp [Tryz.f112]) (by simp [Tryz.f112]) fun m => ?_
 simp [Tryz.f112,show ca.keepRes 112 = false from rfl]
 by_cases h:n < 0
 ·simp [h,abuild,placesOf,fillAt,Ake (.inl h),rowC,oneOf]
 ·by_cases h2:85 ≤ n
  ·simp [h,h2,abuild,placesOf,fillAt,Ake (.inr h2),rowC,oneOf]
  ·simp [h,h2,(q33 _).go,Ayg h h2]
   simp only [rowC]
   simp
   refine Abi (by kernel_rfl) ?_
   simp
   refine Aa2 (l:=[(2,4)]) (by kernel_rfl) (?_:List.all _ _ = true) ?_
   ·simp [metAt,metOk,rank,objOf,verKept,Region.wanted,Mem.ver]
   simp
def goodP (a:ArM) (n:Int) (v:Val) (i:Int):Bool :=
 if n ≤ 11 then decide (v.1 = 1) else if 50 ≤ n then decide (v.1 = 1) else if n = 39 then decide (v.1 = 1) else if n = 42 then decide (v.1 = 1)
 else if 16 ≤ n ∧ n ≤ 19 then decide (0 < i ∨ (getM a v).1.k = 1)
 else if n = 26 then decide (i = 0 ∨ v.1 = 1)
 else if n = 28 then decide (0 < i ∨ v.1 = 1)
 else if 29 ≤ n ∧ n ≤ 31 then decide ((i = 0 ∧ (getM a v).1.k = 2) ∨ (i = 1 ∧ v.1 = 1) ∨ i = 2)
 else if n = 33 ∨ n = 35 then decide ((i = 0 ∧ (getM a v).1.k = 3) ∨ (0 < i ∧ v.1 = 1))
 else if n = 32 ∨ n = 34 ∨ n = 36 ∨ n = 38 ∨ n = 40 then decide ((getM a v).1.k = 3)
 else if n = 37 then decide (v.1 = 5)
 else if n = 41 then decide (v.1 = 3)
 else true
theorem q38 {X:Nat → Prop} {A C:Nat} {n:Int} {l:List Val} {a:ArM} {k:Int} {m:Mem} (hA:Ar X A a m) (hsm:Small a) (hC:has m C (clC A n l k)) {i:Nat} {v:Val} (hv:l[i]? = some v):EH Tryz.prog ca (.func 114) [.ptr C 0,int i] m (.sc (.bool (goodP a n v i))) m:=by
 have k1:Kp m ((m.new [int 0,int 0] false).set m.next [int v.1,int v.2]):=by simp
 have q:=fun kd => (show EH Tryz.prog ca (.func 125) [.ptr C 0,.agg [int v.1,int v.2],int kd] _ _ _ from q65 (hA.kp k1) hsm (hC.kp k1) v kd)
 obtain ⟨hl,w,hg⟩:=hC
 have n0:C ≠ m.next:=by omega
 have hix:aindexAddr Tryz.prog 46 (.lst (vals l)) (int i) = some ((valA v).cptr 0):=Abp hv
 refine Aaw Tryz.func114 rfl rfl rfl rfl (args1:=[.ptr C 0,int i]) (m1:=m) (by simp [fzvs]) (by simp) (by simp [Tryz.f114]) (by simp [Tryz.f114]) ?_
 simp only [Tryz.f114,show ca.keepRes 114 = false from rfl]
 obtain ⟨g,hgd⟩:∃ g,g = goodP a n v i:=⟨_,rfl⟩
 rw [← hgd]
 simp [hg,n0,hix,Aab]
 by_cases a1:n ≤ 11
 ·rw [goodP,if_pos a1] at hgd
  simp [a1,hgd]
 by_cases a2:50 ≤ n
 ·rw [goodP,if_neg a1,if_pos a2] at hgd
  simp [a1,a2,hgd]
 by_cases a3:n = 39
 ·rw [goodP,if_neg a1,if_neg a2,if_pos a3] at hgd
  simp [a3,hgd]
 by_cases a4:n = 42
 ·rw [goodP,if_neg a1,if_neg a2,if_neg a3,if_pos a4] at hgd
  simp [a4,hgd]
 rw [goodP,if_neg a1,if_neg a2,if_neg a3,if_neg a4] at hgd
 by_cases a5:16 ≤ n ∧ n ≤ 19
 ·rw [if_pos a5] at hgd
  simp [a1,a2,a3,a4,a5]
  by_cases hi:0 < i
  ·simp [hi,hgd]
  ·simp [hi,(q 1).go,hgd]
 rw [if_neg a5] at hgd
 by_cases b1:16 ≤ n
 rotate_left
 ·have c1:n ≠ 26:=by omega
  have c2:n ≠ 28:=by omega
  have c3:¬ 29 ≤ n:=by omega
  have c4:n ≠ 33:=by omega
  have c5:n ≠ 35:=by omega
  have c6:n ≠ 32:=by omega
  have c7:n ≠ 34:=by omega
  have c8:n ≠ 36:=by omega
  have c9:n ≠ 38:=by omega
  have d1:n ≠ 40:=by omega
  have d2:n ≠ 37:=by omega
  have d3:n ≠ 41:=by omega
  rw [if_neg c1,if_neg c2,if_neg (by omega),if_neg (by omega),if_neg (by omega),if_neg d2,if_neg d3] at hgd
  simp [a1,a2,a3,a4,b1,c1,c2,c3,c4,c5,c6,c7,c8,c9,d1,d2,d3,hgd]
 have b2:¬ n ≤ 19:=by omega
 by_cases c1:n = 26
 ·rw [if_pos c1] at hgd
  subst c1
  by_cases hi:i = 0
  ·simp [hi,hgd]
  ·have hi':¬ (i:Int) = 0:=by omega
   simp [hi,hgd]
 rw [if_neg c1] at hgd
 by_cases c2:n = 28
 ·rw [if_pos c2] at hgd
  subst c2
  by_cases hi:0 < i
  ·simp [hi,hgd]
  ·simp [hi,hgd]
 rw [if_neg c2] at hgd
 by_cases c3:29 ≤ n ∧ n ≤ 31
 ·rw [if_pos c3] at hgd
  simp [a1,a2,a3,a4,b1,b2,c1,c2,c3]
  by_cases h0:i = 0
  ·subst h0
   by_cases hk:(getM a v).1.k = 2
   ·simp [(q 2).go,hgd,hk,undefV,undef]
   ·simp [(q 2).go,hgd,hk,undefV,undef]
  ·by_cases h1:i = 1
   ·subst h1
    by_cases hk:v.1 = 1
    ·simp [hk,hgd,undefV,undef]
    ·simp [hk,hgd,undefV,undef]
   ·have h1':¬ (i:Int) = 1:=by omega
    simp [h0,h1',h1,hgd,undefV,undef]
 rw [if_neg c3] at hgd
 have c3':¬ (29 ≤ n ∧ n ≤ 31):=c3
 by_cases e1:29 ≤ n
 rotate_left
 ·have c4:n ≠ 33:=by omega
  have c5:n ≠ 35:=by omega
  have c6:n ≠ 32:=by omega
  have c7:n ≠ 34:=by omega
  have c8:n ≠ 36:=by omega
  have c9:n ≠ 38:=by omega
  have d1:n ≠ 40:=by omega
  have d2:n ≠ 37:=by omega
  have d3:n ≠ 41:=by omega
  rw [if_neg (by omega),if_neg (by omega),if_neg d2,if_neg d3] at hgd
  simp [a1,a2,a3,a4,b1,b2,c1,c2,e1,c4,c5,c6,c7,c8,c9,d1,d2,d3,hgd]
 have e2:¬ n ≤ 31:=by omega
 by_cases c4:n = 33 ∨ n = 35
 ·rw [if_pos c4] at hgd
  by_cases h0:i = 0
  ·subst h0
   by_cases hk:(getM a v).1.k = 3
   ·rcases c4 with rfl | rfl
    ·simp [(q 3).go,hgd,hk,undefV,undef]
    ·simp [(q 3).go,hgd,hk,undefV,undef]
   ·rcases c4 with rfl | rfl
    ·simp [(q 3).go,hgd,hk,undefV,undef]
    ·simp [(q 3).go,hgd,hk,undefV,undef]
  ·have hi:0 < i:=by omega
   rcases c4 with rfl | rfl
   ·simp [h0,hi,hgd,undefV,undef]
   ·simp [h0,hi,hgd,undefV,undef]
 rw [if_neg c4] at hgd
 by_cases c5:n = 32 ∨ n = 34 ∨ n = 36 ∨ n = 38 ∨ n = 40
 ·rw [if_pos c5] at hgd
  rcases c5 with rfl | rfl | rfl | rfl | rfl
  ·simp [(q 3).go,hgd]
  ·simp [(q 3).go,hgd]
  ·simp [(q 3).go,hgd]
  ·simp [(q 3).go,hgd]
  ·simp [(q 3).go,hgd]
 rw [if_neg c5] at hgd
 by_cases c6:n = 37
 ·rw [if_pos c6] at hgd
  subst c6
  simp [hgd]
 rw [if_neg c6] at hgd
 by_cases c7:n = 41
 ·rw [if_pos c7] at hgd
  subst c7
  simp [hgd]
 rw [if_neg c7] at hgd
 have d1:n ≠ 33:=by omega
 have d2:n ≠ 35:=by omega
 have d3:n ≠ 32:=by omega
 have d4:n ≠ 34:=by omega
 have d5:n ≠ 36:=by omega
 have d6:n ≠ 38:=by omega
 have d7:n ≠ 40:=by omega
 simp [a1,a2,a3,a4,b1,b2,c1,c2,e1,e2,c6,c7,d1,d2,d3,d4,d5,d6,d7,hgd]
theorem Cs.of_c {X:Nat → Prop} {A C:Nat} {n:Int} {l:List Val} {a:ArM} {k:Int} {m m':Mem} (hA:Ar X A a m) (hX:∀ j,X j → j < m.next) (hXC:¬ X C) (kc:KpC (fun j => j = C) m m') (hC:has m' C (clC A n l k)):Cs X A C n l a k m m' :=
 ⟨X,hA.kc kc fun j h e => absurd h (e ▸ hXC),fun j h => ⟨.inl h,Nat.lt_of_lt_of_le (hX j h) kc.next⟩,kc.mono fun j h => .inr h,hC⟩
theorem Cs.after {X:Nat → Prop} {A C:Nat} {n:Int} {l:List Val} {a:ArM} {k:Int} {m m1 m':Mem} (kc:KpC (fun j => X j ∨ j = C) m m1) (h:Cs X A C n l a k m1 m'):Cs X A C n l a k m m':=by
 obtain ⟨X',h1,h2,h3,h4⟩:=h
 have:=kc.next
 exact ⟨X',h1,fun j hj => ⟨(h2 j hj).1.imp id fun h => by omega,(h2 j hj).2⟩,kc.trans h3,h4⟩
theorem q39 {X:Nat → Prop} {A C:Nat} {n:Int} {l:List Val} {a:ArM} {m:Mem} (hA:Ar X A a m) (hX:∀ j,X j → j < m.next) (hXC:¬ X C) (hC:has m C (clC A n l 0)) (hn:n = 23 ∨ n = 24 ∨ n = 25 ∨ n = 26) {res:Val × ArM × Int}
  (h:∀ m1,Ar X A a m1 → (∀ j,X j → j < m1.next) → has m1 C (clC A n l 0) → wph Tryz.prog ca (.func 130) [.ptr C 0] m1 fun r m' => r = valA res.1 ∧ Cs X A C n l res.2.1 res.2.2 m1 m') :
  wph Tryz.prog ca (.func 115) [.ptr C 0] m fun r m' => r = valA res.1 ∧ Cs X A C n l res.2.1 res.2.2 m m':=by
 have k1:Kp m (m.new [int 0,int 0] false):=by simp
 have q:=h _ (hA.kp k1) (fun j hj => by have:=hX j hj; simp; omega) (hC.kp k1)
 obtain ⟨hCl,w,hg⟩:=hC
 have n0:C ≠ m.next:=by omega
 refine Aah Tryz.func115 rfl rfl (by simp [Tryz.f115]) (by simp [Tryz.f115]) fun Q hQ => ?_
 simp only [Tryz.f115,show ca.keepRes 115 = false from rfl,show ca.keepArgs 115 = false from rfl] at hQ ⊢
 have fin:∀ (s':Sl) (m7:Mem),s'.at 2 = .ptr m.next 0 → (∃ w,m7.get m.next = some (.cells [int res.1.1,int res.1.2] false w)) → Cs X A C n l res.2.1 res.2.2 m m7 → Q .ret s' m7:=by
  intro s' m7 h2 ⟨w,hg⟩ hcs
  refine hQ _ _ _ ?_
  rw [Aam]
  refine ⟨[valA res.1],by simp [aresult,h2,hg,aload,partOf,Aab],?_⟩
  simp only [Bool.false_eq_true,if_false,oneOf,Aca]
  exact ⟨trivial,hcs⟩
 rcases hn with rfl | rfl | rfl | rfl
 all_goals
  simp [hg,n0]
  refine Aad q ?_
  rintro _ m2 ⟨rfl,hcs⟩
  obtain ⟨X',h1,h2,kc,h4⟩:=id hcs
  have e1:=kc.get m.next (by simp) (fun h => by rcases h with h | h; have:=hX _ h; omega; omega)
  simp at e1
  simp [e1,Aab]
  exact fin _ _ (by simp) ⟨_,by simp; rfl⟩ (Cs.box k1 hX hCl hcs (Nat.le_refl _) (by simp) _)
def countP (n:Int) (k:Nat):Prop:=(rowOf n).2.1 ≤ k ∧ ((rowOf n).2.2 < 0 ∨ (k:Int) ≤ (rowOf n).2.2)
noncomputable def doM (a:ArM) (n:Int) (l:List Val) (res:Val × ArM × Int):Val × ArM × Int:=by
 classical
 exact if (rowOf n).1 = [] ∨ 64 ≤ n then ((0,0),a,7) else if ¬ countP n l.length then ((0,0),a,2)
 else if ¬ (∀ v ∈ l,equalM a v v = true) then ((0,0),a,1) else if ¬ (∀ (i:Nat) v,l[i]? = some v → goodP a n v i = true) then ((0,0),a,1)
 else if res.2.2 ≠ 0 then ((0,0),res.2.1,res.2.2) else (res.1,res.2.1,0)
theorem eq46 {x y:Operand} {i j:Nat}:abin Tryz.prog .eql 23 x y (.ptr i j) (.sc (.pointer none)) = some (.sc (.bool false)):=by
 have:nilTest Tryz.prog 23 (.ptr i j) (.sc (.pointer none)) = some false:=by
  unfold nilTest
  rw [Tryz.underlying23]
 simp [abin,plain,this]
theorem q22 {X:Nat → Prop} {A:Nat} {n:Int} {l:List Val} {a:ArM} {m:Mem} (hA:Ar X A a m) (hX:∀ j,X j → j < m.next) (hsm:Small a) (hll:l.length ≤ 4096) {res:Val × ArM × Int}
  (hdo:(rowOf n).1 ≠ [] → ¬ 64 ≤ n → countP n l.length → (∀ v ∈ l,equalM a v v = true) → (∀ (i:Nat) v,l[i]? = some v → goodP a n v i = true) → ∀ m1 C,Ar X A a m1 → (∀ j,X j → j < m1.next) → ¬ X C → has m1 C (clC A n l 0) → wph Tryz.prog ca (.func 115) [.ptr C 0] m1 fun r m' => r = valA res.1 ∧ Cs X A C n l res.2.1 res.2.2 m1 m') :
  wph Tryz.prog ca (.func 95) [.ptr A 0,int n,.lst (vals l)] m fun v m' => v = .tup [valA (doM a n l res).1,int (doM a n l res).2.2] ∧ Up X A (doM a n l res).2.1 m m':=by
 refine Aah Tryz.func95 rfl rfl (by simp [Tryz.f95]) (by simp [Tryz.f95]) fun Q hQ => ?_
 simp only [Tryz.f95,show ca.keepRes 95 = false from rfl,show ca.keepArgs 95 = false from rfl] at hQ ⊢
 obtain ⟨d,hd⟩:∃ d,d = doM a n l res:=⟨_,rfl⟩
 rw [← hd] at hQ
 have ln:∀ (R:TypeId) (m:Mem),abuiltin Tryz.prog .len #[46] R [.lst (vals l)] m = some (int l.length,m):=fun R m => by rw [Abj Tryz.underlying46,Aa0]
 have fin:∀ (s':Sl) (m7:Mem),s'.at 6 = .ptr m.next 0 → s'.at 7 = int d.2.2 → (∃ w,m7.get m.next = some (.cells [int d.1.1,int d.1.2] false w)) → Up X A d.2.1 m m7 → Q .ret s' m7:=by
  intro s' m7 h6 h7 ⟨w,hg⟩ hu
  refine hQ _ _ _ ?_
  rw [Aam]
  refine ⟨[valA d.1,int d.2.2],by simp [aresult,h6,h7,hg,aload,partOf,Aab],?_⟩
  simp only [Bool.false_eq_true,if_false,oneOf]
  have hz:=Amt m7 d.1 d.2.2
  rw [Aab] at hz
  rw [hz]
  exact ⟨rfl,hu⟩
 simp [(q31 n).go]
 simp only [rowC]
 simp
 by_cases c1:(rowOf n).1 = []
 ·have e0:d = ((0,0),a,7):=by rw [hd,doM,if_pos (.inl c1)]
  rw [e0] at fin
  simp [c1,Aa8]
  exact fin _ _ (by simp) (by simp) ⟨_,by simp; rfl⟩ (Up.kp hA (by simp))
 by_cases c2:64 ≤ n
 ·have e0:d = ((0,0),a,7):=by rw [hd,doM,if_pos (.inr c2)]
  rw [e0] at fin
  simp [c1,c2,Aa8]
  exact fin _ _ (by simp) (by simp) ⟨_,by simp; rfl⟩ (Up.kp hA (by simp))
 simp [c1,c2]
 obtain ⟨M1,hM1⟩:∃ M1,M1 = ((m.new [int 0,int 0] false).new [.sc (.string ⟨⟨[]⟩⟩),int 0,int 0] false).set (m.next + 1) [.sc (.string ⟨⟨(rowOf n).1⟩⟩),int (rowOf n).2.1,int (rowOf n).2.2]:=⟨_,rfl⟩
 have k1:Kp m M1:=by rw [hM1]; simp
 have n1:M1.next = m.next + 2:=by rw [hM1]; simp
 have b0:M1.get m.next = some (.cells [int 0,int 0] false (m.clock + 1)):=by rw [hM1]; simp
 have b1:M1.get (m.next + 1) = some (.cells [.sc (.string ⟨⟨(rowOf n).1⟩⟩),int (rowOf n).2.1,int (rowOf n).2.2] false (m.clock + 3)):=by rw [hM1]; simp
 rw [← hM1]
 clear hM1
 refine Aad (q37 (hA.kp k1) hsm) ?_
 rintro _ m2 ⟨⟨cid,rfl⟩,k2⟩
 have n2:=k2.next
 have d0:=(k2.get m.next (by omega)).trans b0
 have d1:=(k2.get (m.next + 1) (by omega)).trans b1
 have k12:=k1.trans k2
 simp [eq46,ln,d1]
 by_cases c3:(l.length:Int) < (rowOf n).2.1
 ·have e0:d = ((0,0),a,2):=by rw [hd,doM,if_neg (by simp [c1,c2]),if_pos (fun h => by have:=h.1; omega)]
  rw [e0] at fin
  simp [c3,d0,Aa8,undefV,undef]
  exact fin _ _ (by simp) (by simp) ⟨_,by simp; rfl⟩ (Up.kp hA (k12.set (by omega) _))
 by_cases c5:0 ≤ (rowOf n).2.2 ∧ (rowOf n).2.2 < l.length
 ·have e0:d = ((0,0),a,2):=by rw [hd,doM,if_neg (by simp [c1,c2]),if_pos (fun h => by have:=h.2; omega)]
  rw [e0] at fin
  simp [c3,c5,d0,Aa8,d1]
  exact fin _ _ (by simp) (by simp) ⟨_,by simp; rfl⟩ (Up.kp hA (k12.set (by omega) _))
 have hcnt:countP n l.length:=⟨by omega,by omega⟩
 rw [doM,if_neg (by simp [c1,c2]),if_neg (by simpa using hcnt)] at hd
 obtain ⟨C,hCe⟩:∃ C,C = m2.next:=⟨_,rfl⟩
 obtain ⟨M3,hM3⟩:∃ M3,M3 = m2.new [.ptr A 0,int n,.lst (vals l),int 0] false:=⟨_,rfl⟩
 have k3:Kp m2 M3:=by rw [hM3]; simp
 have n3:M3.next = m2.next + 1:=by rw [hM3]; simp
 have hC3:has M3 C (clC A n l 0):=⟨by omega,_,by rw [hM3,hCe]; simp; rfl⟩
 have k13:=k12.trans k3
 have e03:=(k3.get m.next (by omega)).trans d0
 have hXC:¬ X C:=fun h => by have:=hX C h; omega
 by_cases c4:0 ≤ (rowOf n).2.2
 rotate_left
 ·simp [c3,c4,d1,undefV,undef,abuild,placesOf,fillAt,ln]
  rw [← hCe,← hM3]
  refine Aas 57 l.length (fun i s' m' => Kp M3 m' ∧ ∀ j v,j < i → l[j]? = some v → equalM a v v = true) (by simp) (by omega) ⟨.refl _,fun j v h => by omega⟩ ?_
  rintro i s' m' hi e57 ⟨hkp,hall⟩ hsame hw Q' hn he
  have f0:s'.at 0 = .ptr A 0:=(hsame 0 (by kernel_rfl)).trans (by simp)
  have f2:s'.at 2 = .lst (vals l):=(hsame 2 (by kernel_rfl)).trans (by simp)
  have f6:s'.at 6 = .ptr m.next 0:=(hsame 6 (by kernel_rfl)).trans (by simp)
  have f10:s'.at 10 = .ptr C 0:=(hsame 10 (by kernel_rfl)).trans (by simp)
  have f55:s'.at 55 = .lst (vals l):=(hsame 55 (by kernel_rfl)).trans (by simp)
  have f56:s'.at 56 = int l.length:=(hsame 56 (by kernel_rfl)).trans (by simp)
  clear hsame
  have kA:=k13.trans hkp
  have n':=hkp.next
  have g0:=(hkp.get m.next (by omega)).trans e03
  simp [e57,f56]
  refine Aal (fun h => ?_) fun h => ?_
  ·have hlt:i < l.length:=by simpa using h
   obtain ⟨v,hv⟩:∃ v,l[i]? = some v:=⟨_,List.getElem?_eq_getElem hlt⟩
   have hix:=Abp hv
   have k4:Kp m' ((m'.new [int 0,int 0] false).set m'.next [int v.1,int v.2]):=by simp
   have q:=q24 (hA.kp (kA.trans k4)) hsm v v
   have z0:m.next ≠ m'.next:=by omega
   simp [e57,f55,hix,f0,Aab,q.go]
   cases hq:equalM a v v with
   | true =>
    simp [e57,hw]
    refine hn _ _ hlt (by simp) ⟨hkp.trans k4,fun j u hj hu => ?_⟩
    by_cases hji:j = i
    ·subst hji
     rw [hv] at hu
     cases hu
     exact hq
    ·exact hall j u (by omega) hu
   | false =>
    rw [if_pos (fun h => by have:=h v (List.mem_of_getElem? hv); rw [hq] at this; cases this)] at hd
    simp [Aa8,f6,g0,z0]
    refine he _ _ _ (by simp) ?_
    simp
    rw [hd] at fin
    exact fin _ _ (by simp [f6]) (by simp) ⟨_,by simp; rfl⟩ (Up.kp hA ((kA.trans k4).set (Nat.le_refl _) _))
  ·have hge:i = l.length:=by have:=of_decide_eq_false h; omega
   subst hge
   have hEq:∀ v ∈ l,equalM a v v = true:=fun v hv => by
    obtain ⟨j,hj,e⟩:=List.mem_iff_getElem.1 hv
    exact hall j v hj (by rw [List.getElem?_eq_getElem hj,e])
   rw [if_neg (by simpa using hEq)] at hd
   simp
   refine he _ _ _ (by simp) ?_
   simp [f2,ln]
   refine Aas 70 l.length (fun i s2 m4 => Kp M3 m4 ∧ ∀ (j:Nat) v,j < i → l[j]? = some v → goodP a n v j = true) (by simp) (by omega) ⟨hkp,fun j v h => by omega⟩ ?_
   rintro i s2 m4 hi e70 ⟨hkp4,hall4⟩ hsame hw Q' hn he
   have f6:s2.at 6 = .ptr m.next 0:=(hsame 6 (by kernel_rfl)).trans (by simp [f6])
   have f10:s2.at 10 = .ptr C 0:=(hsame 10 (by kernel_rfl)).trans (by simp [f10])
   have f69:s2.at 69 = int l.length:=(hsame 69 (by kernel_rfl)).trans (by simp)
   clear hsame
   have kA:=k13.trans hkp4
   have n':=hkp4.next
   have g0:=(hkp4.get m.next (by omega)).trans e03
   have hC4:=hC3.kp hkp4
   simp [e70,f69]
   refine Aal (fun h => ?_) fun h => ?_
   ·have hlt:i < l.length:=by simpa using h
    obtain ⟨v,hv⟩:∃ v,l[i]? = some v:=⟨_,List.getElem?_eq_getElem hlt⟩
    have q:=q38 (hA.kp kA) hsm hC4 hv
    simp [e70,f10,q.go]
    cases hq:goodP a n v i with
    | true =>
     simp [e70,hw]
     refine hn _ _ hlt (by simp) ⟨hkp4,fun j u hj hu => ?_⟩
     by_cases hji:j = i
     ·subst hji
      rw [hv] at hu
      cases hu
      exact hq
     ·exact hall4 j u (by omega) hu
    | false =>
     rw [if_pos (fun h => by have:=h i v hv; rw [hq] at this; cases this)] at hd
     simp [Aa8,f6,g0]
     refine he _ _ _ (by simp) ?_
     simp
     rw [hd] at fin
     exact fin _ _ (by simp [f6]) (by simp) ⟨_,by simp; rfl⟩ (Up.kp hA (kA.set (Nat.le_refl _) _))
   ·have hge:i = l.length:=by have:=of_decide_eq_false h; omega
    subst hge
    have hGd:∀ (i:Nat) v,l[i]? = some v → goodP a n v i = true:=fun j v hv => hall4 j v (List.getElem?_eq_some_iff.1 hv).1 hv
    rw [if_neg (by simpa using hGd)] at hd
    simp
    refine he _ _ _ (by simp) ?_
    simp [f10]
    refine Aad (hdo c1 c2 hcnt hEq hGd m4 C (hA.kp kA) (fun j h => by have:=hX j h; omega) hXC hC4) ?_
    rintro _ m5 ⟨rfl,X',hA5,hX5,kc5,hC5⟩
    have n5:=kc5.next
    obtain ⟨_,w5,g5⟩:=id hC5
    have z0:C ≠ m5.next:=by omega
    have z1:m.next ≠ m5.next:=by omega
    have g5m:=(kc5.get m.next (by omega) (fun h => by rcases h with h | h; have:=hX _ h; omega; omega)).trans g0
    have up:∀ cs v,Up X A res.2.1 m (((m5.new [int 0,int 0] false).set m5.next v).set m.next cs):=fun cs v => by
     have kk:Kp m5 ((m5.new [int 0,int 0] false).set m5.next v):=by simp
     refine ⟨X',(hA5.kp kk).kc (Aao m.next cs _) fun j hj e => ?_,KpC.cut ((((KpC.of (.of kA)).trans (kc5.mono fun j h => h.elim .inl fun h => .inr (by omega))).trans (.of (.of kk))).trans ((Aao m.next cs _).mono fun j h => .inr (by omega))),fun j hj => (hX5 j hj).1.imp id fun h => by omega⟩
     have e:j = m.next:=e
     rcases (hX5 j hj).1 with h | h
     ·have:=hX j h; omega
     ·omega
    simp [f10,g5,z0]
    by_cases hr:res.2.2 = 0
    ·rw [if_neg (by simp [hr])] at hd
     simp [hr,f6,g5m,z1,Aab]
     rw [hd] at fin
     exact fin _ _ (by simp [f6]) (by simp) ⟨_,by simp; rfl⟩ (up _ _)
    ·rw [if_pos hr] at hd
     simp [hr]
     refine Aaq (by kernel_rfl) ?_
     have z2:C ≠ m.next:=by omega
     have z3:m.next ≠ C:=by omega
     simp [f10,f6,g5,g5m,z0,z1,Aa8]
     refine Aa2 (l:=[(4,5)]) (by kernel_rfl) (?_:List.all _ _ = true) ?_
     ·simp [metAtD,metOkD,rank,verKeptD,Region.wanted,Mem.ver,g5,g5m,z0,z1,z2,z3]
     simp
     rw [hd] at fin
     exact fin _ _ (by simp [f6]) (by simp) ⟨_,by simp; rfl⟩ (up _ _)
 have c6:¬ (rowOf n).2.2 < (l.length:Int):=by omega
 simp [c3,c4,c6,d1,abuild,placesOf,fillAt,ln]
 rw [← hCe,← hM3]
 refine Aas 57 l.length (fun i s' m' => Kp M3 m' ∧ ∀ j v,j < i → l[j]? = some v → equalM a v v = true) (by simp) (by omega) ⟨.refl _,fun j v h => by omega⟩ ?_
 rintro i s' m' hi e57 ⟨hkp,hall⟩ hsame hw Q' hn he
 have f0:s'.at 0 = .ptr A 0:=(hsame 0 (by kernel_rfl)).trans (by simp)
 have f2:s'.at 2 = .lst (vals l):=(hsame 2 (by kernel_rfl)).trans (by simp)
 have f6:s'.at 6 = .ptr m.next 0:=(hsame 6 (by kernel_rfl)).trans (by simp)
 have f10:s'.at 10 = .ptr C 0:=(hsame 10 (by kernel_rfl)).trans (by simp)
 have f55:s'.at 55 = .lst (vals l):=(hsame 55 (by kernel_rfl)).trans (by simp)
 have f56:s'.at 56 = int l.length:=(hsame 56 (by kernel_rfl)).trans (by simp)
 clear hsame
 have kA:=k13.trans hkp
 have n':=hkp.next
 have g0:=(hkp.get m.next (by omega)).trans e03
 simp [e57,f56]
 refine Aal (fun h => ?_) fun h => ?_
 ·have hlt:i < l.length:=by simpa using h
  obtain ⟨v,hv⟩:∃ v,l[i]? = some v:=⟨_,List.getElem?_eq_getElem hlt⟩
  have hix:=Abp hv
  have k4:Kp m' ((m'.new [int 0,int 0] false).set m'.next [int v.1,int v.2]):=by simp
  have q:=q24 (hA.kp (kA.trans k4)) hsm v v
  have z0:m.next ≠ m'.next:=by omega
  simp [e57,f55,hix,f0,Aab,q.go]
  cases hq:equalM a v v with
  | true =>
   simp [e57,hw]
   refine hn _ _ hlt (by simp) ⟨hkp.trans k4,fun j u hj hu => ?_⟩
   by_cases hji:j = i
   ·subst hji
    rw [hv] at hu
    cases hu
    exact hq
   ·exact hall j u (by omega) hu
  | false =>
   rw [if_pos (fun h => by have:=h v (List.mem_of_getElem? hv); rw [hq] at this; cases this)] at hd
   simp [Aa8,f6,g0,z0]
   refine he _ _ _ (by simp) ?_
   simp
   rw [hd] at fin
   exact fin _ _ (by simp [f6]) (by simp) ⟨_,by simp; rfl⟩ (Up.kp hA ((kA.trans k4).set (Nat.le_refl _) _))
 ·have hge:i = l.length:=by have:=of_decide_eq_false h; omega
  subst hge
  have hEq:∀ v ∈ l,equalM a v v = true:=fun v hv => by
   obtain ⟨j,hj,e⟩:=List.mem_iff_getElem.1 hv
   exact hall j v hj (by rw [List.getElem?_eq_getElem hj,e])
  rw [if_neg (by simpa using hEq)] at hd
  simp
  refine he _ _ _ (by simp) ?_
  simp [f2,ln]
  refine Aas 70 l.length (fun i s2 m4 => Kp M3 m4 ∧ ∀ (j:Nat) v,j < i → l[j]? = some v → goodP a n v j = true) (by simp) (by omega) ⟨hkp,fun j v h => by omega⟩ ?_
  rintro i s2 m4 hi e70 ⟨hkp4,hall4⟩ hsame hw Q' hn he
  have f6:s2.at 6 = .ptr m.next 0:=(hsame 6 (by kernel_rfl)).trans (by simp [f6])
  have f10:s2.at 10 = .ptr C 0:=(hsame 10 (by kernel_rfl)).trans (by simp [f10])
  have f69:s2.at 69 = int l.length:=(hsame 69 (by kernel_rfl)).trans (by simp)
  clear hsame
  have kA:=k13.trans hkp4
  have n':=hkp4.next
  have g0:=(hkp4.get m.next (by omega)).trans e03
  have hC4:=hC3.kp hkp4
  simp [e70,f69]
  refine Aal (fun h => ?_) fun h => ?_
  ·have hlt:i < l.length:=by simpa using h
   obtain ⟨v,hv⟩:∃ v,l[i]? = some v:=⟨_,List.getElem?_eq_getElem hlt⟩
   have q:=q38 (hA.kp kA) hsm hC4 hv
   simp [e70,f10,q.go]
   cases hq:goodP a n v i with
   | true =>
    simp [e70,hw]
    refine hn _ _ hlt (by simp) ⟨hkp4,fun j u hj hu => ?_⟩
    by_cases hji:j = i
    ·subst hji
     rw [hv] at hu
     cases hu
     exact hq
    ·exact hall4 j u (by omega) hu
   | false =>
    rw [if_pos (fun h => by have:=h i v hv; rw [hq] at this; cases this)] at hd
    simp [Aa8,f6,g0]
    refine he _ _ _ (by simp) ?_
    simp
    rw [hd] at fin
    exact fin _ _ (by simp [f6]) (by simp) ⟨_,by simp; rfl⟩ (Up.kp hA (kA.set (Nat.le_refl _) _))
  ·have hge:i = l.length:=by have:=of_decide_eq_false h; omega
   subst hge
   have hGd:∀ (i:Nat) v,l[i]? = some v → goodP a n v i = true:=fun j v hv => hall4 j v (List.getElem?_eq_some_iff.1 hv).1 hv
   rw [if_neg (by simpa using hGd)] at hd
   simp
   refine he _ _ _ (by simp) ?_
   simp [f10]
   refine Aad (hdo c1 c2 hcnt hEq hGd m4 C (hA.kp kA) (fun j h => by have:=hX j h; omega) hXC hC4) ?_
   rintro _ m5 ⟨rfl,X',hA5,hX5,kc5,hC5⟩
   have n5:=kc5.next
   obtain ⟨_,w5,g5⟩:=id hC5
   have z0:C ≠ m5.next:=by omega
   have z1:m.next ≠ m5.next:=by omega
   have g5m:=(kc5.get m.next (by omega) (fun h => by rcases h with h | h; have:=hX _ h; omega; omega)).trans g0
   have up:∀ cs v,Up X A res.2.1 m (((m5.new [int 0,int 0] false).set m5.next v).set m.next cs):=fun cs v => by
    have kk:Kp m5 ((m5.new [int 0,int 0] false).set m5.next v):=by simp
    refine ⟨X',(hA5.kp kk).kc (Aao m.next cs _) fun j hj e => ?_,KpC.cut ((((KpC.of (.of kA)).trans (kc5.mono fun j h => h.elim .inl fun h => .inr (by omega))).trans (.of (.of kk))).trans ((Aao m.next cs _).mono fun j h => .inr (by omega))),fun j hj => (hX5 j hj).1.imp id fun h => by omega⟩
    have e:j = m.next:=e
    rcases (hX5 j hj).1 with h | h
    ·have:=hX j h; omega
    ·omega
   simp [f10,g5,z0]
   by_cases hr:res.2.2 = 0
   ·rw [if_neg (by simp [hr])] at hd
    simp [hr,f6,g5m,z1,Aab]
    rw [hd] at fin
    exact fin _ _ (by simp [f6]) (by simp) ⟨_,by simp; rfl⟩ (up _ _)
   ·rw [if_pos hr] at hd
    simp [hr]
    refine Aaq (by kernel_rfl) ?_
    have z2:C ≠ m.next:=by omega
    have z3:m.next ≠ C:=by omega
    simp [f10,f6,g5,g5m,z0,z1,Aa8]
    refine Aa2 (l:=[(4,5)]) (by kernel_rfl) (?_:List.all _ _ = true) ?_
    ·simp [metAtD,metOkD,rank,verKeptD,Region.wanted,Mem.ver,g5,g5m,z0,z1,z2,z3]
    simp
    rw [hd] at fin
    exact fin _ _ (by simp [f6]) (by simp) ⟨_,by simp; rfl⟩ (up _ _)
end Go.Proofs.YtkoekdfimpcofaaGreat
namespace Go.Proofs.YtkoekdfimpcofaaGreat
set_option maxRecDepth 4000
set_option maxRecDepth 4000
open Go.V
structure Ext (a b:ArM):Prop where
 room:b.room = a.room
 cells:∃ t,b.cells = a.cells ++ t
 names:∃ t,b.names = a.names ++ t
theorem Ext.refl (a:ArM):Ext a a:=⟨rfl,⟨[],by simp⟩,[],by simp⟩
theorem Ext.trans {a b c:ArM} (h:Ext a b) (k:Ext b c):Ext a c:=by
 obtain ⟨h1,⟨t1,h2⟩,⟨s1,h3⟩⟩:=h
 obtain ⟨k1,⟨t2,k2⟩,⟨s2,k3⟩⟩:=k
 exact ⟨k1.trans h1,⟨t1 ++ t2,by rw [k2,h2,List.append_assoc]⟩,s1 ++ s2,by rw [k3,h3,List.append_assoc]⟩
theorem Ext.at {a b:ArM} (h:Ext a b) {i:Nat} {c:CeM} (hc:a.cells[i]? = some c):b.cells[i]? = some c:=by
 obtain ⟨_,⟨t,e⟩,_⟩:=h
 rw [e,List.getElem?_append_left (List.getElem?_eq_some_iff.1 hc).1,hc]
theorem Ext.len {a b:ArM} (h:Ext a b):a.cells.length ≤ b.cells.length:=by
 obtain ⟨_,⟨t,e⟩,_⟩:=h
 rw [e]; simp
theorem Ext.nlen {a b:ArM} (h:Ext a b):a.names.length ≤ b.names.length:=by
 obtain ⟨_,_,⟨t,e⟩⟩:=h
 rw [e]; simp
theorem An8 {n k k':Int} (h:below n k = true) (hk:k ≤ k'):below n k' = true:=by
 simp [below] at h ⊢
 omega
theorem Ext.good {a b:ArM} (h:Ext a b) {v:Val} (hv:goodM a v = true):goodM b v = true:=by
 have h1:=h.len
 have h2:=h.nlen
 unfold goodM at hv ⊢
 split
 ·rename_i c; rwa [if_pos c] at hv
 rename_i c; rw [if_neg c] at hv
 split
 ·rename_i c; rwa [if_pos c] at hv
 rename_i c; rw [if_neg c] at hv
 split
 ·rename_i c; rwa [if_pos c] at hv
 rename_i c; rw [if_neg c] at hv
 split
 ·rename_i c; rwa [if_pos c] at hv
 rename_i c; rw [if_neg c] at hv
 split
 ·rename_i c; rw [if_pos c] at hv; exact An8 hv (by omega)
 rename_i c; rw [if_neg c] at hv
 split
 ·rename_i c; rwa [if_pos c] at hv
 rename_i c; rw [if_neg c] at hv
 split
 ·rename_i c; rw [if_pos c] at hv; exact An8 hv (by omega)
 rename_i c; rw [if_neg c] at hv
 exact hv
def GoodAt (a:ArM) (i:Nat) (v:Val):Prop:=goodM a v = true ∧ (v.1 = 7 → v.2 < i)
theorem GoodAt.ext {a b:ArM} (h:Ext a b) {i:Nat} {v:Val} (hv:GoodAt a i v):GoodAt b i v:=⟨h.good hv.1,hv.2⟩
def Inv (a:ArM):Prop:=∀ i c,a.cells[i]? = some c → c.a.length ≤ 4096 ∧ c.s.length ≤ 4096 ∧ kindM c = true ∧ ∀ v ∈ c.a,GoodAt a i v
theorem Inv.small {a:ArM} (h:Inv a):Small a:=fun c hc => by
 obtain ⟨i,hi,e⟩:=List.mem_iff_getElem.1 hc
 have:=h i c (by rw [List.getElem?_eq_getElem hi,e])
 exact ⟨this.1,this.2.1⟩
theorem Axu {c:CeM} (h:kindM c = true) (h1:c.k = 1):∃ x y,c = ⟨1,0,[x,y],[]⟩:=by
 obtain ⟨k,n,l,s⟩:=c
 simp only at h1
 subst h1
 simp [kindM] at h
 obtain ⟨rfl,rfl,h3⟩:=h
 match l,h3 with
 | [x,y],_ => exact ⟨x,y,rfl⟩
theorem Inv.pairs {a:ArM} (h:Inv a):Pairs a:=fun c hc h1 => by
 obtain ⟨i,hi,e⟩:=List.mem_iff_getElem.1 hc
 obtain ⟨x,y,e⟩:=Axu (h i c (by rw [List.getElem?_eq_getElem hi,e])).2.2.1 h1
 exact ⟨x,y,by rw [e]⟩
end Go.Proofs.YtkoekdfimpcofaaGreat
namespace Go.Proofs.YtkoekdfimpcofaaGreat
open Go.V
def Chain (a:ArM) (e:Val):List Val → Val → Prop
 | [],v => v = e
 | x :: l,v => ∃ (i:Nat) (w:Val),v = (7,(i:Int)) ∧ a.cells[i]? = some ⟨1,0,[x,w],[]⟩ ∧ Chain a e l w
theorem Chain.ext {a b:ArM} (h:Ext a b) {e:Val}:∀ {l:List Val} {v:Val},Chain a e l v → Chain b e l v
 | [],_,c => c
 | _ :: _,_,⟨i,w,h1,h2,h3⟩ => ⟨i,w,h1,h.at h2,h3.ext h⟩
theorem Chain.app {a:ArM} {e f:Val} {r:List Val} (k:Chain a e r f):∀ {l:List Val} {v:Val},Chain a f l v → Chain a e (l ++ r) v
 | [],_,c => by cases c; exact k
 | _ :: _,_,⟨i,w,h1,h2,h3⟩ => ⟨i,w,h1,h2,Chain.app k h3⟩
def pairs (l:List CeM):Nat:=l.countP fun c => decide (c.k = 1)
def MadeP (a:ArM) (n k:Nat) (r:ArM × Val × Int):Prop:=Ext a r.1 ∧ Inv r.1 ∧ r.1.cells.length ≤ a.cells.length + n ∧ pairs r.1.cells ≤ pairs a.cells + k ∧ (r.2.2 = 0 → goodM r.1 r.2.1 = true)
theorem MadeP.then {a b:ArM} {n k n2 k2:Nat} {r:ArM × Val × Int} (h1:Ext a b) (h2:b.cells.length ≤ a.cells.length + n) (h3:pairs b.cells ≤ pairs a.cells + k) (h:MadeP b n2 k2 r):MadeP a (n + n2) (k + k2) r:=⟨h1.trans h.1,h.2.1,by have:=h.2.2.1; omega,by have:=h.2.2.2.1; omega,h.2.2.2.2⟩
theorem MadeP.le {a:ArM} {n k n2 k2:Nat} {r:ArM × Val × Int} (h:MadeP a n k r) (hn:n ≤ n2) (hk:k ≤ k2):MadeP a n2 k2 r:=⟨h.1,h.2.1,by have:=h.2.2.1; omega,by have:=h.2.2.2.1; omega,h.2.2.2.2⟩
end Go.Proofs.YtkoekdfimpcofaaGreat
namespace Go.Proofs.YtkoekdfimpcofaaGreat
set_option maxRecDepth 4000
open Go.V
section
variable {X:Nat → Prop} {A:Nat} {a:ArM} {m:Mem}
end
end Go.Proofs.YtkoekdfimpcofaaGreat
namespace Go.Proofs.YtkoekdfimpcofaaGreat
set_option maxRecDepth 4000
set_option maxRecDepth 4000
set_option maxRecDepth 4000
open Go.V
attribute [local simp] Nat.add_assoc
def putA (a:ArM) (p:Nat) (c:CeM) (i:Nat) (x:Val):ArM:=⟨a.room,a.cells.set p ⟨c.k,c.n,c.a.set i x,c.s⟩,a.names⟩
section
variable {X:Nat → Prop} {A:Nat} {a:ArM} {m:Mem}
end
theorem A0u {X:Nat → Prop} {A C:Nat} {l:List Val} {a:ArM} {m:Mem} (hA:Ar X A a m) (hX:∀ j,X j → j < m.next) (hsm:Small a) (hp:Pairs a) (hXC:¬ X C) (hC:has m C (clC A 22 l 0)) (hl:l.length ≤ 4096) {res:Val × ArM × Int} (hres:res = (aheadM a 0 (4,0) l)):wph Tryz.prog ca (.func 130) [.ptr C 0] m fun r m' => r = valA res.1 ∧ Cs X A C 22 l res.2.1 res.2.2 m m':=by
 have hC0:=hC
 obtain ⟨hCl,w,hg⟩:=hC
 refine Aah Tryz.func130 rfl rfl (by simp [Tryz.f130]) (by simp [Tryz.f130]) fun Q hQ => ?_
 simp only [Tryz.f130,show ca.keepRes 130 = false from rfl,show ca.keepArgs 130 = false from rfl] at hQ ⊢
 obtain ⟨M1,hM1⟩:∃ M1,M1 = (((m.new [.ptr C 0] false).new [int 0,int 0] false).new [int 0,int 0] false).set (m.next + 2) [int 4,int 0]:=⟨_,rfl⟩
 have k1:Kp m M1:=by rw [hM1]; simp
 have n1:M1.next = m.next + 3:=by rw [hM1]; simp
 have b0:M1.get m.next = some (.cells [.ptr C 0] false (m.clock + 1)):=by rw [hM1]; simp
 have b1:M1.get (m.next + 1) = some (.cells [int 0,int 0] false (m.clock + 2)):=by rw [hM1]; simp
 have b2:M1.get (m.next + 2) = some (.cells [int 4,int 0] false (m.clock + 4)):=by rw [hM1]; simp
 have bC:=(k1.get C hCl).trans hg
 have c0:C ≠ m.next:=by omega
 have c1:C ≠ m.next + 1:=by omega
 have c2:C ≠ m.next + 2:=by omega
 have hC1:=hC0.kp k1
 have hA1:=hA.kp k1
 simp [abuild,placesOf,fillAt,hg,c0,c1,c2]
 rw [← hM1]
 clear hM1
 have fin:∀ (s':Sl) (m7:Mem),s'.at 2 = .ptr (m.next + 1) 0 → (∃ w,m7.get (m.next + 1) = some (.cells [int res.1.1,int res.1.2] false w)) → Cs X A C 22 l res.2.1 res.2.2 m m7 → Q .ret s' m7:=by
  intro s' m7 h2 ⟨w,hg⟩ hcs
  refine hQ _ _ _ ?_
  rw [Aam]
  refine ⟨[valA res.1],by simp [aresult,h2,hg,aload,partOf,Aab],?_⟩
  simp only [Bool.false_eq_true,if_false,oneOf,Aca]
  exact ⟨trivial,hcs⟩
 refine Aat (by kernel_rfl) (by kernel_rfl) ?_
 simp [b0,b2,bC]
 have hag:AV.agg [int 4,int 0] = valA (4,0):=rfl
 rw [hag]
 refine Aad (q129 hA1 (fun j h => by have:=hX j h; omega) hXC hC1 l (by omega) (4,0)) ?_
 rintro _ m5 ⟨rfl,hcs⟩
 obtain ⟨X',_,_,kc5,_⟩:=id hcs
 have e1:=(kc5.get (m.next + 1) (by omega) (fun h => by rcases h with h | h; have:=hX _ h; omega; omega)).trans b1
 simp [e1,Aab]
 subst hres
 exact fin _ _ (by simp) ⟨_,by simp; rfl⟩ (Cs.box k1 hX hCl hcs (by omega) (by omega) _)
theorem A0v {X:Nat → Prop} {A C:Nat} {n:Int} {l:List Val} {a:ArM} {m:Mem} (hA:Ar X A a m) (hX:∀ j,X j → j < m.next) (hXC:¬ X C) (hC:has m C (clC A n l 0)) (hn:n = 22) {res:Val × ArM × Int}
  (h:∀ m1,Ar X A a m1 → (∀ j,X j → j < m1.next) → has m1 C (clC A n l 0) → wph Tryz.prog ca (.func 130) [.ptr C 0] m1 fun r m' => r = valA res.1 ∧ Cs X A C n l res.2.1 res.2.2 m1 m') :
  wph Tryz.prog ca (.func 115) [.ptr C 0] m fun r m' => r = valA res.1 ∧ Cs X A C n l res.2.1 res.2.2 m m':=by
 have k1:Kp m (m.new [int 0,int 0] false):=by simp
 have q:=h _ (hA.kp k1) (fun j hj => by have:=hX j hj; simp; omega) (hC.kp k1)
 obtain ⟨hCl,w,hg⟩:=hC
 have n0:C ≠ m.next:=by omega
 refine Aah Tryz.func115 rfl rfl (by simp [Tryz.f115]) (by simp [Tryz.f115]) fun Q hQ => ?_
 simp only [Tryz.f115,show ca.keepRes 115 = false from rfl,show ca.keepArgs 115 = false from rfl] at hQ ⊢
 have fin:∀ (s':Sl) (m7:Mem),s'.at 2 = .ptr m.next 0 → (∃ w,m7.get m.next = some (.cells [int res.1.1,int res.1.2] false w)) → Cs X A C n l res.2.1 res.2.2 m m7 → Q .ret s' m7:=by
  intro s' m7 h2 ⟨w,hg⟩ hcs
  refine hQ _ _ _ ?_
  rw [Aam]
  refine ⟨[valA res.1],by simp [aresult,h2,hg,aload,partOf,Aab],?_⟩
  simp only [Bool.false_eq_true,if_false,oneOf,Aca]
  exact ⟨trivial,hcs⟩
 subst hn
 all_goals
  simp [hg,n0]
  refine Aad q ?_
  rintro _ m2 ⟨rfl,hcs⟩
  obtain ⟨X',h1,h2,kc,h4⟩:=id hcs
  have e1:=kc.get m.next (by simp) (fun h => by rcases h with h | h; have:=hX _ h; omega; omega)
  simp at e1
  simp [e1,Aab]
  exact fin _ _ (by simp) ⟨_,by simp; rfl⟩ (Cs.box k1 hX hCl hcs (Nat.le_refl _) (by simp) _)
end Go.Proofs.YtkoekdfimpcofaaGreat
namespace Go.Proofs.YtkoekdfimpcofaaGreat
set_option maxRecDepth 4000
abbrev InsM:=Int × Int × Int
structure OpM where
 a:Int
 needs:Int
 leaves:Int
 plusA:Bool
 plusB:Bool
 ends:Bool
def opM (n:Int):OpM :=
 if n = 1 then ⟨1,0,1,false,false,false⟩ else if n = 2 then ⟨2,0,1,false,false,false⟩ else if n = 3 then ⟨3,0,1,false,false,false⟩
 else if n = 4 then ⟨4,0,1,false,false,false⟩ else if n = 5 then ⟨2,0,0,false,false,false⟩ else if n = 6 then ⟨0,1,1,false,false,false⟩
 else if n = 7 then ⟨0,2,1,false,false,false⟩ else if n = 8 then ⟨4,1,1,false,false,false⟩ else if n = 9 then ⟨4,1,1,false,false,false⟩
 else if n = 10 then ⟨5,0,0,false,false,false⟩ else if n = 11 then ⟨5,1,0,false,false,false⟩ else if n = 12 then ⟨6,0,1,false,true,false⟩
 else if n = 13 then ⟨7,1,1,true,false,false⟩ else if n = 14 then ⟨7,1,0,true,false,true⟩ else if n = 15 then ⟨0,1,0,false,false,true⟩
 else ⟨0,1,0,false,false,false⟩
def needM (x:InsM):Int:=(opM x.1).needs + (if (opM x.1).plusA then x.2.1 else 0) + (if (opM x.1).plusB then x.2.2 else 0)
def reachM (ahead:List Int) (at_ n:Int):Option (List Int) :=
 if (ahead.length:Int) ≤ at_ ∨ at_ < 0 then none else
 if 0 ≤ ahead.getD at_.toNat 0 ∧ ahead.getD at_.toNat 0 ≠ n then none else some (ahead.set at_.toNat n)
def nextM (n:Int) (x:InsM):Int:=IntKind.i64.wrap (n + (opM x.1).leaves - needM x)
def flow1 (i:Nat) (x:InsM) (s:List Int × Int):Option (List Int × Int) :=
 if s.1.getD i (-1) < needM x ∨ ((opM x.1).ends = true ∧ needM x < s.1.getD i (-1)) then none else
 if (opM x.1).ends = true then some (s.1,max s.2 (s.1.getD i (-1))) else
 match (if (opM x.1).a = 5 then reachM s.1 x.2.1 (nextM (s.1.getD i (-1)) x) else some s.1) with
 | none => none
 | some l => match (if x.1 = 10 then some l else reachM l (i + 1) (nextM (s.1.getD i (-1)) x)) with
  | none => none
  | some l2 => some (l2,max (max s.2 (s.1.getD i (-1))) (nextM (s.1.getD i (-1)) x))
def flowL:Nat → List InsM → List Int × Int → Option (List Int × Int)
 | _,[],s => some s
 | i,x :: l,s => match flow1 i x s with
  | none => none
  | some s' => flowL (i + 1) l s'
def flowM (l:List InsM):Option (List Int × Int):=flowL 0 l ((0 :: List.replicate (l.length - 1) (-1)),0)
structure Later (s s':List Int × Int):Prop where
 len:s'.1.length = s.1.length
 keep:∀ (j:Nat) (n:Int),s.1[j]? = some n → 0 ≤ n → s'.1[j]? = some n
 most:s.2 ≤ s'.2
theorem Later.refl (s:List Int × Int):Later s s:=⟨rfl,fun _ _ h _ => h,Int.le_refl _⟩
theorem Later.trans {s t u:List Int × Int} (h:Later s t) (k:Later t u):Later s u:=⟨k.len.trans h.len,fun j n q r => k.keep j n (h.keep j n q r) r,Int.le_trans h.most k.most⟩
theorem Aff {l l':List Int} {p n:Int} (h:reachM l p n = some l'):l'.length = l.length ∧ (∀ (j:Nat) (k:Int),l[j]? = some k → 0 ≤ k → l'[j]? = some k) ∧ ∃ j:Nat,p = j ∧ j < l.length ∧ l'[j]? = some n:=by
 unfold reachM at h
 split at h
 ·cases h
 rename_i h1
 split at h
 ·cases h
 rename_i h2
 cases h
 obtain ⟨j,rfl⟩:∃ j:Nat,p = j:=⟨p.toNat,by omega⟩
 have hj:j < l.length:=by omega
 rw [Int.toNat_natCast] at h2 ⊢
 refine ⟨by simp,fun i k hi hk => ?_,j,rfl,hj,by rw [List.getElem?_set_self hj]⟩
 by_cases e:j = i
 ·subst e
  rw [List.getElem?_set_self hj]
  have hg:l.getD j 0 = k:=by rw [List.getD_eq_getElem?_getD,hi]; rfl
  rw [hg] at h2
  by_cases e:k = n
  ·rw [e]
  ·exact absurd ⟨hk,e⟩ h2
 ·rw [List.getElem?_set_ne e]; exact hi
def OkIns (i:Nat) (x:InsM) (s:List Int × Int):Prop :=
 ∃ n:Int,s.1[i]? = some n ∧ 0 ≤ n ∧ needM x ≤ n ∧ n ≤ s.2 ∧ (if (opM x.1).ends = true then n = needM x else
  (n + (opM x.1).leaves - needM x ≤ s.2 ∧ ((opM x.1).a = 5 → ∃ j:Nat,x.2.1 = j ∧ s.1[j]? = some (n + (opM x.1).leaves - needM x)) ∧ (x.1 ≠ 10 → s.1[i + 1]? = some (n + (opM x.1).leaves - needM x))))
theorem OkIns.later {i:Nat} {x:InsM} {s t:List Int × Int} (hl:0 ≤ (opM x.1).leaves) (h:OkIns i x s) (k:Later s t):OkIns i x t:=by
 obtain ⟨n,h1,h2,h3,h4,h5⟩:=h
 have hm:=k.most
 refine ⟨n,k.keep i n h1 h2,h2,h3,by omega,?_⟩
 split
 ·rename_i he; rw [if_pos he] at h5; exact h5
 ·rename_i he
  rw [if_neg he] at h5
  obtain ⟨a,b,c⟩:=h5
  refine ⟨by omega,fun q => ?_,fun q => k.keep _ _ (c q) (by omega)⟩
  obtain ⟨j,e1,e2⟩:=b q
  exact ⟨j,e1,k.keep _ _ e2 (by omega)⟩
end Go.Proofs.YtkoekdfimpcofaaGreat
namespace Go.Proofs.YtkoekdfimpcofaaGreat
set_option maxRecDepth 4000
set_option maxRecDepth 4000
open Go.V
structure CoM where
 params:Int
 rest:Int
 caps:Int
 max:Int
 ins:List InsM
structure PrM where
 codes:List CoM
 consts:List Dat
 names:List (List UInt8)
abbrev strS (s:List UInt8):AV:=.sc (.string ⟨⟨s⟩⟩)
def insA (x:InsM):AV:=.agg [int x.1,int x.2.1,int x.2.2]
def inss (l:List InsM):List AV:=l.map insA
def codA (c:CoM):AV:=.agg [int c.params,int c.rest,int c.caps,int c.max,.lst (inss c.ins)]
def cods (l:List CoM):List AV:=l.map codA
def strs (l:List (List UInt8)):List AV:=l.map strS
def prgA (p:PrM):AV:=.agg [.lst (cods p.codes),.lst (encs p.consts),.lst (strs p.names)]
@[simp] theorem A2x (c:InsM):(insA c).okc = true:=Eq.trans rfl rfl
@[simp] theorem A0g (c:InsM):(insA c).cells = [int c.1,int c.2.1,int c.2.2]:=Eq.trans rfl rfl
@[simp] theorem A2y (c:InsM) (n:Nat):(insA c).bel n = true:=by simp [insA,AV.bel,AV.bels]
@[simp] theorem Auu (c:InsM) (m:Mem):fzv m (insA c) = (insA c,m):=by simp [insA,fzv,fzs,fz1]
theorem Any (c:InsM):AV.agg [int c.1,int c.2.1,int c.2.2] = insA c:=Eq.trans rfl rfl
@[simp] theorem Aq7 (n:Nat):∀ l:List InsM,AV.bels n (inss l) = true
 | [] => rfl
 | v :: l => by
  have:=Aq7 n l
  simp only [inss] at this
  simp [inss,AV.bels,this]
@[simp] theorem A21 (c:CoM):(codA c).okc = true:=Eq.trans rfl rfl
@[simp] theorem Ape (c:CoM):(codA c).cells = [int c.params,int c.rest,int c.caps,int c.max,.lst (inss c.ins)]:=Eq.trans rfl rfl
@[simp] theorem A23 (c:CoM) (n:Nat):(codA c).bel n = true:=by simp [codA,AV.bel,AV.bels]
@[simp] theorem A22 (c:CoM) (m:Mem):fzv m (codA c) = (codA c,m):=by simp [codA,fzv,fzs,fz1]
theorem An3 (c:CoM):AV.agg [int c.params,int c.rest,int c.caps,int c.max,.lst (inss c.ins)] = codA c:=Eq.trans rfl rfl
@[simp] theorem Ar0 (n:Nat):∀ l:List CoM,AV.bels n (cods l) = true
 | [] => rfl
 | v :: l => by
  have:=Ar0 n l
  simp only [cods] at this
  simp [cods,AV.bels,this]
@[simp] theorem Aqi (n:Nat):∀ l:List (List UInt8),AV.bels n (strs l) = true
 | [] => rfl
 | v :: l => by
  have:=Aqi n l
  simp only [strs] at this
  simp [strs,AV.bels,AV.bel,this]
@[simp] theorem A2t (c:PrM):(prgA c).okc = true:=Eq.trans rfl rfl
@[simp] theorem A0f (c:PrM):(prgA c).cells = [.lst (cods c.codes),.lst (encs c.consts),.lst (strs c.names)]:=Eq.trans rfl rfl
@[simp] theorem A2v (c:PrM) (n:Nat):(prgA c).bel n = true:=by simp [prgA,AV.bel,AV.bels]
@[simp] theorem A2u (c:PrM) (m:Mem):fzv m (prgA c) = (prgA c,m):=by simp [prgA,fzv,fzs,fz1]
theorem Ai7 (c:PrM):AV.agg [.lst (cods c.codes),.lst (encs c.consts),.lst (strs c.names)] = prgA c:=Eq.trans rfl rfl
@[simp] theorem Aza (l:List InsM):(inss l).length = l.length:=by simp [inss]
@[simp] theorem Az3 (l:List CoM):(cods l).length = l.length:=by simp [cods]
@[simp] theorem Ayh (l:List (List UInt8)):(strs l).length = l.length:=by simp [strs]
theorem Aut (l:List InsM) (i:Nat):(inss l)[i]? = (l[i]?).map insA:=by simp [inss]
theorem Aw1 (l:List CoM) (i:Nat):(cods l)[i]? = (l[i]?).map codA:=by simp [cods]
theorem Atx (l:List (List UInt8)) (i:Nat):(strs l)[i]? = (l[i]?).map strS:=by simp [strs]
theorem Amj {l:List InsM} {i:Nat} {c:InsM} (h:l[i]? = some c):aindexAddr Tryz.prog 76 (.lst (inss l)) (int i) = some ((insA c).cptr 0):=Aag (P:=Tryz.prog) (q:=.i64) Tryz.underlying76 Ap7 (by simp [Aut,h]) (by simp)
theorem Afo {l:List CoM} {i:Nat} {c:CoM} (h:l[i]? = some c):aindexAddr Tryz.prog 30 (.lst (cods l)) (int i) = some ((codA c).cptr 0):=Aag (P:=Tryz.prog) (q:=.i64) Tryz.underlying30 Ap6 (by simp [Aw1,h]) (by simp)
theorem Al2 {l:List (List UInt8)} {i:Nat} {c:List UInt8} (h:l[i]? = some c):aindexAddr Tryz.prog 32 (.lst (strs l)) (int i) = some ((strS c).cptr 0):=Aag (P:=Tryz.prog) (q:=.i64) Tryz.underlying32 Axp (by simp [Atx,h]) (by simp)
theorem Arz {l:List Dat} {i:Nat} {c:Dat} (h:l[i]? = some c):aindexAddr Tryz.prog 31 (.lst (encs l)) (int i) = some ((enc c).cptr 0):=Aag (P:=Tryz.prog) (q:=.i64) Tryz.underlying31 Abq (by rw [Acu,h]; rfl) (Aav c)
theorem len22 (l:List CoM) (R:TypeId) (m:Mem):abuiltin Tryz.prog .len #[30] R [.lst (cods l)] m = some (int l.length,m):=by rw [Abj Tryz.underlying30]; simp
theorem len23 (l:List Dat) (R:TypeId) (m:Mem):abuiltin Tryz.prog .len #[31] R [.lst (encs l)] m = some (int l.length,m):=by rw [Abj Tryz.underlying31]; simp
theorem len24 (l:List (List UInt8)) (R:TypeId) (m:Mem):abuiltin Tryz.prog .len #[32] R [.lst (strs l)] m = some (int l.length,m):=by rw [Abj Tryz.underlying32]; simp
theorem len55 (l:List InsM) (R:TypeId) (m:Mem):abuiltin Tryz.prog .len #[76] R [.lst (inss l)] m = some (int l.length,m):=by rw [Abj Tryz.underlying76]; simp
@[simp] theorem Aie (l:List InsM):okAll 3 (inss l) = true:=by
 induction l with
 | nil => rfl
 | cons s l ih => rw [inss,List.map_cons,Aak,← inss,ih]; simp
@[simp] theorem Aif (l:List CoM):okAll 5 (cods l) = true:=by
 induction l with
 | nil => rfl
 | cons s l ih => rw [cods,List.map_cons,Aak,← cods,ih]; simp
@[simp] theorem Aid (l:List (List UInt8)):okAll 1 (strs l) = true:=by
 induction l with
 | nil => rfl
 | cons s l ih => rw [strs,List.map_cons,Aak,← strs,ih]; simp
structure PgM where
 codes:List CoM
 cv:List Val
 nn:Nat
structure FrM where
 code:Nat
 pc:Nat
 params:List Val
 caps:List Val
 stack:List Val
structure MaM where
 ar:ArM
 frames:List FrM
 status:Int
 steps:Nat
 op:Int
 value:Val
def atV (l:List Val) (i:Nat):Val:=l.getD i (0,0)
def failM (t:MaM):MaM:={ t with status:=4,frames:=[] }
def answerM (v:Val) (fs:List FrM) (t:MaM):MaM:=match fs with
 | [] => { t with status:=3,frames:=[],value:=v }
 | f :: r => { t with status:=1,frames:={ f with stack:=f.stack ++ [v] } :: r }
noncomputable def restM (a:ArM) (l:List Val):Val × ArM × Int:=doM a 22 l (aheadM a 0 (4,0) l)
noncomputable def parsM (a:ArM) (x:CoM) (l:List Val):Int × List Val × ArM :=
 if x.rest = 1 then ((restM a (l.drop (x.params - x.rest).toNat)).2.2,l.take (x.params - x.rest).toNat ++ [(restM a (l.drop (x.params - x.rest).toNat)).1],(restM a (l.drop (x.params - x.rest).toNat)).2.1)
 else (0,l.take (x.params - x.rest).toNat,a)
noncomputable def enterM (p:PgM) (c:CeM) (l:List Val) (fs:List FrM) (t:MaM):MaM :=
 match p.codes[c.n.toNat]? with
 | none => t
 | some x =>
  if (l.length:Int) < x.params - x.rest ∨ (x.rest = 0 ∧ x.params - x.rest < l.length) then failM t else
  if (parsM t.ar x l).1 ≠ 0 ∨ 512 ≤ fs.length then failM { t with ar:=(parsM t.ar x l).2.2 }
  else { t with ar:=(parsM t.ar x l).2.2,status:=1,frames:=⟨c.n.toNat,0,(parsM t.ar x l).2.1,c.a,[]⟩ :: fs }
noncomputable def callM (p:PgM) (f:Val) (l:List Val) (fs:List FrM) (t:MaM):MaM :=
 if (getM t.ar f).2 = 0 ∧ (getM t.ar f).1.k = 5 ∧ (getM t.ar f).1.n < p.codes.length then enterM p (getM t.ar f).1 l fs t else failM t
def unboxM (a:ArM) (v:Val):Option Val:=if (getM a v).2 = 0 ∧ (getM a v).1.k = 4 then some (atV (getM a v).1.a 0) else none
def FrM.put (f:FrM) (v:Val):FrM:={ f with stack:=f.stack ++ [v] }
def FrM.cut (f:FrM) (n:Nat):FrM:={ f with stack:=f.stack.take (f.stack.length - n) }
def FrM.last (f:FrM) (n:Nat):List Val:=f.stack.drop (f.stack.length - n)
def setT (t:MaM) (f:FrM) (fs:List FrM):MaM:={ t with frames:=f :: fs }
noncomputable def insM (p:PgM) (f:FrM) (fs:List FrM) (x:InsM) (t:MaM):MaM :=
 if x.1 = 1 then setT t (f.put (atV p.cv x.2.1.toNat)) fs
 else if x.1 = 2 then setT t (f.put (atV f.params x.2.1.toNat)) fs
 else if x.1 = 3 then setT t (f.put (atV f.caps x.2.1.toNat)) fs
 else if x.1 = 5 then
  (if (allocM t.ar ⟨4,0,[atV f.params x.2.1.toNat],[]⟩).2.2 ≠ 0 then failM { t with ar:=(allocM t.ar ⟨4,0,[atV f.params x.2.1.toNat],[]⟩).1 }
  else setT { t with ar:=(allocM t.ar ⟨4,0,[atV f.params x.2.1.toNat],[]⟩).1 } { f with params:=f.params.set x.2.1.toNat (allocM t.ar ⟨4,0,[atV f.params x.2.1.toNat],[]⟩).2.1 } fs)
 else if x.1 = 6 then (match unboxM t.ar (atV (f.last 1) 0) with
  | some v => setT t ((f.cut 1).put v) fs
  | none => failM t)
 else if x.1 = 7 then (match unboxM t.ar (atV (f.last 2) 0) with
  | some _ => setT { t with ar:=if goodM t.ar (atV (f.last 2) 1) = true then putA t.ar (atV (f.last 2) 0).2.toNat (getM t.ar (atV (f.last 2) 0)).1 0 (atV (f.last 2) 1) else t.ar } ((f.cut 2).put (2,0)) fs
  | none => failM t)
 else if x.1 = 10 then setT t { f with pc:=x.2.1.toNat } fs
 else if x.1 = 11 then setT t { f.cut 1 with pc:=if atV (f.last 1) 0 = (2,0) then x.2.1.toNat else f.pc } fs
 else if x.1 = 16 then setT t (f.cut 1) fs
 else if x.1 = 12 then
  (if (allocM t.ar ⟨5,x.2.1,f.last x.2.2.toNat,[]⟩).2.2 ≠ 0 then failM { t with ar:=(allocM t.ar ⟨5,x.2.1,f.last x.2.2.toNat,[]⟩).1 }
  else setT { t with ar:=(allocM t.ar ⟨5,x.2.1,f.last x.2.2.toNat,[]⟩).1 } ((f.cut x.2.2.toNat).put (allocM t.ar ⟨5,x.2.1,f.last x.2.2.toNat,[]⟩).2.1) fs)
 else if x.1 = 4 then setT { t with status:=2,op:=1 } f fs
 else if x.1 = 8 then setT { t with status:=2,op:=2 } (f.cut 1) fs
 else if x.1 = 9 then setT { t with status:=2,op:=3 } (f.cut 1) fs
 else if x.1 = 13 then callM p (atV (f.last (x.2.1.toNat + 1)) 0) ((f.last (x.2.1.toNat + 1)).drop 1) (f.cut (x.2.1.toNat + 1) :: fs) t
 else if x.1 = 14 then callM p (atV (f.last (x.2.1.toNat + 1)) 0) ((f.last (x.2.1.toNat + 1)).drop 1) fs t
 else answerM (atV (f.last 1) 0) fs t
def bndM (p:PrM) (c:CoM) (i:Nat) (a:Int):Int × Int :=
 if a = 0 then (0,1) else if a = 1 then (0,p.consts.length) else if a = 2 then (0,c.params) else if a = 3 then (0,c.caps) else if a = 4 then (0,p.names.length)
 else if a = 5 then (i + 1,c.ins.length) else if a = 6 then (1,p.codes.length) else (0,33)
def capsAt (l:List CoM) (i:Int):Int:=((l[i.toNat]?).map CoM.caps).getD 0
def operM (p:PrM) (c:CoM) (i:Nat) (x:InsM):Bool :=
 if x.1 < 1 ∨ 17 ≤ x.1 then false else
 if x.2.1 < (bndM p c i (opM x.1).a).1 ∨ (bndM p c i (opM x.1).a).2 ≤ x.2.1 then false else
 if (opM x.1).plusB = true then decide (x.2.2 = capsAt p.codes x.2.1) else decide (x.2.2 = 0)
def opersM (p:PrM) (c:CoM):Nat → List InsM → Bool
 | _,[] => true
 | i,x :: l => operM p c i x && opersM p c (i + 1) l
def within2 (n m:Int):Bool:=decide (0 ≤ n) && decide (n ≤ m)
def goodC (p:PrM) (c:CoM):Bool :=
 within2 c.params 32 && within2 c.rest (min c.params 1) && within2 c.caps 64 && decide (c.ins ≠ []) && decide (c.ins.length ≤ 4096) && opersM p c 0 c.ins &&
 (match flowM c.ins with
 | none => false
 | some s => decide (s.2 = c.max) && decide (s.2 ≤ 256))
structure OkCode (cs:List CoM) (nc nn:Nat) (c:CoM):Prop where
 params:0 ≤ c.params ∧ c.params ≤ 32
 rest:0 ≤ c.rest ∧ c.rest ≤ 1 ∧ c.rest ≤ c.params
 caps:0 ≤ c.caps ∧ c.caps ≤ 64
 len:1 ≤ c.ins.length ∧ c.ins.length ≤ 4096
 flow:∃ s,flowM c.ins = some s ∧ s.2 ≤ 256
 op:∀ (i:Nat) (x:InsM),c.ins[i]? = some x → 1 ≤ x.1 ∧ x.1 ≤ 16
 need:∀ (i:Nat) (x:InsM),c.ins[i]? = some x → 0 ≤ needM x
 const:∀ (i:Nat) (x:InsM),c.ins[i]? = some x → x.1 = 1 → 0 ≤ x.2.1 ∧ x.2.1 < nc
 par:∀ (i:Nat) (x:InsM),c.ins[i]? = some x → x.1 = 2 ∨ x.1 = 5 → 0 ≤ x.2.1 ∧ x.2.1 < c.params
 cap:∀ (i:Nat) (x:InsM),c.ins[i]? = some x → x.1 = 3 → 0 ≤ x.2.1 ∧ x.2.1 < c.caps
 name:∀ (i:Nat) (x:InsM),c.ins[i]? = some x → x.1 = 4 ∨ x.1 = 8 ∨ x.1 = 9 → 0 ≤ x.2.1 ∧ x.2.1 < nn
 clo:∀ (i:Nat) (x:InsM),c.ins[i]? = some x → x.1 = 12 → 1 ≤ x.2.1 ∧ x.2.1 < cs.length ∧ x.2.2 = capsAt cs x.2.1
 cnt:∀ (i:Nat) (x:InsM),c.ins[i]? = some x → x.1 = 13 ∨ x.1 = 14 → 0 ≤ x.2.1 ∧ x.2.1 ≤ 32
structure OkPg (p:PgM):Prop where
 codes:∀ c ∈ p.codes,OkCode p.codes p.cv.length p.nn c
 few:1 ≤ p.codes.length ∧ p.codes.length ≤ 1024
 first:∀ c,p.codes[0]? = some c → c.params = 0 ∧ c.caps = 0
 cv:∀ v ∈ p.cv,v.1 ≠ 6
theorem Agt {p:PrM} {c:CoM} {i:Nat} {x:InsM} (h:operM p c i x = true):(1 ≤ x.1 ∧ x.1 ≤ 16) ∧ (bndM p c i (opM x.1).a).1 ≤ x.2.1 ∧ x.2.1 < (bndM p c i (opM x.1).a).2 ∧ ((opM x.1).plusB = true → x.2.2 = capsAt p.codes x.2.1) ∧ ((opM x.1).plusB = false → x.2.2 = 0):=by
 unfold operM at h
 split at h
 ·cases h
 split at h
 ·cases h
 rename_i h1 h2
 refine ⟨by omega,by omega,by omega,fun q => ?_,fun q => ?_⟩
 ·rw [if_pos q] at h; exact of_decide_eq_true h
 ·rw [q] at h; exact of_decide_eq_true h
theorem Anp {p:PrM} {c:CoM}:∀ (l:List InsM) (i:Nat),opersM p c i l = true → ∀ (j:Nat) x,l[j]? = some x → operM p c (i + j) x = true
 | [],i,_,j,x,h => by simp at h
 | y :: l,i,h,0,x,hj => by
  simp at hj; subst hj
  rw [opersM,Bool.and_eq_true] at h
  exact h.1
 | y :: l,i,h,j + 1,x,hj => by
  rw [opersM,Bool.and_eq_true] at h
  have:=Anp l (i + 1) h.2 j x (by simpa using hj)
  rwa [Nat.add_assoc,Nat.add_comm 1 j] at this
theorem Aw9 {p:PrM} (hg:∀ c ∈ p.codes,goodC p c = true) {i:Int}:0 ≤ capsAt p.codes i:=by
 unfold capsAt
 cases h:p.codes[i.toNat]? with
 | none => simp
 | some c =>
  have:=hg c (List.mem_of_getElem? h)
  unfold goodC within2 at this
  simp at this
  simp
  omega
theorem Azd {p:PrM} (hg:∀ c ∈ p.codes,goodC p c = true) {c:CoM} (hc:c ∈ p.codes):OkCode p.codes p.consts.length p.names.length c:=by
 have h:=hg c hc
 unfold goodC at h
 simp only [Bool.and_eq_true,within2,decide_eq_true_eq] at h
 obtain ⟨⟨⟨⟨⟨⟨h1,h2⟩,h3⟩,h4⟩,h5⟩,h6⟩,h7⟩:=h
 have ho:∀ (j:Nat) x,c.ins[j]? = some x → operM p c j x = true:=fun j x hj => by
  have:=Anp c.ins 0 h6 j x hj
  rwa [Nat.zero_add] at this
 have hl:1 ≤ c.ins.length:=by
  cases hi:c.ins with
  | nil => exact absurd hi h4
  | cons => simp
 have key:∀ (i:Nat) x,c.ins[i]? = some x → 0 ≤ needM x:=by
  intro i x hx
  obtain ⟨⟨o1,o2⟩,o3,o4,o5,o6⟩:=Agt (ho i x hx)
  have hcp:=Aw9 hg (i:=x.2.1)
  have:x.1 = 1 ∨ x.1 = 2 ∨ x.1 = 3 ∨ x.1 = 4 ∨ x.1 = 5 ∨ x.1 = 6 ∨ x.1 = 7 ∨ x.1 = 8 ∨ x.1 = 9 ∨ x.1 = 10 ∨ x.1 = 11 ∨ x.1 = 12 ∨ x.1 = 13 ∨ x.1 = 14 ∨ x.1 = 15 ∨ x.1 = 16:=by omega
  rcases this with q | q | q | q | q | q | q | q | q | q | q | q | q | q | q | q <;> simp [needM,opM,q,bndM] at o3 o4 o5 o6 ⊢ <;> omega
 have cls:∀ (i:Nat) x (n:Int),c.ins[i]? = some x → (opM x.1).a = n → (bndM p c i n).1 ≤ x.2.1 ∧ x.2.1 < (bndM p c i n).2:=by
  intro i x n hx hn
  obtain ⟨_,o3,o4,_⟩:=Agt (ho i x hx)
  rw [hn] at o3 o4
  exact ⟨o3,o4⟩
 refine ⟨h1,⟨h2.1,by omega,by omega⟩,h3,⟨hl,h5⟩,?_,fun i x hx => (Agt (ho i x hx)).1,key,fun i x hx q => ?_,fun i x hx q => ?_,fun i x hx q => ?_,fun i x hx q => ?_,fun i x hx q => ?_,fun i x hx q => ?_⟩
 ·split at h7
  ·cases h7
  ·rename_i s hs
   simp at h7
   exact ⟨s,hs,h7.2⟩
 ·have:=cls i x 1 hx (by rw [q]; rfl)
  simpa [bndM] using this
 ·have:=cls i x 2 hx (by rcases q with q | q <;> (rw [q]; rfl))
  simpa [bndM] using this
 ·have:=cls i x 3 hx (by rw [q]; rfl)
  simpa [bndM] using this
 ·have:=cls i x 4 hx (by rcases q with q | q | q <;> (rw [q]; rfl))
  simpa [bndM] using this
 ·have:=cls i x 6 hx (by rw [q]; rfl)
  simp [bndM] at this
  refine ⟨this.1,this.2,(Agt (ho i x hx)).2.2.2.1 (by rw [q]; rfl)⟩
 ·have:=cls i x 7 hx (by rcases q with q | q <;> (rw [q]; rfl))
  simp [bndM] at this
  omega
def aheadC (c:CoM):List Int:=((flowM c.ins).getD ([],0)).1
structure OkCell (cs:List CoM) (c:CeM):Prop where
 small:c.a.length ≤ 4096 ∧ c.s.length ≤ 4096
 kind:kindM c = true
 low:c.k ≤ 5
 proc:c.k = 5 → ∃ x,cs[c.n.toNat]? = some x ∧ 0 ≤ c.n ∧ (c.a.length:Int) = x.caps
 vals:∀ v ∈ c.a,v.1 ≠ 6
def Nice (cs:List CoM) (a:ArM):Prop:=∀ c ∈ a.cells,OkCell cs c
theorem Nice.small {cs:List CoM} {a:ArM} (h:Nice cs a):Small a:=fun c hc => (h c hc).small
theorem Nice.pairs {cs:List CoM} {a:ArM} (h:Nice cs a):Pairs a:=fun c hc h1 => by
 obtain ⟨x,y,e⟩:=Axu (h c hc).kind h1
 exact ⟨x,y,by rw [e]⟩
theorem Afk {cs:List CoM} {a:ArM} {c:CeM} (h:Nice cs a) (hk:c.k ≤ 5) (h5:c.k = 5 → ∃ x,cs[c.n.toNat]? = some x ∧ 0 ≤ c.n ∧ (c.a.length:Int) = x.caps) (hv:∀ v ∈ c.a,v.1 ≠ 6):Nice cs (allocM a c).1 ∧ (allocM a c).2.1.1 ≠ 6:=by
 unfold allocM
 split
 ·rename_i hf
  split
  ·exact ⟨h,by simp⟩
  ·refine ⟨fun d hd => ?_,by simp⟩
   simp only [pushM,List.mem_append,List.mem_singleton] at hd
   rcases hd with hd | rfl
   ·exact h d hd
   ·simp [fitsM] at hf
    exact ⟨⟨by omega,by omega⟩,hf.2.2.2.2,hk,h5,hv⟩
 ·exact ⟨h,by simp⟩
theorem Aum {cs:List CoM} {a:ArM} (h:Nice cs a) (s:List UInt8):Nice cs (symM a s).1 ∧ (symM a s).2.1.1 ≠ 6:=by
 unfold symM
 split
 ·split
  ·exact ⟨h,by simp⟩
  ·split
   ·exact ⟨h,by simp⟩
   ·exact ⟨h,by simp⟩
 ·exact ⟨h,by simp⟩
theorem Akq {cs:List CoM}:∀ (n:Nat) (d:Dat),d.size ≤ n → ∀ a,Nice cs a → Nice cs (makeM d a).1 ∧ (makeM d a).2.1.1 ≠ 6
 | 0,d,hs => by cases d; simp [Dat.size] at hs
 | n + 1,.mk K N S M L T,hs => by
  intro a ha
  rw [Dat.size] at hs
  have ih:=Akq (cs:=cs) n
  rw [makeM]
  split
  ·rename_i h
   exact ⟨ha,by simp only; omega⟩
  split
  ·exact Aum ha S
  split
  ·exact Afk ha (by simp) (by simp) (by simp)
  split
  ·have hv:∀ (l:List Dat),(∀ d ∈ l,d ∈ L) → ∀ a,Nice cs a → Nice cs (vecM l a).1 ∧ ∀ v ∈ (vecM l a).2.1,v.1 ≠ 6:=by
    intro l
    induction l with
    | nil => intro _ a ha; exact ⟨ha,by simp [vecM]⟩
    | cons d l ihl =>
     intro hl a ha
     have hsz:=Ab3 (hl d (by simp))
     have hd:=ih d (by omega) a ha
     rw [vecM]
     split
     ·exact ⟨hd.1,by simp⟩
     ·obtain ⟨e1,e2⟩:=ihl (fun x hx => hl x (by simp [hx])) _ hd.1
      refine ⟨e1,fun v hv => ?_⟩
      simp only [List.mem_cons] at hv
      rcases hv with rfl | hv
      ·exact hd.2
      ·exact e2 v hv
   obtain ⟨e1,e2⟩:=hv L (fun _ h => h) a ha
   split
   ·exact ⟨e1,by simp⟩
   ·exact Afk e1 (by simp) (by simp) e2
  ·have hr0:Nice cs (if K = 7 then tailM T a else (a,(4,0),0)).1 ∧ (if K = 7 then tailM T a else (a,(4,0),0)).2.1.1 ≠ 6:=by
    split
    ·cases T with
     | nil => exact ⟨ha,by simp [tailM]⟩
     | cons t T =>
      rw [tailM]
      rw [sizes] at hs
      exact ih t (by omega) a ha
    ·exact ⟨ha,by simp⟩
   generalize (if K = 7 then tailM T a else (a,(4,0),0)) = r at hr0
   have hv:∀ (l:List Dat),(∀ d ∈ l,d ∈ L) → Nice cs (lstM l r).1 ∧ (lstM l r).2.1.1 ≠ 6:=by
    intro l
    induction l with
    | nil => intro _; exact hr0
    | cons d l ihl =>
     intro hl
     have hq:=ihl (fun x hx => hl x (by simp [hx]))
     have hsz:=Ab3 (hl d (by simp))
     have hd:=ih d (by omega) _ hq.1
     rw [lstM]
     split
     ·exact hq
     ·split
      ·exact ⟨hd.1,hq.2⟩
      ·refine Afk hd.1 (by simp) (by simp) fun v hv => ?_
       simp only [List.mem_cons,List.not_mem_nil,or_false] at hv
       rcases hv with rfl | rfl
       ·exact hd.2
       ·exact hq.2
   have hL:=hv L fun _ h => h
   split
   ·exact ⟨hL.1,by simp⟩
   ·exact hL
theorem Ay2 {cs:List CoM} {a:ArM} (h:Nice cs a) (d:Dat):Nice cs (ofM d a).1 ∧ (ofM d a).2.1.1 ≠ 6:=by
 unfold ofM
 split
 ·exact Akq d.size d (Nat.le_refl _) a h
 ·exact ⟨h,by simp⟩
theorem Anr {cs:List CoM} {a:ArM} (h:Nice cs a) {v:Val} (hk:(getM a v).1.k ≠ 0):∃ i:Nat,v = (7,(i:Int)) ∧ a.cells[i]? = some (getM a v).1 ∧ OkCell cs (getM a v).1:=by
 unfold getM at hk ⊢
 cases hi:ixM a v with
 | none => rw [hi] at hk; exact absurd rfl hk
 | some i =>
  obtain ⟨hv,c,hc⟩:=Ac7 hi
  simp only [List.getD_eq_getElem?_getD,hc,Option.getD_some]
  exact ⟨i,hv,hc,h c (List.mem_of_getElem? hc)⟩
def NoPrim (l:List Val):Prop:=∀ v ∈ l,v.1 ≠ 6
theorem NoPrim.app {l r:List Val} (h:NoPrim l) (k:NoPrim r):NoPrim (l ++ r):=fun v hv => by
 rcases List.mem_append.1 hv with hv | hv
 ·exact h v hv
 ·exact k v hv
theorem NoPrim.one {v:Val} (h:v.1 ≠ 6):NoPrim [v]:=fun w hw => by rw [List.mem_singleton.1 hw]; exact h
theorem NoPrim.drop {l:List Val} (h:NoPrim l) (n:Nat):NoPrim (l.drop n):=fun v hv => h v (List.mem_of_mem_drop hv)
theorem NoPrim.take {l:List Val} (h:NoPrim l) (n:Nat):NoPrim (l.take n):=fun v hv => h v (List.mem_of_mem_take hv)
theorem NoPrim.set {l:List Val} (h:NoPrim l) (n:Nat) {x:Val} (hx:x.1 ≠ 6):NoPrim (l.set n x):=fun v hv => by
 rcases List.mem_or_eq_of_mem_set hv with hv | rfl
 ·exact h v hv
 ·exact hx
theorem NoPrim.at {l:List Val} (h:NoPrim l) (n:Nat):(atV l n).1 ≠ 6:=by
 unfold atV
 rw [List.getD_eq_getElem?_getD]
 cases hi:l[n]? with
 | none => simp
 | some v => exact h v (List.mem_of_getElem? hi)
structure OkF (p:PgM) (d:Nat) (f:FrM):Prop where
 code:∃ c,p.codes[f.code]? = some c ∧ (f.params.length:Int) = c.params ∧ (f.caps.length:Int) = c.caps ∧ (aheadC c)[f.pc]? = some ((f.stack.length:Int) + d)
 params:NoPrim f.params
 caps:NoPrim f.caps
 stack:NoPrim f.stack
structure Safe (p:PgM) (t:MaM):Prop where
 nice:Nice p.codes t.ar
 st:t.status = 1 ∨ t.status = 2 ∨ t.status = 3 ∨ t.status = 4
 run:t.status = 1 → ∃ f fs,t.frames = f :: fs ∧ OkF p 0 f ∧ ∀ g ∈ fs,OkF p 1 g
 few:t.frames.length ≤ 512
 short:∀ f ∈ t.frames,f.stack.length ≤ 256
 op:t.status = 2 → 1 ≤ t.op ∧ t.op ≤ 3
section
variable {p:PgM} {t:MaM} {f:FrM} {fs:List FrM} {d:Nat}
structure ViewP (p:PgM) (d:Nat) (f:FrM) (c:CoM) (x:InsM) (s:List Int × Int):Prop where
 code:p.codes[f.code]? = some c
 ok:OkCode p.codes p.cv.length p.nn c
 params:(f.params.length:Int) = c.params
 caps:(f.caps.length:Int) = c.caps
 ins:c.ins[f.pc]? = some x
 ahead:s.1 = aheadC c
 most:s.2 ≤ 256
 here:s.1[f.pc]? = some ((f.stack.length:Int) + d)
 flow:OkIns f.pc x s
 first:s.1[0]? = some 0
theorem Af9 (f:FrM) {n:Nat} (h:n ≤ f.stack.length):(f.last n).length = n:=by simp [FrM.last]; omega
theorem Aju (f:FrM) (n:Nat):(f.cut n).stack.length = f.stack.length - n:=by simp [FrM.cut]
end
end Go.Proofs.YtkoekdfimpcofaaGreat
