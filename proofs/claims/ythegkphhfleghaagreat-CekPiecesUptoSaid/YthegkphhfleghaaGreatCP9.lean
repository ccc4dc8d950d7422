/- Part of a proof. -/
import Derived.Test.YthegkphhfleghaaGreatCP8
set_option maxHeartbeats 64000000
set_option linter.unusedSimpArgs false
set_option linter.unusedVariables false
set_option linter.unusedSectionVars false
namespace Go.Proofs.YthegkphhfleghaaGreat
set_option maxRecDepth 4000
set_option maxRecDepth 4000
set_option maxRecDepth 4000
open Go.V
attribute [local simp] Nat.add_assoc
mutual
def makeM:Dat → ArM → ArM × Val × Int
 | .mk K N S _ L T,a =>
  if K = 1 ∨ K = 2 ∨ K = 3 then (a,(K,N),0) else if K = 5 then symM a S else if K = 4 then allocM a ⟨3,0,[],S⟩ else
  if K = 8 then (if (vecM L a).2.2 ≠ 0 then ((vecM L a).1,(0,0),(vecM L a).2.2) else allocM (vecM L a).1 ⟨2,0,(vecM L a).2.1,[]⟩) else
  if (lstM L (if K = 7 then tailM T a else (a,(4,0),0))).2.2 ≠ 0 then ((lstM L (if K = 7 then tailM T a else (a,(4,0),0))).1,(0,0),(lstM L (if K = 7 then tailM T a else (a,(4,0),0))).2.2) else lstM L (if K = 7 then tailM T a else (a,(4,0),0))
def vecM:List Dat → ArM → ArM × List Val × Int
 | [],a => (a,[],0)
 | d :: l,a => if (makeM d a).2.2 ≠ 0 then ((makeM d a).1,[],(makeM d a).2.2) else ((vecM l (makeM d a).1).1,(makeM d a).2.1 :: (vecM l (makeM d a).1).2.1,(vecM l (makeM d a).1).2.2)
def tailM:List Dat → ArM → ArM × Val × Int
 | [],a => (a,(4,0),0)
 | d :: _,a => makeM d a
def lstM:List Dat → ArM × Val × Int → ArM × Val × Int
 | [],r => r
 | d :: l,r => if (lstM l r).2.2 ≠ 0 then lstM l r else if (makeM d (lstM l r).1).2.2 ≠ 0 then ((makeM d (lstM l r).1).1,(lstM l r).2.1,(makeM d (lstM l r).1).2.2) else allocM (makeM d (lstM l r).1).1 ⟨1,0,[(makeM d (lstM l r).1).2.1,(lstM l r).2.1],[]⟩
end
theorem Akg:∀ (l r:List Dat) (a:ArM),(vecM l a).2.2 = 0 → vecM (l ++ r) a = ((vecM r (vecM l a).1).1,(vecM l a).2.1 ++ (vecM r (vecM l a).1).2.1,(vecM r (vecM l a).1).2.2)
 | [],r,a,_ => by simp [vecM]
 | d :: l,r,a,h => by
  rw [vecM] at h
  split at h
  ·rename_i h1; exact absurd h h1
  ·rename_i h1
   have:=Akg l r (makeM d a).1 h
   simp [vecM,h1,this]
theorem Ar.cut {X:Nat → Prop} {A:Nat} {a:ArM} {m:Mem} (h:Ar X A a m):Ar (fun j => X j ∧ j < m.next) A a m:=h.mono fun j hj hx => ⟨hx,hj⟩
theorem Up.less {X:Nat → Prop} {A:Nat} {a:ArM} {m m':Mem} (h:Up (fun j => X j ∧ j < m.next) A a m m'):Up X A a m m':=by
 obtain ⟨X',h1,h2,h3⟩:=h
 exact ⟨X',h1,h2.mono fun j h => h.1,fun j hj => (h3 j hj).imp (fun h => h.1) id⟩
theorem Up.out {X:Nat → Prop} {A:Nat} {a:ArM} {m m':Mem} (h:Up X A a m m'):∃ X',Ar X' A a m' ∧ KpC X m m' ∧ ∀ j,X' j → (X j ∨ m.next ≤ j) ∧ j < m'.next:=by
 obtain ⟨X',h1,h2,h3⟩:=h
 exact ⟨_,h1.cut,h2,fun j hj => ⟨h3 j hj.1,hj.2⟩⟩
theorem A31 {m0 m:Mem} {A:Nat} {k:Int} {l:List Val} {x:AV} (h:Acc m0 m 2 true (vals l) x):∃ m',fzvs m [.ptr A 0,.agg [int k,int 0,x,.emp 0]] = ([.ptr A 0,ceA ⟨k,0,l,[]⟩],m') ∧ KpC (owns x) m m':=by
 have lv:Lv m0 m 2 true (vals l) x:=by
  rcases h with ⟨h1,h2⟩ | ⟨h,id,w,h1,h2,h3,h4⟩
  ·exact .inl ⟨0,by omega,h1,h2⟩
  ·exact .inr (.inr ⟨id,w,none,h1,h2,h3,h4⟩)
 obtain ⟨m',e1,e2⟩:=lv.fz rfl (Ae4 l) (Aa7 l)
 refine ⟨m',?_,e2⟩
 simp [fzvs,fzv,fzs,e1,ceA]
theorem Adj:∀ {l:List Dat} {x:Dat},goods l = true → x ∈ l → good x = true
 | z :: l,x,h,hx => by
  rw [goods] at h
  simp at h
  rcases List.mem_cons.1 hx with rfl | hx
  ·exact h.1
  ·exact Adj h.2 hx
theorem Ahk {X0 X1:Nat → Prop} {A B:Nat} {a':ArM} {m m4 m5:Mem} (k:Kp m m4) (kc:KpC X0 m4 m5) (hA5:Ar X1 A a' m5) (hX:∀ j,X1 j → X0 j ∨ m4.next ≤ j) (hX0:∀ j,X0 j → j < m.next) (hB:m.next ≤ B) (hB4:B < m4.next) (cs:List AV):Up X0 A a' m (m5.set B cs):=by
 refine ⟨X1,hA5.kc (Aal B cs m5) fun j hj e => ?_,KpC.cut (((KpC.of (.of k)).trans (kc.mono fun j h => .inl h)).trans ((Aal B cs m5).mono fun j h => .inr (by omega))),fun j hj => (hX j hj).imp id fun h => by have:=k.next; omega⟩
 have e:j = B:=e
 subst e
 rcases hX j hj with h | h
 ·have:=hX0 j h; omega
 ·omega
theorem Aop (m:Mem) (v:Val) (e:Int):fzr m (.tup [.agg [int v.1,int v.2],int e]) = (.tup [valA v,int e],m):=by
 rw [Aah]
 simp [fzr,fzvs]
theorem q61 (l:List Dat) (m:Mem):EH Tryz.prog ca (.func 62) [.lst (encs l)] m (.fn (.func 97) [] [.ptr m.next 0]) (m.new [.lst (encs l)] false):=by
 refine eh_of (Aaf Tryz.func62 rfl rfl (by simp [Tryz.f62]) (by simp [Tryz.f62]) fun Q hQ => ?_)
 simp only [Tryz.f62,show ca.keepRes 62 = false from rfl,show ca.keepArgs 62 = false from rfl] at hQ ⊢
 simp
 exact hQ _ _ _ ⟨.inr rfl,_,rfl,by simp [oneOf]⟩
def LInv (X:Nat → Prop) (A V E db lo:Nat) (m M5:Mem) (r:ArM × Val × Int) (mm:Mem):Prop :=
 ∃ X1,Ar X1 A r.1 mm ∧ (∀ j,X1 j → ((X j ∧ j < m.next) ∨ M5.next ≤ j) ∧ j < mm.next ∧ j ≠ db ∧ j ≠ lo) ∧ KpC (fun j => (X j ∧ j < m.next) ∨ M5.next ≤ j ∨ j = V ∨ j = E) M5 mm ∧ (∃ w,mm.get V = some (.cells [int r.2.1.1,int r.2.1.2] false w)) ∧ ∃ w,mm.get E = some (.cells [int r.2.2] false w)
theorem A15 {m:Mem} {A id w:Nat} {k:Int} {x y:Val} (h:m.get id = some (.cells [int x.1,int x.2,int y.1,int y.2] false w)):fzvs m [.ptr A 0,.agg [int k,int 0,.sl id 0 2 2 true (some 2),.emp 0]] = ([.ptr A 0,ceA ⟨k,0,[x,y],[]⟩],m.mark id (flat (vals [x,y])) w):=by
 have e:=Aeu (m:=m) (id:=id) (k:=2) (ag:=true) (cap:=some 2) (ys:=vals [x,y]) (v:=w) (f:=false) rfl (by simpa [vals,Aa3,Ak6] using h) (Ae4 _) (Aa7 _)
 rw [Aa8] at e
 simp at e
 simp [fzvs,fzv,fzs,e,ceA]
theorem Adz (lo:Nat) (st:LoopState) (p:Option Code) (c:LCode) (m:Mem):KpC (fun j => j = lo) m (m.setLoop lo st p c):=⟨by simp,fun id hi hx => by simp,fun id hi hx => by
 have:id ≠ lo:=hx
 simp [this]⟩
theorem Aoc (i w:Nat) (cs:List AV) (m:Mem):KpC (fun j => j = i) m (m.mark i cs w):=⟨by simp,fun id hi hx => by
 have:id ≠ i:=hx
 simp [this],fun id hi hx => by simp⟩
theorem Aia {X X2 X3:Nat → Prop} {A V E db lo:Nat} {m M5 mm mf:Mem} {r:ArM × Val × Int} {l:AV} (hX2:∀ j,X2 j → ((X j ∧ j < m.next) ∨ M5.next ≤ j) ∧ j < mm.next ∧ j ≠ db ∧ j ≠ lo) (kc:KpC (fun j => (X j ∧ j < m.next) ∨ M5.next ≤ j ∨ j = V ∨ j = E) M5 mm) (hdb:has mm db [l])
  (hM:M5.next ≤ mm.next) (hlt:lo < mm.next) (hlo:M5.next ≤ lo) (h1:db < lo) (h2:db ≠ V) (h3:db ≠ E) (km:KpC (fun j => X2 j ∨ j = V ∨ j = E ∨ j = lo) mm mf) (hA:Ar X3 A r.1 mf) (hX3:∀ j,X3 j → (X2 j ∨ mm.next ≤ j) ∧ j < mf.next) (gV:∃ w,mf.get V = some (.cells [int r.2.1.1,int r.2.1.2] false w)) (gE:∃ w,mf.get E = some (.cells [int r.2.2] false w)):LInv X A V E db lo m M5 r mf ∧ has mf db [l]:=by
 refine ⟨⟨X3,hA,fun j h => ?_,kc.trans (km.mono fun j h => ?_),gV,gE⟩,hdb.kc km ?_⟩
 ·obtain ⟨q1,q2⟩:=hX3 j h
  rcases q1 with q1 | q1
  ·exact ⟨(hX2 j q1).1,q2,(hX2 j q1).2.2⟩
  ·exact ⟨.inr (by omega),q2,by omega,by omega⟩
 ·rcases h with h | h | h | h
  ·exact (hX2 j h).1.imp id .inl
  ·exact .inr (.inr (.inl h))
  ·exact .inr (.inr (.inr h))
  ·exact .inr (.inl (by omega))
 ·rintro (h | h | h | h)
  ·exact (hX2 db h).2.2.1 rfl
  ·exact h2 h
  ·exact h3 h
  ·omega
def MakeK (X:Nat → Prop) (A:Nat) (d:Dat) (a:ArM) (m:Mem) (v:AV) (m':Mem):Prop:=v = .tup [valA (makeM d a).2.1,int (makeM d a).2.2] ∧ Up X A (makeM d a).1 m m'
theorem q36 {A:Nat}:∀ (n:Nat) (d:Dat),d.size ≤ n → d.fits → good d = true → ∀ (X:Nat → Prop) (a:ArM) (m:Mem),Ar X A a m → wph Tryz.prog ca (.func 41) [.ptr A 0,enc d] m (MakeK X A d a m)
 | 0,d,hs,_,_ => by cases d; simp [Dat.size] at hs
 | n + 1,d,hs,hf,hg => by
  intro X a m hA
  have ih:=q36 (A:=A) n
  refine Aaf Tryz.func41 rfl rfl (by simp [Tryz.f41]) (by simp [Tryz.f41]) fun Q hQ => ?_
  simp only [Tryz.f41,show ca.keepRes 41 = false from rfl,show ca.keepArgs 41 = false from rfl] at hQ ⊢
  obtain ⟨K,N,S,M,L,T⟩:=d
  have ft:=Abg hf
  obtain ⟨hal,hgL,hgT⟩:=Auu hg
  rw [Dat.fits] at hf
  rw [Dat.size] at hs
  have hAlt:=hA.lt
  obtain ⟨m1,hm1⟩:∃ m1,m1 = (((m.new [.ptr A 0] false).new [int K,int N,.sc (.string ⟨⟨S⟩⟩),.lst (M.map int),.lst (encs L),.lst (encs T)] false).new [int 0,int 0] false).newMap:=⟨_,rfl⟩
  obtain ⟨v1,hmp⟩:∃ v,m1.map (m.next + 3) = some ⟨[],0,v⟩:=⟨_,by rw [hm1]; simp; rfl⟩
  have hu1:=Acm (P:=Tryz.prog) Ahq Tryz.underlying3 hmp (ks:=[]) rfl (k:=1) rfl (int 1)
  obtain ⟨m2,hm2⟩:∃ m2,m2 = m1.setMap (m.next + 3) ([] ++ [(.int .i64 1,int 1,0)]) (0 + 1):=⟨_,rfl⟩
  obtain ⟨v2,hmp2⟩:∃ v,m2.map (m.next + 3) = some ⟨[(.int .i64 1,int 1,0)],1,v⟩:=⟨_,by rw [hm2]; simp; rfl⟩
  have hu2:=Acm (P:=Tryz.prog) Ahq Tryz.underlying3 hmp2 (ks:=[1]) rfl (k:=2) rfl (int 2)
  obtain ⟨m3,hm3⟩:∃ m3,m3 = m2.setMap (m.next + 3) ([(.int .i64 1,int 1,0)] ++ [(.int .i64 2,int 2,1)]) (1 + 1):=⟨_,rfl⟩
  obtain ⟨v3,hmp3⟩:∃ v,m3.map (m.next + 3) = some ⟨[(.int .i64 1,int 1,0),(.int .i64 2,int 2,1)],2,v⟩:=⟨_,by rw [hm3]; simp; rfl⟩
  have hu3:=Acm (P:=Tryz.prog) Ahq Tryz.underlying3 hmp3 (ks:=[1,2]) rfl (k:=3) rfl (int 3)
  obtain ⟨m4,hm4⟩:∃ m4,m4 = m3.setMap (m.next + 3) ([(.int .i64 1,int 1,0),(.int .i64 2,int 2,1)] ++ [(.int .i64 3,int 3,2)]) (2 + 1):=⟨_,rfl⟩
  obtain ⟨v4,hmp4⟩:∃ v,m4.map (m.next + 3) = some ⟨[(.int .i64 1,int 1,0),(.int .i64 2,int 2,1),(.int .i64 3,int 3,2)],3,v⟩:=⟨_,by rw [hm4]; simp; rfl⟩
  have hl:=Apb (P:=Tryz.prog) (ok:=true) Ahq Tryz.underlying3 hmp4 (ks:=[1,2,3]) rfl K
  rw [← hm2] at hu1
  rw [← hm3] at hu2
  rw [← hm4] at hu3
  have k4:Kp m m4:=by
   rw [hm4,hm3,hm2,hm1]
   simp
  have g4:∀ j,m4.get j = m1.get j:=fun j => by rw [hm4,hm3,hm2]; simp
  have n4:m4.next = m.next + 4:=by rw [hm4,hm3,hm2,hm1]; simp
  have b0:has m4 m.next [.ptr A 0]:=⟨by omega,m.clock + 1,by rw [g4,hm1]; simp⟩
  have b1:has m4 (m.next + 1) [int K,int N,.sc (.string ⟨⟨S⟩⟩),.lst (M.map int),.lst (encs L),.lst (encs T)]:=⟨by omega,m.clock + 2,by rw [g4,hm1]; simp⟩
  have b2:has m4 (m.next + 2) [int 0,int 0]:=⟨by omega,m.clock + 3,by rw [g4,hm1]; simp⟩
  clear hm2 hm3 hm4 hmp hmp2 hmp3
  simp [enc,Abc Ahq]
  rw [← hm1]
  clear hm1
  obtain ⟨_,x0,e0⟩:=b0
  obtain ⟨_,x1,e1⟩:=b1
  obtain ⟨_,x2,e2⟩:=b2
  have fin:∀ (s':Sl) (m':Mem) (v:Val) (e:Int) (a':ArM),s'.at 4 = .ptr (m.next + 2) 0 → s'.at 5 = int e → (∃ w,m'.get (m.next + 2) = some (.cells [int v.1,int v.2] false w)) → makeM (.mk K N S M L T) a = (a',v,e) → Up X A a' m m' → Q .ret s' m':=by
   intro s' m' v e a' h4 h5 ⟨w,hg⟩ hm hu
   refine hQ _ _ _ ?_
   rw [Aaq]
   refine ⟨_,by simp [aresult,h4,h5,hg,aload,partOf]; rfl,?_⟩
   unfold MakeK
   rw [hm]
   simp only [Bool.false_eq_true,if_false,oneOf,Aop]
   exact ⟨trivial,hu⟩
  have hA4:=hA.cut.kp k4
  have hlt2:m.next + 2 < m4.next:=by omega
  simp [hu1,hu2,hu3,e1]
  by_cases k123:K = 1 ∨ K = 2 ∨ K = 3
  ·have hl':alookup Tryz.prog 123 (.mp (m.next + 3)) (int K) true m4 = some (.tup [int K,.sc (.bool true)]):=by
    rcases k123 with rfl | rfl | rfl <;> (rw [hl]; rfl)
   simp [hl',e1,e2,Ahe]
   refine fin _ _ (K,N) 0 a (by simp) (by simp) ⟨_,by simp; rfl⟩ (by rw [makeM,if_pos k123]) (Up.kp hA (k4.set (by omega) _))
  ·have hl':alookup Tryz.prog 123 (.mp (m.next + 3)) (int K) true m4 = some (.tup [int 0,.sc (.bool false)]):=by
    have hfi:([1,2,3]:List Int).findIdx? (fun x => decide (x = K)) = none:=by
     rw [List.findIdx?_eq_none_iff]
     intro x hx
     simp at hx
     simp
     omega
    rw [hl,hfi]
    simp
   simp [hl',e1]
   by_cases k5:K = 5
   ·simp [k5,e0,e1]
    refine Aae (q59 hA4 S (by have:=ft.s; omega)) ?_
    rintro _ m5 ⟨rfl,X1,hA5,kc5,hX5⟩
    have e5:=(kc5.get (m.next + 2) hlt2 (fun h => by omega)).trans e2
    simp [e5]
    refine fin _ _ (symM a S).2.1 (symM a S).2.2 (symM a S).1 (by simp) (by simp) ⟨_,by simp; rfl⟩ (by rw [makeM,if_neg k123,if_pos k5]) ?_
    exact (Ahk k4 kc5 hA5 hX5 (fun j h => h.2) (by omega) hlt2 _).less
   by_cases k4':K = 4
   ·simp [k5,k4',e0,e1,abuild,placesOf,fillAt]
    refine Aae (Ahi (args:=[.ptr A 0,ceA ⟨3,0,[],S⟩]) (m:=m4) Tryz.func61 rfl rfl rfl (by simp [fzvs,fzs,fz1,ceA,byts]) (by simp [fzvs]) (q60 hA4 ⟨3,0,[],S⟩ (by simp) (by have:=ft.s; simpa using this))) ?_
    rintro _ m5 ⟨rfl,X1,hA5,kc5,hX5⟩
    have e5:=(kc5.get (m.next + 2) hlt2 (fun h => by omega)).trans e2
    simp [e5]
    refine fin _ _ (allocM a ⟨3,0,[],S⟩).2.1 (allocM a ⟨3,0,[],S⟩).2.2 (allocM a ⟨3,0,[],S⟩).1 (by simp) (by simp) ⟨_,by simp; rfl⟩ (by rw [makeM,if_neg k123,if_neg k5,if_pos k4']) ?_
    exact (Ahk k4 kc5 hA5 hX5 (fun j h => h.2) (by omega) hlt2 _).less
   by_cases k8:K = 8
   ·simp [k5,k4',k8,e0,e1]
    have hmk:makeM (.mk K N S M L T) a = (if (vecM L a).2.2 ≠ 0 then ((vecM L a).1,(0,0),(vecM L a).2.2) else allocM (vecM L a).1 ⟨2,0,(vecM L a).2.1,[]⟩):=by rw [makeM,if_neg k123,if_neg k5,if_neg k4',if_pos k8]
    refine Aam 58 L.length (fun i s' m' => ∃ a' vs X1,vecM (L.take i) a = (a',vs,0) ∧ Ar X1 A a' m' ∧ (∀ j,X1 j → ((X j ∧ j < m.next) ∨ m4.next ≤ j) ∧ j < m'.next) ∧ KpC (fun j => (X j ∧ j < m.next) ∨ m4.next ≤ j) m4 m' ∧ Acc m4 m' 2 true (vals vs) (s'.at 9) ∧ vs.length ≤ i ∧ ∀ j,owns (s'.at 9) j → ¬ X1 j) (by simp) (by have:=ft.l; omega) ⟨a,[],_,by simp [vecM],hA4,fun j h => ⟨.inl h,by omega⟩,.refl _ _,.inl ⟨rfl,by simp⟩,by simp,fun j hj => by simp at hj; exact (Ap9.1 hj).elim⟩ ?_
    rintro i s' m' hi e58 ⟨a',vs,X1,hvec,hA',hX1,kc',hacc,hvl,hdis⟩ hsame hw Q' hn he
    have d2:s'.at 2 = .ptr m.next 0:=(hsame 2 (by kernel_rfl)).trans (by simp)
    have d4:s'.at 4 = .ptr (m.next + 2) 0:=(hsame 4 (by kernel_rfl)).trans (by simp)
    have d56:s'.at 56 = .lst (encs L):=(hsame 56 (by kernel_rfl)).trans (by simp)
    have d57:s'.at 57 = int L.length:=(hsame 57 (by kernel_rfl)).trans (by simp)
    clear hsame
    have n':=kc'.next
    have g0:=(kc'.get m.next (by omega) (fun h => by omega)).trans e0
    have g2:=(kc'.get (m.next + 2) (by omega) (fun h => by omega)).trans e2
    simp [e58,d57]
    refine Aas (fun h => ?_) fun h => ?_
    ·have hlt:i < L.length:=by simpa using h
     obtain ⟨x,hx⟩:∃ x,L[i]? = some x:=⟨_,List.getElem?_eq_getElem hlt⟩
     have hx':(encs L)[i]? = some (enc x):=by rw [Adn,hx]; rfl
     have hxL:=List.mem_of_getElem? hx
     have hsz:=Abj hxL
     have hix:=Aad (P:=Tryz.prog) (q:=.i64) Tryz.underlying23 Ab8 hx' (Aax x)
     have zd:List.drop 6 zeroCells = []:=rfl
     have n0:m.next ≠ m'.next:=by omega
     simp [e58,d56,hix,d2,g0,n0,zd]
     obtain ⟨M2,hM2⟩:∃ M2,M2 = (m'.new zeroCells false).set m'.next (enc x).cells:=⟨_,rfl⟩
     have kM:Kp m' M2:=by rw [hM2]; simp
     have nM:M2.next = m'.next + 1:=by rw [hM2]; simp
     rw [← hM2]
     refine Aae (ih x (by omega) (Acb hf.2.1 hxL) (Adj hgL hxL) X1 a' M2 (hA'.kp kM)) ?_
     rintro _ m5 ⟨rfl,hup⟩
     obtain ⟨X2,hA5,kc5,hX5⟩:=hup.out
     have n5:=kc5.next
     have g05:=(kc5.get m.next (by omega) (fun h => by have:=hX1 _ h; omega)).trans ((kM.get m.next (by omega)).trans g0)
     have g25:=(kc5.get (m.next + 2) (by omega) (fun h => by have:=hX1 _ h; omega)).trans ((kM.get (m.next + 2) (by omega)).trans g2)
     have kct:KpC (fun j => (X j ∧ j < m.next) ∨ m4.next ≤ j) m4 m5:=(kc'.trans (.of (.of kM))).trans (kc5.mono fun j h => (hX1 j h).1)
     have htk:vecM (L.take (i + 1)) a = vecM (L.take i ++ [x]) a:=by
      obtain ⟨h1,h2⟩:=List.getElem?_eq_some_iff.1 hx
      rw [List.take_succ_eq_append_getElem h1,h2]
     rw [Akg _ _ _ (by rw [hvec])] at htk
     simp only [hvec] at htk
     have hall:L = L.take i ++ x :: L.drop (i + 1):=by
      obtain ⟨h1,h2⟩:=List.getElem?_eq_some_iff.1 hx
      rw [← h2,List.getElem_cons_drop,List.take_append_drop]
     have hvA:=Akg (L.take i) (x :: L.drop (i + 1)) a (by rw [hvec])
     rw [← hall] at hvA
     simp only [hvec] at hvA
     by_cases hz:(makeM x a').2.2 = 0
     ·have hmx:makeM x a' = ((makeM x a').1,(makeM x a').2.1,0):=by rw [← hz]
      obtain ⟨M5,hM5⟩:∃ M5,M5 = (m5.new [int 0,int 0] false).set m5.next [int (makeM x a').2.1.1,int (makeM x a').2.1.2]:=⟨_,rfl⟩
      have k5':Kp m5 M5:=by rw [hM5]; simp
      have n6:M5.next = m5.next + 1:=by rw [hM5]; simp
      have hac5:Acc m4 M5 2 true (vals vs) (s'.at 9):=(Afp (hacc.kp kM) kc5 hdis).kp k5'
      have hsrc:=Af1 (m:=M5.new (valA (makeM x a').2.1).cells false) (id:=M5.next) (c:=some 1) (k:=2) (ag:=true) (x:=valA (makeM x a').2.1) (w:=M5.clock + 1) (f:=false) rfl (by simp) (by simp) (by simp [valA])
      obtain ⟨v3,m6,p1,p2,p3,p4⟩:=Awp (T:=62) (m:=M5.new (valA (makeM x a').2.1).cells false) (zs:=[valA (makeM x a').2.1]) (hac5.kp (.new _ _ _)) (by simp; omega) (Aa7 _) el62 (by simp [Aan,Aci]) (by simp [fzx,fzvs]) (by have:=ft.l; simp; omega)
      have n7:=p3.next
      simp at n7
      simp only [Aja] at hsrc p1 p3 p4
      simp [hz]
      rw [← hM5]
      simp [abuildSlice,zeros,fillAt,abuiltin,hsrc,p1,e58,hw]
      have hX2l:∀ j,X2 j → j < m5.next:=fun j h => (hX5 j h).2
      have own9:∀ j,owns (s'.at 9) j → j < m'.next:=fun j h => (Akb hacc j h).2
      have dis2:∀ j,owns (s'.at 9) j → ¬ X2 j:=fun j h h2 => by
       rcases (hX5 j h2).1 with h3 | h3
       ·exact hdis j h h3
       ·have:=own9 j h; omega
      refine hn _ _ hlt (by simp) ⟨(makeM x a').1,vs ++ [(makeM x a').2.1],X2,by rw [htk]; simp [vecM,hz],?_,fun j h => ⟨?_,?_⟩,?_,?_,by simp; omega,fun j hj h2 => ?_⟩
      ·refine (hA5.kp (k5'.trans (.new _ _ _))).kc p3 fun j h h2 => absurd h (dis2 j h2)
      ·rcases (hX5 j h).1 with h3 | h3
       ·exact (hX1 j h3).1
       ·exact .inr (by omega)
      ·have:=hX2l j h; omega
      ·refine (kct.trans (.of (.of (k5'.trans (.new _ _ _))))).trans (p3.mono fun j h => .inr ?_)
       exact (Akb hacc j h).1
      ·rw [Anr,Aa2,Apn]
       simpa using p2
      ·simp at hj
       rcases p4 j hj with h3 | h3
       ·exact dis2 j h3 h2
       ·have:=hX2l j h2; simp at h3; omega
     ·have hvz:vecM L a = ((makeM x a').1,vs,(makeM x a').2.2):=by rw [hvA]; simp [vecM,hz]
      have n25:m.next + 2 ≠ m5.next:=by omega
      have d13:∀ e:Int,int e = int e:=fun _ => rfl
      simp [hz,Aa4,d4,g25,n25]
      refine he _ _ _ (by simp) ?_
      simp
      refine fin _ _ (0,0) (makeM x a').2.2 (makeM x a').1 (by simp [d4]) (by simp) ⟨_,by simp; rfl⟩ (by rw [hmk,hvz]; simp [hz]) ?_
      refine (Ahk (m5:=(m5.new [int 0,int 0] false).set m5.next [int (makeM x a').2.1.1,int (makeM x a').2.1.2]) k4 (kct.cut.trans (.of (.of (by simp)))) (hA5.kp (by simp)) (fun j h => ?_) (fun j h => h.2) (by omega) hlt2 _).less
      rcases (hX5 j h).1 with h3 | h3
      ·exact (hX1 j h3).1
      ·exact .inr (by omega)
    ·have hge:i = L.length:=by have:=of_decide_eq_false h; omega
     subst hge
     simp
     refine he _ _ _ (by simp) ?_
     rw [List.take_length] at hvec
     obtain ⟨x9,hx9⟩:∃ x9,x9 = s'.at 9:=⟨_,rfl⟩
     rw [← hx9] at hacc hdis
     have hxc:x9.okc = true ∧ x9.cells = [x9]:=by
      rcases hacc with ⟨_,rfl⟩ | ⟨_,id,w,rfl,_⟩ <;> exact ⟨rfl,rfl⟩
     obtain ⟨m6,hz6,kc6⟩:=A31 (A:=A) (k:=2) hacc
     have hA6:Ar X1 A a' m6:=hA'.kc kc6 fun j h h2 => absurd h (hdis j h2)
     have n6:=kc6.next
     simp [d2,g0,← hx9,abuild,placesOf,fillAt,hxc]
     refine Aae (Ahi Tryz.func61 rfl rfl rfl hz6 (by simp [fzvs]) (q60 hA6 ⟨2,0,vs,[]⟩ (by have:=ft.l; simp; omega) (by simp))) ?_
     rintro _ m7 ⟨rfl,hup⟩
     obtain ⟨X2,hA7,kc7,hX7⟩:=hup.out
     have g26:=(kc6.get (m.next + 2) (by omega) (fun h => by have:=(Akb hacc _ h).1; omega)).trans g2
     have g27:=(kc7.get (m.next + 2) (by omega) (fun h => by have:=hX1 _ h; omega)).trans g26
     simp [d4,g27]
     refine fin _ _ (allocM a' ⟨2,0,vs,[]⟩).2.1 (allocM a' ⟨2,0,vs,[]⟩).2.2 (allocM a' ⟨2,0,vs,[]⟩).1 (by simp [d4]) (by simp) ⟨_,by simp; rfl⟩ (by rw [hmk,hvec]; simp) ?_
     have kall:KpC (fun j => (X j ∧ j < m.next) ∨ m4.next ≤ j) m4 m7:=(kc'.trans (kc6.mono fun j h => .inr (Akb hacc j h).1)).trans (kc7.mono fun j h => (hX1 j h).1)
     refine (Ahk k4 kall.cut hA7 (fun j h => ?_) (fun j h => h.2) (by omega) hlt2 _).less
     rcases (hX7 j h).1 with h3 | h3
     ·exact (hX1 j h3).1
     ·exact .inr (by omega)
   have hmk:makeM (.mk K N S M L T) a = (if (lstM L (if K = 7 then tailM T a else (a,(4,0),0))).2.2 ≠ 0 then ((lstM L (if K = 7 then tailM T a else (a,(4,0),0))).1,(0,0),(lstM L (if K = 7 then tailM T a else (a,(4,0),0))).2.2) else lstM L (if K = 7 then tailM T a else (a,(4,0),0))):=by rw [makeM,if_neg k123,if_neg k5,if_neg k4',if_neg k8]
   have q1:m.next ≠ m4.next:=by omega
   have q2:m.next + 1 ≠ m4.next:=by omega
   have q3:m.next ≠ m4.next + 1:=by omega
   simp [k5,k4',k8,e0,e1,abuild,placesOf,fillAt,q1,q2,q3]
   obtain ⟨M5,hM5⟩:∃ M5,M5 = (((m4.new [int 0,int 0] false).new [int 0] false).set m4.next [int 4,int 0]).set (m4.next + 1) [int 0]:=⟨_,rfl⟩
   have kM5:Kp m4 M5:=by rw [hM5]; simp
   have nM5:M5.next = m4.next + 2:=by rw [hM5]; simp
   have gV:M5.get m4.next = some (.cells [int 4,int 0] false (m4.clock + 3)):=by rw [hM5]; simp
   have gE:M5.get (m4.next + 1) = some (.cells [int 0] false (m4.clock + 4)):=by rw [hM5]; simp
   have f0:=(kM5.get m.next (by omega)).trans e0
   have f1:=(kM5.get (m.next + 1) (by omega)).trans e1
   have f2:=(kM5.get (m.next + 2) (by omega)).trans e2
   have hA5:=hA4.kp kM5
   rw [← hM5]
   obtain ⟨r0,hr0⟩:∃ r0,r0 = (if K = 7 then tailM T a else (a,(4,0),0)):=⟨_,rfl⟩
   rw [← hr0] at hmk
   refine A3s (fun s2 m2 => s2.at 2 = .ptr m.next 0 ∧ s2.at 3 = .ptr (m.next + 1) 0 ∧ s2.at 4 = .ptr (m.next + 2) 0 ∧ s2.at 14 = .ptr m4.next 0 ∧ s2.at 15 = .ptr (m4.next + 1) 0 ∧ LInv X A m4.next (m4.next + 1) m2.next m2.next m M5 r0 m2) (fun hk7 k' hk' => ?_) (fun hk7 k' hk' => ?_) ?_
   ·have h7:K = 7:=of_decide_eq_true hk7
    subst h7
    rw [if_pos rfl] at hr0
    obtain ⟨t,rfl⟩:∃ t,T = [t]:=by
     rcases T with _ | ⟨t,_ | ⟨t2,T2⟩⟩
     ·simp [alone] at hal
     ·exact ⟨t,rfl⟩
     ·simp [alone] at hal
    rw [tailM] at hr0
    have hszt:=Abj (by simp:t ∈ [t])
    have hix:=Aa5 (P:=Tryz.prog) (T:=23) (q:=.i64) (x:=enc t) (l:=[]) Tryz.underlying23 Ab8 (by simp)
    simp only [encs] at f1
    refine Aai (by kernel_rfl) (by kernel_rfl) ?_
    simp [f0,f1,encs,hix]
    refine Aae (ih t (by simp [sizes] at hszt hs; omega) (Acb hf.2.2 (by simp)) (Adj hgT (by simp)) _ a M5 hA5) ?_
    rintro _ m6 ⟨rfl,hup⟩
    obtain ⟨X1,hA6,kc6,hX6⟩:=hup.out
    have n6:=kc6.next
    have gV6:=(kc6.get m4.next (by omega) (fun h => by omega)).trans gV
    have gE6:=(kc6.get (m4.next + 1) (by omega) (fun h => by omega)).trans gE
    have q4:m4.next + 1 ≠ m4.next:=by omega
    simp [gV6,gE6]
    refine hk' _ _ ⟨by simp,by simp,by simp,by simp,by simp,?_⟩
    rw [hr0]
    have hB:∀ j,X1 j → j ≠ m4.next ∧ j ≠ m4.next + 1 ∧ ((X j ∧ j < m.next) ∨ M5.next ≤ j) ∧ j < m6.next:=fun j h => by
     rcases (hX6 j h).1 with h3 | h3
     ·exact ⟨by omega,by omega,.inl h3,(hX6 j h).2⟩
     ·exact ⟨by omega,by omega,.inr h3,(hX6 j h).2⟩
    refine ⟨X1,(hA6.kc (Aal m4.next _ _) fun j h e => absurd e (hB j h).1).kc (Aal (m4.next + 1) _ _) fun j h e => absurd e (hB j h).2.1,fun j h => ⟨(hB j h).2.2.1,by simpa using (hB j h).2.2.2,?_,?_⟩,?_,⟨m6.clock + 1,by simp⟩,⟨m6.clock + 2,by simp⟩⟩
    ·have:=(hB j h).2.2.2; simp; omega
    ·have:=(hB j h).2.2.2; simp; omega
    ·exact ((kc6.mono fun j h => .inl h).trans ((Aal m4.next _ _).mono fun j h => .inr (.inr (.inl h)))).trans ((Aal (m4.next + 1) _ _).mono fun j h => .inr (.inr (.inr h)))
   ·have h7:¬ K = 7:=of_decide_eq_false hk7
    rw [if_neg h7] at hr0
    simp
    refine hk' _ _ ⟨by simp,by simp,by simp,by simp,by simp,?_⟩
    rw [hr0]
    exact ⟨_,hA5,fun j h => ⟨.inl h,by omega,by omega,by omega⟩,.refl _ _,⟨_,gV⟩,⟨_,gE⟩⟩
   ·rintro s2 m2 ⟨d2,d3,d4,d14,d15,X1,hA2,hX1,kc2,⟨wV,gV2⟩,⟨wE,gE2⟩⟩
    have n2:=kc2.next
    have own:∀ j,m.next ≤ j → j < m4.next → ¬ ((X j ∧ j < m.next) ∨ M5.next ≤ j ∨ j = m4.next ∨ j = m4.next + 1):=fun j h1 h2 h => by omega
    have h0:=(kc2.get m.next (by omega) (own _ (by omega) (by omega))).trans f0
    have h1:=(kc2.get (m.next + 1) (by omega) (own _ (by omega) (by omega))).trans f1
    have h2:=(kc2.get (m.next + 2) (by omega) (own _ (by omega) (by omega))).trans f2
    simp [d3,h1,(q61 L m2).go]
    refine Afj (f:=97) (a:=[]) (b:=[.ptr m2.next 0]) (by simp) (by kernel_rfl) ?_
    simp only [List.nil_append,List.singleton_append]
    generalize hcd:LCode.mk _ _ _ _ _ = c
    refine Abe (A4n (J:=fun k mm => LInv X A m4.next (m4.next + 1) m2.next (m2.next + 1) m M5 (lstM (L.drop k) r0) mm ∧ has mm m2.next [.lst (encs L)] ∧ ∃ ver,mm.loop (m2.next + 1) = some ⟨.ready,none,c,ver⟩ ∧ m2.next + 1 < mm.next) L ft.l ?_ (fun k mm h => h.2.1) _ ?_) ?_
    ·rintro k x mm hx ⟨⟨X2,hA7,hX2,kc7,⟨uV,hV⟩,⟨uE,hE⟩⟩,⟨dbl,dbv,dbe⟩,ver,hloop,hlt⟩
     have hid:(m2.new [AV.lst (encs L)] false).next = m2.next + 1:=by simp
     rw [hid]
     refine Ac4 hloop (by rw [← hcd]; rfl) ?_
     have c1:=congrArg LCode.assign hcd
     have c2:=congrArg LCode.body hcd
     have c3:=congrArg LCode.N hcd
     have c4:=congrArg LCode.s hcd
     have c5:=congrArg LCode.ps hcd
     dsimp only at c1 c2 c3 c4 c5
     simp only [← c1,← c2,← c3,← c4,← c5]
     have nn:=kc7.next
     have h0':=(kc7.get m.next (by omega) (own _ (by omega) (by omega))).trans f0
     have zd:List.drop 6 zeroCells = []:=rfl
     have w1:m4.next + 1 ≠ mm.next:=by omega
     have w2:m4.next + 1 ≠ mm.next + 1:=by omega
     have w3:m.next ≠ mm.next:=by omega
     have w4:m.next ≠ mm.next + 1:=by omega
     have w5:m4.next ≠ mm.next:=by omega
     have w6:m4.next ≠ mm.next + 1:=by omega
     have hstep:lstM (L.drop k) r0 = lstM (x :: L.drop (k + 1)) r0:=by
      obtain ⟨h1,h2⟩:=List.getElem?_eq_some_iff.1 hx
      rw [← h2,List.getElem_cons_drop]
     rw [hstep,lstM]
     generalize lstM (L.drop (k + 1)) r0 = r at hA7 hV hE ⊢
     simp [Sl.puts,hloop,d2,d14,d15,hE,w1,w2,w5,zd]
     by_cases hr:r.2.2 = 0
     rotate_left
     ·simp [hr,hE,w1,w2,w5,d15]
      have km0:KpC (fun j => j = m2.next + 1) mm (((((mm.new zeroCells false).set mm.next (enc x).cells).setLoop (m2.next + 1) .busy none c).new [int 0,int 0] false).setLoop (m2.next + 1) .ready none c):=⟨by simp,fun id hi hx => by
       have a1:id ≠ mm.next:=by omega
       have a2:id ≠ mm.next + 1:=by omega
       simp [a1,a2],fun id hi hx => by
       have a1:id ≠ m2.next + 1:=hx
       simp [a1]⟩
      obtain ⟨r1,r2⟩:=Aia (r:=r) (V:=m4.next) (E:=m4.next + 1) hX2 kc7 ⟨dbl,dbv,dbe⟩ (by omega) hlt (by omega) (by omega) (by omega) (by omega) (km0.mono fun j h => .inr (.inr (.inr h))) (hA7.kc km0 fun j h e => absurd e (hX2 j h).2.2.2) (fun j h => ⟨.inl h,by have:=(hX2 j h).2.1; simp; omega⟩) ⟨uV,by simp [w5,w6,hV]⟩ ⟨uE,by simp [w1,w2,w5,hE]⟩
      exact ⟨r1,r2,by omega⟩
     ·simp [hr,d2,h0',w3,w4]
      obtain ⟨Mb,hMb⟩:∃ Mb,Mb = (((mm.new zeroCells false).set mm.next (enc x).cells).setLoop (m2.next + 1) .busy none c).new [int 0,int 0] false:=⟨_,rfl⟩
      have kb:KpC (fun j => j = m2.next + 1) mm Mb:=by
       rw [hMb]
       exact ⟨by simp,fun id hi hx => by
        have a1:id ≠ mm.next:=by omega
        have a2:id ≠ mm.next + 1:=by omega
        simp [a1,a2],fun id hi hx => by
        have a1:id ≠ m2.next + 1:=hx
        simp [a1]⟩
      have nb:Mb.next = mm.next + 2:=by rw [hMb]; simp
      have hAb:Ar X2 A r.1 Mb:=hA7.kc kb fun j h e => absurd e (hX2 j h).2.2.2
      have gbE:Mb.get (m4.next + 1) = some (.cells [int r.2.2] false uE):=by rw [hMb]; simp [w1,w2,w5,hE]
      have gbV:Mb.get m4.next = some (.cells [int r.2.1.1,int r.2.1.2] false uV):=by rw [hMb]; simp [w5,w6,hV]
      obtain ⟨uF,gbF⟩:∃ w,Mb.get (mm.next + 1) = some (.cells [int 0,int 0] false w):=⟨_,by rw [hMb]; simp; rfl⟩
      obtain ⟨uL,lbL⟩:∃ w,Mb.loop (m2.next + 1) = some ⟨.busy,none,c,w⟩:=⟨_,by rw [hMb]; simp; rfl⟩
      rw [← hMb]
      clear hMb
      have hxL:=List.mem_of_getElem? hx
      have hszx:=Abj hxL
      have nX2:∀ j,m.next ≤ j → j < M5.next → ¬ X2 j:=fun j q1 q2 h => by have:=(hX2 j h).1; omega
      refine Aae (ih x (by omega) (Acb hf.2.1 hxL) (Adj hgL hxL) X2 r.1 Mb hAb) ?_
      rintro _ m6 ⟨rfl,hup⟩
      obtain ⟨X3,hA6,kc6,hX6⟩:=hup.out
      have n6:=kc6.next
      have g6E:=(kc6.get (m4.next + 1) (by omega) (nX2 _ (by omega) (by omega))).trans gbE
      have g6V:=(kc6.get m4.next (by omega) (nX2 _ (by omega) (by omega))).trans gbV
      have g6F:=(kc6.get (mm.next + 1) (by omega) (fun h => by have:=(hX2 _ h).2.1; omega)).trans gbF
      have l6:=(kc6.x (m2.next + 1) (by omega) (fun h => (hX2 _ h).2.2.2 rfl)).1.trans lbL
      have z1:m4.next ≠ mm.next:=by omega
      have z2:mm.next ≠ m4.next:=by omega
      have z3:m4.next ≠ mm.next + 1:=by omega
      have z4:mm.next + 1 ≠ m4.next:=by omega
      simp [g6F,g6E,z1,z2,z3,z4,d15]
      by_cases hz:(makeM x r.1).2.2 = 0
      rotate_left
      ·simp [hz,l6]
       have hX3:∀ j,X3 j → (X2 j ∨ mm.next + 2 ≤ j) ∧ j < m6.next:=fun j h => ⟨(hX6 j h).1.imp id fun h => by omega,(hX6 j h).2⟩
       have hne:∀ j,X3 j → j ≠ mm.next + 1 ∧ j ≠ m4.next + 1 ∧ j ≠ m2.next + 1:=fun j h => by
        rcases (hX3 j h).1 with q | q
        ·have q1:=hX2 j q
         exact ⟨by omega,fun e => nX2 _ (by omega) (by omega) (e ▸ q),q1.2.2.2⟩
        ·omega
       have ks:KpC (fun j => (X2 j ∨ j = m4.next ∨ j = m4.next + 1 ∨ j = m2.next + 1) ∨ mm.next ≤ j) mm (((m6.set (mm.next + 1) [int (makeM x r.1).2.1.1,int (makeM x r.1).2.1.2]).set (m4.next + 1) [int (makeM x r.1).2.2]).setLoop (m2.next + 1) .ready none c) :=
        ((((kb.mono fun j h => .inl (.inr (.inr (.inr h)))).trans (kc6.mono fun j h => .inl (.inl h))).trans ((Aal (mm.next + 1) _ _).mono fun j h => .inr (by omega))).trans ((Aal (m4.next + 1) _ _).mono fun j h => .inl (.inr (.inr (.inl h))))).trans ((Adz (m2.next + 1) _ _ _ _).mono fun j h => .inl (.inr (.inr (.inr h))))
       obtain ⟨r1,r2⟩:=Aia (r:=((makeM x r.1).1,r.2.1,(makeM x r.1).2.2)) (V:=m4.next) (E:=m4.next + 1) hX2 kc7 ⟨dbl,dbv,dbe⟩ (by omega) hlt (by omega) (by omega) (by omega) (by omega) ks.cut (((hA6.kc (Aal (mm.next + 1) _ _) fun j h e => absurd e (hne j h).1).kc (Aal (m4.next + 1) _ _) fun j h e => absurd e (hne j h).2.1).kc (Adz (m2.next + 1) _ _ _ _) fun j h e => absurd e (hne j h).2.2) (fun j h => ⟨(hX3 j h).1.imp id fun h => by omega,by have:=(hX3 j h).2; simp; omega⟩) ⟨uV,by simp [z1,z2,z3,z4,g6V]⟩ ⟨m6.clock + 2,by simp⟩
       exact ⟨r1,r2,by omega⟩
      ·have z5:m.next ≠ m4.next + 1:=by omega
       have g60:=(kc6.get m.next (by omega) (nX2 _ (by omega) (by omega))).trans ((kb.get m.next (by omega) (by omega)).trans h0')
       simp [hz,d2,d14,g60,w4,z5,z1,z2,z3,z4,g6V,abuildSlice,zeros,fillAt,abuild,placesOf]
       have hX3:∀ j,X3 j → (X2 j ∨ mm.next + 2 ≤ j) ∧ j < m6.next:=fun j h => ⟨(hX6 j h).1.imp id fun h => by omega,(hX6 j h).2⟩
       have hne:∀ j,X3 j → j ≠ mm.next + 1 ∧ j ≠ m4.next + 1 ∧ j ≠ m2.next + 1 ∧ j ≠ m4.next:=fun j h => by
        rcases (hX3 j h).1 with q | q
        ·have q1:=hX2 j q
         exact ⟨by omega,fun e => nX2 _ (by omega) (by omega) (e ▸ q),q1.2.2.2,fun e => nX2 _ (by omega) (by omega) (e ▸ q)⟩
        ·omega
       obtain ⟨M7,hM7⟩:∃ M7,M7 = (((m6.set (mm.next + 1) [int (makeM x r.1).2.1.1,int (makeM x r.1).2.1.2]).set (m4.next + 1) [int 0]).new [int (makeM x r.1).2.1.1,int (makeM x r.1).2.1.2,int r.2.1.1,int r.2.1.2] false):=⟨_,rfl⟩
       have ks7:KpC (fun j => j = mm.next + 1 ∨ j = m4.next + 1) m6 M7:=by
        rw [hM7]
        exact (((Aal (mm.next + 1) _ _).mono fun j h => .inl h).trans ((Aal (m4.next + 1) _ _).mono fun j h => .inr h)).trans (.of (.of (.new _ _ _)))
       have n7:M7.next = m6.next + 1:=by rw [hM7]; simp
       have hA7':Ar X3 A (makeM x r.1).1 M7:=hA6.kc ks7 fun j h e => by have:=hne j h; omega
       obtain ⟨w7,g7⟩:∃ w,M7.get m6.next = some (.cells [int (makeM x r.1).2.1.1,int (makeM x r.1).2.1.2,int r.2.1.1,int r.2.1.2] false w):=⟨_,by rw [hM7]; simp; rfl⟩
       obtain ⟨u7E,g7E⟩:∃ w,M7.get (m4.next + 1) = some (.cells [int 0] false w):=⟨m6.clock + 2,by
        have a1:m4.next + 1 ≠ m6.next:=by omega
        rw [hM7]; simp [a1]⟩
       have l7:M7.loop (m2.next + 1) = some ⟨.busy,none,c,uL⟩:=by rw [hM7]; simp; exact l6
       rw [← hM7]
       clear hM7
       have hA8:Ar X3 A (makeM x r.1).1 (M7.mark m6.next (flat (vals [(makeM x r.1).2.1,r.2.1])) w7):=hA7'.kc (Aoc m6.next _ _ _) fun j h e => by have:=(hX3 j h).2; omega
       refine Aae (Ahi Tryz.func61 rfl rfl rfl (A15 (x:=(makeM x r.1).2.1) (y:=r.2.1) g7) (by simp [fzvs]) (q60 hA8 ⟨1,0,[(makeM x r.1).2.1,r.2.1],[]⟩ (by simp) (by simp))) ?_
       rintro _ m9 ⟨rfl,hup⟩
       obtain ⟨X4,hA9,kc9,hX9⟩:=hup.out
       have n9:=kc9.next
       simp [n7] at n9
       have nX3:∀ j,m.next ≤ j → j < M5.next → ¬ X3 j:=fun j q1 q2 h => by
        rcases (hX3 j h).1 with q | q
        ·exact nX2 j q1 q2 q
        ·omega
       have kall:KpC (fun j => (X2 j ∨ j = m4.next ∨ j = m4.next + 1 ∨ j = m2.next + 1) ∨ mm.next ≤ j) mm m9 :=
        ((((kb.mono fun j h => .inl (.inr (.inr (.inr h)))).trans (kc6.mono fun j h => .inl (.inl h))).trans (ks7.mono fun j h => h.elim (fun h => .inr (by omega)) fun h => .inl (.inr (.inr (.inl h))))).trans ((Aoc m6.next _ _ _).mono fun j h => .inr (by omega))).trans (kc9.mono fun j h => (hX3 j h).1.imp .inl fun h => by omega)
       have g9V:m9.get m4.next = some (.cells [int r.2.1.1,int r.2.1.2] false uV):=by
        rw [kc9.get m4.next (by simp; omega) (nX3 _ (by omega) (by omega))]
        have a1:m4.next ≠ m6.next:=by omega
        simp [a1]
        rw [ks7.get m4.next (by omega) (by omega)]
        exact g6V
       have g9E:m9.get (m4.next + 1) = some (.cells [int 0] false u7E):=by
        rw [kc9.get (m4.next + 1) (by simp; omega) (nX3 _ (by omega) (by omega))]
        have a1:m4.next + 1 ≠ m6.next:=by omega
        simp [a1]
        exact g7E
       have l9:m9.loop (m2.next + 1) = some ⟨.busy,none,c,uL⟩:=by
        rw [(kc9.x (m2.next + 1) (by simp; omega) (fun h => (hne _ h).2.2.1 rfl)).1]
        simp
        exact l7
       simp [d14,d15,g9V,g9E,l9]
       have hX4:∀ j,X4 j → (X2 j ∨ mm.next + 2 ≤ j) ∧ j < m9.next:=fun j h => by
        refine ⟨?_,(hX9 j h).2⟩
        rcases (hX9 j h).1 with q | q
        ·exact (hX3 j q).1
        ·simp at q; exact .inr (by omega)
       have hne4:∀ j,X4 j → j ≠ m4.next + 1 ∧ j ≠ m2.next + 1 ∧ j ≠ m4.next:=fun j h => by
        rcases (hX4 j h).1 with q | q
        ·exact ⟨fun e => nX2 _ (by omega) (by omega) (e ▸ q),(hX2 j q).2.2.2,fun e => nX2 _ (by omega) (by omega) (e ▸ q)⟩
        ·omega
       obtain ⟨al,hal2⟩:∃ al,al = allocM (makeM x r.1).1 ⟨1,0,[(makeM x r.1).2.1,r.2.1],[]⟩:=⟨_,rfl⟩
       rw [← hal2] at hA9 ⊢
       have ks:KpC (fun j => (X2 j ∨ j = m4.next ∨ j = m4.next + 1 ∨ j = m2.next + 1) ∨ mm.next ≤ j) mm (((m9.set m4.next [int al.2.1.1,int al.2.1.2]).set (m4.next + 1) [int al.2.2]).setLoop (m2.next + 1) .ready none c) :=
        ((kall.trans ((Aal m4.next _ _).mono fun j h => .inl (.inr (.inl h)))).trans ((Aal (m4.next + 1) _ _).mono fun j h => .inl (.inr (.inr (.inl h))))).trans ((Adz (m2.next + 1) _ _ _ _).mono fun j h => .inl (.inr (.inr (.inr h))))
       obtain ⟨r1,r2⟩:=Aia (r:=al) (V:=m4.next) (E:=m4.next + 1) hX2 kc7 ⟨dbl,dbv,dbe⟩ (by omega) hlt (by omega) (by omega) (by omega) (by omega) ks.cut (((hA9.kc (Aal m4.next _ _) fun j h e => absurd e (hne4 j h).2.2).kc (Aal (m4.next + 1) _ _) fun j h e => absurd e (hne4 j h).1).kc (Adz (m2.next + 1) _ _ _ _) fun j h e => absurd e (hne4 j h).2.1) (fun j h => ⟨(hX4 j h).1.imp id fun h => by omega,by have:=(hX4 j h).2; simp; omega⟩) ⟨m9.clock + 1,by simp⟩ ⟨m9.clock + 2,by simp⟩
       exact ⟨r1,r2,by omega⟩
    ·rw [List.drop_length,lstM]
     have w5:m4.next ≠ m2.next:=by omega
     have w6:m4.next + 1 ≠ m2.next:=by omega
     refine ⟨⟨X1,hA2.kp (by simp),fun j h => ⟨(hX1 j h).1,?_,(hX1 j h).2.2.1,?_⟩,kc2.trans (.of (.of (by simp))),⟨wV,by simp [w5,gV2]⟩,⟨wE,by simp [w6,gE2]⟩⟩,⟨by simp,_,by simp; rfl⟩,_,by simp; rfl,by simp⟩
     ·have:=(hX1 j h).2.1; simp; omega
     ·have:=(hX1 j h).2.1; omega
    ·rintro v mm ⟨rfl,⟨X2,hA7,hX2,kc7,⟨uV,hV⟩,⟨uE,hE⟩⟩,_,ver,hloop,hlt⟩
     rw [List.drop_zero] at hA7 hV hE
     have nn:=kc7.next
     have h2':=(kc7.get (m.next + 2) (by omega) (own _ (by omega) (by omega))).trans f2
     have kfin:KpC (fun j => X j ∧ j < m.next) m4 (mm.killLoop (m2.next + 1)):=by
      have a1:KpC (fun j => (X j ∧ j < m.next) ∨ m4.next ≤ j) m4 mm:=(KpC.of (.of kM5)).trans (kc7.mono fun j h => h.imp id fun h => by omega)
      have a2:KpC (fun j => (X j ∧ j < m.next) ∨ m4.next ≤ j) mm (mm.killLoop (m2.next + 1)):=⟨by simp,fun id hi hx => by simp,fun id hi hx => by
       have:id ≠ m2.next + 1:=fun e => hx (.inr (by omega))
       simp [this]⟩
      exact (a1.trans a2).cut
     have hA8:Ar X2 A (lstM L r0).1 (mm.killLoop (m2.next + 1)):=hA7.kc (Y:=fun j => j = m2.next + 1) ⟨by simp,fun id hi hx => by simp,fun id hi hx => by
      have:id ≠ m2.next + 1:=hx
      simp [this]⟩ fun j h e => absurd e (hX2 j h).2.2.2
     have hX8:∀ j,X2 j → (X j ∧ j < m.next) ∨ m4.next ≤ j:=fun j h => (hX2 j h).1.imp id fun h => by omega
     refine ⟨_,.normal,by simpa using hloop,by simp,rfl,?_⟩
     by_cases hz:(lstM L r0).2.2 = 0
     ·simp [d15,d14,d4,hE,hV,hz,h2']
      refine fin _ _ (lstM L r0).2.1 0 (lstM L r0).1 (by simp [d4]) (by simp) ⟨_,by simp; rfl⟩ (by rw [hmk,if_neg (by simp [hz]),← hz]) ?_
      exact (Ahk k4 kfin hA8 hX8 (fun j h => h.2) (by omega) hlt2 _).less
     ·simp [d15,d14,d4,hE,hV,hz]
      refine Aau (by kernel_rfl) ?_
      simp [d15,d14,d4,hE,hV,hz,h2',Aa4]
      have w7:m4.next + 1 ≠ m.next + 2:=by omega
      have w8:m4.next ≠ m.next + 1:=by omega
      refine Aay (l:=[(1,2)]) (by kernel_rfl) (?_:List.all _ _ = true) ?_
      ·simp [metAtD,metOkD,rank,verKeptD,Region.wanted,Mem.ver,hE,w7,Ne.symm w7,w8]
      simp [d4]
      refine fin _ _ (0,0) (lstM L r0).2.2 (lstM L r0).1 (by simp [d4]) (by simp) ⟨_,by simp; rfl⟩ (by rw [hmk,if_pos hz]) ?_
      exact (Ahk k4 kfin hA8 hX8 (fun j h => h.2) (by omega) hlt2 _).less
def ofM (d:Dat) (a:ArM):ArM × Val × Int:=if chk d = 0 then makeM d a else (a,(0,0),chk d)
theorem q21 {X:Nat → Prop} {A:Nat} {a:ArM} {m:Mem} (hA:Ar X A a m) (d:Dat) (hd:d.fits):wph Tryz.prog ca (.func 20) [.ptr A 0,enc d] m fun v m' => v = .tup [valA (ofM d a).2.1,int (ofM d a).2.2] ∧ Up X A (ofM d a).1 m m':=by
 refine Aaf Tryz.func20 rfl rfl (by simp [Tryz.f20]) (by simp [Tryz.f20]) fun Q hQ => ?_
 simp only [Tryz.f20,show ca.keepRes 20 = false from rfl,show ca.keepArgs 20 = false from rfl] at hQ ⊢
 have k1:Kp m ((m.new (enc d).cells false).new [int 0,int 0] false):=by simp
 have q1:=q34 (hA.kp k1)
 have fin:∀ (s':Sl) (m':Mem) (v:Val) (e:Int) (a':ArM),s'.at 4 = .ptr (m.next + 1) 0 → s'.at 5 = int e → (∃ w,m'.get (m.next + 1) = some (.cells [int v.1,int v.2] false w)) → ofM d a = (a',v,e) → Up X A a' m m' → Q .ret s' m':=by
  intro s' m' v e a' h4 h5 ⟨w,hg⟩ hm hu
  refine hQ _ _ _ ?_
  rw [Aaq]
  refine ⟨_,by simp [aresult,h4,h5,hg,aload,partOf]; rfl,?_⟩
  rw [hm]
  simp only [Bool.false_eq_true,if_false,oneOf,Aop]
  exact ⟨trivial,hu⟩
 simp [q1.go,(Aek (g14 d hd)).go]
 by_cases hc:chk d = 0
 ·simp [hc]
  refine Aae (q36 d.size d (Nat.le_refl _) hd (A0z hc).1 _ a _ (hA.cut.kp k1)) ?_
  rintro _ m5 ⟨rfl,hup⟩
  obtain ⟨X1,hA5,kc5,hX5⟩:=hup.out
  have g5:m5.get (m.next + 1) = some (.cells [int 0,int 0] false (m.clock + 2)):=by
   rw [kc5.get (m.next + 1) (by simp) (fun h => by omega)]
   simp
  simp [g5]
  refine fin _ _ (makeM d a).2.1 (makeM d a).2.2 (makeM d a).1 (by simp) (by simp) ⟨_,by simp; rfl⟩ (by rw [ofM,if_pos hc]) ?_
  exact (Ahk k1 kc5 hA5 (fun j h => (hX5 j h).1) (fun j h => h.2) (by omega) (by simp) _).less
 ·simp [hc,Aa4]
  refine fin _ _ (0,0) (chk d) a (by simp) (by simp) ⟨_,by simp; rfl⟩ (by rw [ofM,if_neg hc]) (Up.kp hA (by simp))
theorem two51:Two Tryz.prog 42 3 2:=⟨⟨_,_,Tryz.underlying42,by decide,by decide,rfl,rfl,rfl,rfl⟩,tagg3,tagg2,by kernel_rfl,by kernel_rfl⟩
theorem As5 {xo yo:Operand} (v w:Val):abin Tryz.prog .eql 42 xo yo (valA v) (valA w) = some (.sc (.bool (decide (v = w)))):=by
 have:=(A1g (xo:=xo) (yo:=yo) two51 (x1:=.int .i64 v.1) (y1:=.int .i64 w.1) (x2:=.int .i64 v.2) (y2:=.int .i64 w.2) (b1:=decide (v.1 = w.1)) (b2:=decide (v.2 = w.2)) (fun d => by rw [Aih Tryz.underlying3]) (fun d => by rw [Aih Tryz.underlying2])).1
 have e:decide (v = w) = (decide (v.1 = w.1) && decide (v.2 = w.2)):=by
  obtain ⟨a,b⟩:=v
  obtain ⟨c,d⟩:=w
  simp [Prod.ext_iff]
 rw [e]
 exact this
mutual
def eqM (a:ArM):Nat → Int → Val → Val → Bool × Int
 | 0,left,_,_ => (false,left)
 | n + 1,left,x,y =>
  if left - 1 < 0 then (false,left - 1) else if x = y then (true,left - 1) else
  match ixM a x,ixM a y with
  | some i,some j => if (a.cells.getD i zeroC).k ≠ (a.cells.getD j zeroC).k ∨ 3 < (a.cells.getD i zeroC).k ∨ (a.cells.getD i zeroC).s ≠ (a.cells.getD j zeroC).s then (false,left - 1) else
   if (a.cells.getD i zeroC).a.length ≠ (a.cells.getD j zeroC).a.length then (false,left - 1) else eqsM a n (left - 1) (a.cells.getD i zeroC).a (a.cells.getD j zeroC).a
  | _,_ => (false,left - 1)
def eqsM (a:ArM):Nat → Int → List Val → List Val → Bool × Int
 | n,left,x :: xs,y :: ys => if (eqM a n left x y).1 = true then eqsM a n (eqM a n left x y).2 xs ys else (false,(eqM a n left x y).2)
 | _,left,_,_ => (true,left)
end
theorem Avk {a:ArM} {n:Nat} (ih:∀ left x y,0 ≤ left → (eqM a n left x y).2 ≤ left ∧ -1 ≤ (eqM a n left x y).2 ∧ ((eqM a n left x y).1 = true → 0 ≤ (eqM a n left x y).2)):∀ (xs ys:List Val) (left:Int),0 ≤ left → (eqsM a n left xs ys).2 ≤ left ∧ -1 ≤ (eqsM a n left xs ys).2 ∧ ((eqsM a n left xs ys).1 = true → 0 ≤ (eqsM a n left xs ys).2)
 | [],ys,left,h => by rw [eqsM]; exact ⟨Int.le_refl _,by omega,fun _ => h⟩; simp
 | x :: xs,[],left,h => by rw [eqsM]; exact ⟨Int.le_refl _,by omega,fun _ => h⟩; simp
 | x :: xs,y :: ys,left,h => by
  obtain ⟨h1,h2,h3⟩:=ih left x y h
  rw [eqsM]
  split
  ·rename_i hc
   have:=Avk ih xs ys (eqM a n left x y).2 (h3 hc)
   exact ⟨by omega,this.2⟩
  ·exact ⟨h1,h2,by simp⟩
theorem eq_le (a:ArM):∀ (n:Nat) (left:Int) (x y:Val),0 ≤ left → (eqM a n left x y).2 ≤ left ∧ -1 ≤ (eqM a n left x y).2 ∧ ((eqM a n left x y).1 = true → 0 ≤ (eqM a n left x y).2)
 | 0,left,x,y,h => by rw [eqM]; exact ⟨Int.le_refl _,by omega,by simp⟩
 | n + 1,left,x,y,h => by
  rw [eqM]
  split
  ·exact ⟨by dsimp only; omega,by dsimp only; omega,by simp⟩
  split
  ·exact ⟨by dsimp only; omega,by dsimp only; omega,fun _ => by dsimp only; omega⟩
  split
  ·split
   ·exact ⟨by dsimp only; omega,by dsimp only; omega,by simp⟩
   split
   ·exact ⟨by dsimp only; omega,by dsimp only; omega,by simp⟩
   have:=Avk (n:=n) (fun l x y h => eq_le a n l x y h) (a.cells.getD ‹_› zeroC).a (a.cells.getD ‹_› zeroC).a (left - 1) (by omega)
   rename_i i j _ _ _ _
   have:=Avk (n:=n) (fun l x y h => eq_le a n l x y h) (a.cells.getD i zeroC).a (a.cells.getD j zeroC).a (left - 1) (by omega)
   exact ⟨by omega,this.2⟩
  ·exact ⟨by dsimp only; omega,by dsimp only; omega,by simp⟩
theorem q76 {A L v:Nat} {left:Int} {m:Mem} (h:m.get L = some (.cells [.ptr A 0,int left] false v)) (h1:0 ≤ left) (h2:left ≤ 1024):EH Tryz.prog ca (.func 201) [.ptr L 0] m (.sc (.bool (decide (0 ≤ left - 1)))) (m.set L [.ptr A 0,int (left - 1)]):=by
 refine eh_of ?_
 refine Aaf Tryz.func201 rfl rfl (by simp [Tryz.f201]) (by simp [Tryz.f201]) fun Q hQ => ?_
 simp only [Tryz.f201,show ca.keepRes 201 = false from rfl,show ca.keepArgs 201 = false from rfl] at hQ ⊢
 have hw:IntKind.i64.wrap (left - 1) = left - 1:=IntWalk.i64_in _ (by omega)
 simp [h,hw]
 refine hQ _ _ _ ?_
 simp
theorem El.kc {m m':Mem} {x:AV} {l:List Val} {Y:Nat → Prop} (h:El m x l) (k:KpC Y m m') (hY:∀ j,owns x j → ¬ Y j):El m' x l:=by
 rcases h with rfl | ⟨rfl,rfl⟩ | ⟨h,id,v,f,rfl,h1,h2⟩
 ·exact .inl rfl
 ·exact .inr (.inl ⟨rfl,rfl⟩)
 ·exact .inr (.inr ⟨h,id,v,f,rfl,Nat.lt_of_lt_of_le h1 k.next,by rw [k.get id h1 (hY id rfl)]; exact h2⟩)
theorem El.len {m m':Mem} {x:AV} {l:List Val} {R:TypeId} (h:El m x l):abuiltin Tryz.prog .len #[62] R [x] m' = some (int l.length,m'):=by
 rcases h with rfl | ⟨rfl,rfl⟩ | ⟨_,id,v,f,rfl,_⟩
 ·rw [Aao Tryz.underlying62,Aa8]
 ·exact Ahf Tryz.underlying62
 ·rw [Ae0 Tryz.underlying62]
theorem El.at {m:Mem} {x:AV} {l:List Val} (h:El m x l) {i:Nat} {v:Val} (hv:l[i]? = some v):∃ p,aindexAddr Tryz.prog 62 x (int i) = some p ∧ ∀ m',(∀ j,owns x j → m'.get j = m.get j) → aload Tryz.prog 42 p m' = some (valA v):=by
 have hi:=(List.getElem?_eq_some_iff.1 hv).1
 rcases h with rfl | ⟨rfl,rfl⟩ | ⟨_,id,w,f,rfl,h1,h2⟩
 ·refine ⟨_,Afy hv,fun m' _ => ?_⟩
  simp [aload,Afc Atg Abl,Aah]
 ·simp at hv
 ·have hv':(vals l)[i]? = some (valA v):=by rw [Akh,hv]; rfl
  obtain ⟨q1,q2⟩:=Acj (Aa7 l) hv'
  refine ⟨_,Aak Tryz.underlying62 Abl hi,fun m' hm => ?_⟩
  have hg:=(hm id rfl).trans h2
  simp only [aload,hg,Nat.zero_add]
  rw [Afc Atg Abl,if_pos q1,q2]
  rfl
theorem El.okc {m:Mem} {x:AV} {l:List Val} (h:El m x l):x.okc = true ∧ x.cells = [x]:=by
 rcases h with rfl | ⟨_,rfl⟩ | ⟨_,id,v,f,rfl,_⟩ <;> exact ⟨rfl,rfl⟩
theorem Am9:∀ s:List UInt8,(byts s).mapM V.byteOf = some s
 | [] => rfl
 | b :: s => by
  have ih:=Am9 s
  have hb:V.byteOf (.sc (.int .u8 b.toNat)) = some b:=by simp [V.byteOf]
  simp only [byts,List.map_cons,List.mapM_cons,hb] at ih ⊢
  rw [ih]
  rfl
def EqK (A L:Nat) (r:Bool × Int) (m:Mem) (v:AV) (m':Mem):Prop:=v = .sc (.bool r.1) ∧ has m' L [.ptr A 0,int r.2] ∧ KpC (fun j => j = L) m m'
theorem q78 {X:Nat → Prop} {A L:Nat} {a:ArM} {n:Nat} (ih:∀ (left:Int) (x y:Val) (m:Mem),Ar X A a m → has m L [.ptr A 0,int left] → 0 ≤ left → left ≤ 1024 → left < n → wph Tryz.prog ca (.func 179) [.ptr L 0,valA x,valA y] m (EqK A L (eqM a n left x y) m))
  (hXL:¬ X L) {x1 x2:AV} {l1 l2:List Val} {left:Int} {m:Mem} (hA:Ar X A a m) (hL:has m L [.ptr A 0,int left]) (h0:0 ≤ left) (h1:left ≤ 1024) (hn0:left < n) (e1:El m x1 l1) (e2:El m x2 l2) (o1:∀ j,owns x1 j → X j) (o2:∀ j,owns x2 j → X j) (hl:l1.length ≤ 4096) :
  wph Tryz.prog ca (.func 202) [x1,x2,.fn (.func 179) [.ptr L 0] []] m (EqK A L (if l1.length ≠ l2.length then (false,left) else eqsM a n left l1 l2) m):=by
 refine Aaf Tryz.func202 rfl rfl (by simp [Tryz.f202]) (by simp [Tryz.f202]) fun Q hQ => ?_
 simp only [Tryz.f202,show ca.keepRes 202 = false from rfl,show ca.keepArgs 202 = true from rfl] at hQ ⊢
 have fin:∀ (e:Ex) (s':Sl) (m':Mem) (r:Bool × Int),(e = .normal ∨ e = .ret) → s'.at 6 = .sc (.bool r.1) → has m' L [.ptr A 0,int r.2] → KpC (fun j => j = L) m m' → (if l1.length ≠ l2.length then (false,left) else eqsM a n left l1 l2) = r → Q e s' m':=by
  intro e s' m' r he h6 hL' kc hr
  rw [hr] at hQ
  exact hQ _ _ _ (Aab he h6 ⟨rfl,hL',kc⟩)
 simp [e1.len,e2.len]
 by_cases hln:l1.length = l2.length
 rotate_left
 ·have hln':¬ (l1.length:Int) = l2.length:=by omega
  simp [hln']
  exact fin _ _ _ (false,left) (.inr rfl) (by simp) hL (.refl _ _) (if_pos hln)
 simp [hln,e1.len]
 refine Aam 17 l2.length (fun i s' m' => ∃ lf,eqsM a n left l1 l2 = eqsM a n lf (l1.drop i) (l2.drop i) ∧ 0 ≤ lf ∧ lf ≤ 1024 ∧ lf < n ∧ has m' L [.ptr A 0,int lf] ∧ KpC (fun j => j = L) m m') (by simp) (by omega) ⟨left,by simp,h0,h1,hn0,hL,.refl _ _⟩ ?_
 rintro i s' m' hi e17 ⟨lf,heq,hf0,hf1,hf2,hL',kc⟩ hsame hw Q' hn he
 have d1:s'.at 1 = x2:=(hsame 1 (by kernel_rfl)).trans (by simp)
 have d2:s'.at 2 = .fn (.func 179) [.ptr L 0] []:=(hsame 2 (by kernel_rfl)).trans (by simp)
 have d15:s'.at 15 = x1:=(hsame 15 (by kernel_rfl)).trans (by simp)
 have d16:s'.at 16 = int l2.length:=(hsame 16 (by kernel_rfl)).trans (by simp)
 clear hsame
 simp [e17,d16]
 refine Aas (fun h => ?_) fun h => ?_
 ·have hlt:i < l2.length:=by simpa using h
  obtain ⟨v1,hv1⟩:∃ v,l1[i]? = some v:=⟨_,List.getElem?_eq_getElem (by omega)⟩
  obtain ⟨v2,hv2⟩:∃ v,l2[i]? = some v:=⟨_,List.getElem?_eq_getElem hlt⟩
  obtain ⟨p1,a1,b1⟩:=(e1.kc kc fun j hj e => hXL (e ▸ o1 j hj)).at hv1
  obtain ⟨p2,a2,b2⟩:=(e2.kc kc fun j hj e => hXL (e ▸ o2 j hj)).at hv2
  have na1:∀ cs,aload Tryz.prog 42 p2 ((m'.new [int 0,int 0] false).set m'.next cs) = some (valA v2):=fun cs => b2 _ fun j hj => by
   have:j < m'.next:=by
    rcases e2 with rfl | ⟨_,rfl⟩ | ⟨_,id,w,f,rfl,q,_⟩
    ·exact hj.elim
    ·exact hj.elim
    ·have e:id = j:=hj
     have:=kc.next
     omega
   have hne:j ≠ m'.next:=by omega
   simp [hne]
  simp [e17,d15,d1,a1,b1 m' (fun _ _ => rfl),a2,na1,d2,Aah]
  obtain ⟨Mc,hMc⟩:∃ Mc,Mc = (((m'.new [int 0,int 0] false).set m'.next [int v1.1,int v1.2]).new [int 0,int 0] false).set (m'.next + 1) [int v2.1,int v2.2]:=⟨_,rfl⟩
  have kMc:Kp m' Mc:=by rw [hMc]; simp
  rw [← hMc]
  have hAc:Ar X A a Mc:=(hA.kc kc fun j hj e => absurd hj (e ▸ hXL)).kp kMc
  refine Aae (ih lf v1 v2 Mc hAc (hL'.kp kMc) hf0 hf1 hf2) ?_
  rintro _ m5 ⟨rfl,hL5,kc5⟩
  obtain ⟨b1,b2,b3⟩:=eq_le a n lf v1 v2 hf0
  have hd1:l1.drop i = v1 :: l1.drop (i + 1):=by
   obtain ⟨h1,h2⟩:=List.getElem?_eq_some_iff.1 hv1
   rw [← h2,List.getElem_cons_drop]
  have hd2:l2.drop i = v2 :: l2.drop (i + 1):=by
   obtain ⟨h1,h2⟩:=List.getElem?_eq_some_iff.1 hv2
   rw [← h2,List.getElem_cons_drop]
  rw [hd1,hd2,eqsM] at heq
  have kall:KpC (fun j => j = L) m m5:=(kc.trans (.of (.of kMc))).trans kc5
  cases hq:(eqM a n lf v1 v2).1 with
  | true =>
   rw [if_pos hq] at heq
   simp [e17,hw]
   exact hn _ _ hlt (by simp) ⟨_,heq,b3 hq,by omega,by omega,hL5,kall⟩
  | false =>
   rw [if_neg (by simp [hq])] at heq
   simp
   refine he _ _ _ (by simp) ?_
   simp
   exact fin _ _ _ (false,(eqM a n lf v1 v2).2) (.inr rfl) (by simp) hL5 kall (by rw [if_neg (by simp [hln]),heq])
 ·have hge:i = l2.length:=by have:=of_decide_eq_false h; omega
  subst hge
  simp
  refine he _ _ _ (by simp) ?_
  simp
  refine fin _ _ _ (true,lf) (.inr rfl) (by simp) hL' kc ?_
  rw [if_neg (by simp [hln]),heq,List.drop_eq_nil_of_le (Nat.le_of_eq hln),eqsM]
  simp
theorem q42 {X:Nat → Prop} {A L:Nat} {a:ArM} (hsm:Small a) (hXL:¬ X L):∀ (n:Nat) (left:Int) (x y:Val) (m:Mem),Ar X A a m → has m L [.ptr A 0,int left] → 0 ≤ left → left ≤ 1024 → left < n → wph Tryz.prog ca (.func 179) [.ptr L 0,valA x,valA y] m (EqK A L (eqM a n left x y) m)
 | 0,left,x,y,m,_,_,h0,_,h2 => by omega
 | n + 1,left,x,y,m,hA,hL,h0,h1,h2 => by
  have ih:=q42 (X:=X) (A:=A) (L:=L) hsm hXL n
  refine Aaf Tryz.func179 rfl rfl (by simp [Tryz.f179]) (by simp [Tryz.f179]) fun Q hQ => ?_
  simp only [Tryz.f179,show ca.keepRes 179 = false from rfl,show ca.keepArgs 179 = false from rfl] at hQ ⊢
  obtain ⟨hLl,wL,gL⟩:=hL
  have nL:m.next ≠ L:=by omega
  have nL1:m.next + 1 ≠ L:=by omega
  have nL':L ≠ m.next:=by omega
  have nL1':L ≠ m.next + 1:=by omega
  have k1:Kp m ((m.new [int x.1,int x.2] false).new [int y.1,int y.2] false):=by simp
  obtain ⟨M1,hM1⟩:∃ M1,M1 = ((m.new [int x.1,int x.2] false).new [int y.1,int y.2] false).set L [.ptr A 0,int (left - 1)]:=⟨_,rfl⟩
  have kc1:KpC (fun j => j = L) m M1:=by
   rw [hM1]
   exact (KpC.of (.of k1)).trans (Aal L _ _)
  have hA1:Ar X A a M1:=hA.kc kc1 fun j hj e => absurd hj (e ▸ hXL)
  have hL1:has M1 L [.ptr A 0,int (left - 1)]:=by rw [hM1]; exact ⟨by simp; omega,m.clock + 3,by simp⟩
  have gx:M1.get m.next = some (.cells [int x.1,int x.2] false (m.clock + 1)):=by rw [hM1]; simp [nL]
  have gy:M1.get (m.next + 1) = some (.cells [int y.1,int y.2] false (m.clock + 2)):=by rw [hM1]; simp [nL1]
  have qp:=q76 (A:=A) (L:=L) (v:=wL) (left:=left) (m:=(m.new [int x.1,int x.2] false).new [int y.1,int y.2] false) (by simp [nL',nL1',gL]) h0 h1
  rw [← hM1] at qp
  clear hM1
  have fin:∀ (e:Ex) (s':Sl) (m':Mem) (r:Bool × Int),(e = .normal ∨ e = .ret) → s'.at 6 = .sc (.bool r.1) → has m' L [.ptr A 0,int r.2] → KpC (fun j => j = L) M1 m' → eqM a (n + 1) left x y = r → Q e s' m':=by
   intro e s' m' r he h6 hL' kc hr
   rw [hr] at hQ
   exact hQ _ _ _ (Aab he h6 ⟨rfl,hL',kc1.trans kc⟩)
  simp [qp.go]
  by_cases hl:left - 1 < 0
  ·have hl':¬ 0 ≤ left - 1:=by omega
   have hl1:¬ 1 ≤ left:=by omega
   simp [hl1]
   exact fin _ _ _ (false,left - 1) (.inr rfl) (by simp) hL1 (.refl _ _) (by rw [eqM,if_pos hl])
  have hl1:1 ≤ left:=by omega
  simp [hl1,gx,gy,Aah,As5]
  by_cases hxy:x = y
  ·simp [hxy]
   exact fin _ _ _ (true,left - 1) (.inr rfl) (by simp) hL1 (.refl _ _) (by rw [eqM,if_neg hl,if_pos hxy])
  simp [hxy]
  obtain ⟨t,M,cs,ns,xs,h,hx⟩:=id hA1
  have hcx:=q77 h hx x
  have hcy:=q77 h hx y
  have hL1':=hL1
  obtain ⟨_,wL1,gL1⟩:=hL1
  refine Aau (by kernel_rfl) ?_
  simp [gL1,gx,gy,Aah,hcx.go,hcy.go]
  refine Aay (l:=[(5,9),(5,10)]) (by kernel_rfl) (?_:List.all _ _ = true) ?_
  ·simp [metAtD,metOkD,rank,verKeptD,Region.wanted,Mem.ver,gL1,gx,gy]
  simp
  have hfalse:∀ (s':Sl),s'.at 6 = .sc (.bool false) → eqM a (n + 1) left x y = (false,left - 1) → Q .ret s' M1:=fun s' q1 q2 => fin _ _ _ (false,left - 1) (.inr rfl) q1 hL1' (.refl _ _) q2
  cases hix:ixM a x with
  | none =>
   have c1:cellP a cs x = .sc (.pointer none):=by simp [cellP,hix]
   refine Aai (by kernel_rfl) (by kernel_rfl) ?_
   simp [c1,Aug,undefV,undef]
   exact hfalse _ (by simp) (by rw [eqM,if_neg hl,if_neg hxy,hix])
  | some i =>
  obtain ⟨hxi,c,hc⟩:=Adi hix
  obtain ⟨C,vc,x1,rfl,hC,htC,hgC,hxi1,hzi,hrow⟩:=h.at hc
  have c1:cellP a (.sl C 0 a.cells.length 4 true none) x = .ptr C (i * 4):=by simp [cellP,hix,blk]
  cases hiy:ixM a y with
  | none =>
   have c2:cellP a (.sl C 0 a.cells.length 4 true none) y = .sc (.pointer none):=by simp [cellP,hiy]
   refine Aai (by kernel_rfl) (by kernel_rfl) ?_
   simp [c1,c2,Aug,eq135,undefV,undef]
   exact hfalse _ (by simp) (by rw [eqM,if_neg hl,if_neg hxy,hix,hiy])
  | some j =>
  obtain ⟨hyj,d,hd⟩:=Adi hiy
  obtain ⟨C',vc',y1,hC',_,_,_,hyj1,hzj,hrow2⟩:=h.at hd
  obtain rfl:C = C':=by cases hC'; rfl
  have c2:cellP a (.sl C 0 a.cells.length 4 true none) y = .ptr C (j * 4):=by simp [cellP,hiy,blk]
  obtain ⟨f1,f2⟩:=Acj (Agn a.cells xs) hzi
  obtain ⟨g1,g2⟩:=Acj (Agn a.cells xs) hzj
  have hgi:a.cells.getD i zeroC = c:=by simp [List.getD_eq_getElem?_getD,hc]
  have hgj:a.cells.getD j zeroC = d:=by simp [List.getD_eq_getElem?_getD,hd]
  have part:∀ {k:Nat} {r:AV} (q:Nat) (T:TypeId) (w:AV),k * 4 + 4 ≤ (flat (List.zipWith rowA a.cells xs)).length → ((flat (List.zipWith rowA a.cells xs)).drop (k * 4)).take 4 = r.cells → r.cells[q]? = some w → (flat (List.zipWith rowA a.cells xs))[k * 4 + q]? = some w:=by
   intro k r q T w h1 h2 h3
   have hq:q < 4:=by
    have:=(List.getElem?_eq_some_iff.1 h3).1
    rw [← h2] at this
    simp at this
    omega
   rw [← h2,List.getElem?_take_of_lt hq,List.getElem?_drop] at h3
   exact h3
  have px0:=part 0 3 (int c.k) f1 f2 rfl
  have px2:=part 2 3 x1 f1 f2 rfl
  have px3:=part 3 3 (.lst (byts c.s)) f1 f2 rfl
  have py0:=part 0 3 (int d.k) g1 g2 rfl
  have py2:=part 2 3 y1 g1 g2 rfl
  have py3:=part 3 3 (.lst (byts d.s)) g1 g2 rfl
  simp only [Nat.add_zero] at px0 py0
  have heqM:eqM a (n + 1) left x y = (if c.k ≠ d.k ∨ 3 < c.k ∨ c.s ≠ d.s then (false,left - 1) else if c.a.length ≠ d.a.length then (false,left - 1) else eqsM a n (left - 1) c.a d.a):=by rw [eqM,if_neg hl,if_neg hxy,hix,hiy]; simp only [hgi,hgj]
  refine Aai (by kernel_rfl) (by kernel_rfl) ?_
  by_cases hk:c.k = d.k
  rotate_left
  ·simp [c1,c2,eq135,hgC,px0,py0,px3,py3,hk,undefV,undef]
   exact hfalse _ (by simp) (by rw [heqM,if_pos (.inl hk)])
  by_cases hk3:3 < c.k
  ·have hk3':3 < d.k:=by omega
   simp [c1,c2,eq135,hgC,px0,py0,px3,py3,hk,hk3',undefV,undef]
   exact hfalse _ (by simp) (by rw [heqM,if_pos (.inr (.inl hk3))])
  have hk3':¬ 3 < d.k:=by omega
  have hby:∀ s:List UInt8,aconvert Tryz.prog 29 9 (.lst (byts s)) = some (.sc (.string ⟨⟨s⟩⟩)):=fun s => Apg Tryz.underlying29 Tryz.underlying9 Tryz.underlying5 (Am9 s)
  by_cases hs:c.s = d.s
  rotate_left
  ·simp [c1,c2,eq135,hgC,px0,py0,px3,py3,hk,hk3',hby,hs]
   exact hfalse _ (by simp) (by rw [heqM,if_pos (.inr (.inr hs))])
  ·simp [c1,c2,eq135,hgC,px0,py0,px3,py3,hk,hk3',hby,hs]
   refine Aai (by kernel_rfl) (by kernel_rfl) ?_
   have ox:=(El.of hrow).okc
   have oy:=(El.of hrow2).okc
   have ownX:∀ {z:AV} {k:Nat} {l:List Val},Has t (4 + k) 2 true (.emp 1) M1 z (vals l) → ∀ j,owns z j → X j:=by
    intro z k l hh j hj
    rcases hh with ⟨_,rfl⟩ | ⟨_,id,w,rfl,_,ht,_⟩
    ·exact hj.elim
    ·have e:id = j:=hj
     subst e
     exact (hx _ (by rw [ht]; simp)).1
   simp [hgC,px2,py2]
   refine Aae (q78 (n:=n) (fun left x y m => ih left x y m) hXL hA1 hL1' (by omega) (by omega) (by omega) (.of hrow) (.of hrow2) (ownX hrow) (ownX hrow2) (hsm c (List.mem_of_getElem? hc)).1) ?_
   rintro _ m5 ⟨rfl,hL5,kc5⟩
   simp
   exact fin _ _ _ _ (.inr rfl) (by simp) hL5 kc5 (by rw [heqM,if_neg (by simp [hk,hk3',hs])])
def equalM (a:ArM) (x y:Val):Bool:=goodM a x && (goodM a y && (eqM a 1025 1024 x y).1)
theorem q24 {X:Nat → Prop} {A:Nat} {a:ArM} {m:Mem} (hA:Ar X A a m) (hsm:Small a) (x y:Val):EH Tryz.prog ca (.func 154) [.ptr A 0,valA x,valA y] m (.sc (.bool (equalM a x y))) m:=by
 refine Abd Tryz.func154 rfl rfl rfl rfl (args1:=[.ptr A 0,valA x,valA y]) (m1:=m) (by simp [fzvs]) (by simp) (by simp [Tryz.f154]) (by simp [Tryz.f154]) ?_
 have k1:Kp m ((m.new [int x.1,int x.2] false).new [int y.1,int y.2] false):=by simp
 have q1:=q34 (hA.kp k1)
 have q2:=q41 (hA.kp k1) x
 have q3:=q41 (hA.kp k1) y
 simp only [Tryz.f154,show ca.keepRes 154 = false from rfl]
 unfold equalM
 cases hgx:goodM a x with
 | false =>
  rw [hgx] at q2
  simp [q1.go,Aah,q2.go,undefV,undef]
 | true =>
 rw [hgx] at q2
 cases hgy:goodM a y with
 | false =>
  rw [hgy] at q3
  simp [q1.go,Aah,q2.go,q3.go]
 | true =>
 rw [hgy] at q3
 simp [q1.go,Aah,q2.go,q3.go,abuild,placesOf,fillAt]
 refine Aae (q42 (X:=fun j => X j ∧ j < m.next) (A:=A) (L:=m.next + 2) (a:=a) hsm (fun h => by omega) 1025 1024 x y _ (hA.cut.kp (by simp)) ⟨by simp,m.clock + 3,by simp⟩ (by omega) (by omega) (by omega)) ?_
 rintro _ m5 ⟨rfl,hL5,kc5⟩
 simp
 exact Agr kc5 (by simp) fun j h => by omega
theorem Has.elems {t:Nat → Option Nat} {n:Nat} {m:Mem} {x:AV} {l:List (List UInt8)} (h:Has t n 1 false (.emp 0) m x (l.map strA)):elemsOf m x = some (l.map strA):=by
 rcases h with ⟨h,rfl⟩ | ⟨h,id,v,rfl,h1,_,h2⟩
 ·rw [h]; rfl
 ·simp only [elemsOf,h2]
  have:=Aej (k:=1) (ag:=false) rfl (l.map strA) (fun y hy => by obtain ⟨s,_,rfl⟩:=List.mem_map.1 hy; simp)
  rw [if_pos ⟨by rw [Aav (Ah5 l)]; simp,rfl⟩,List.drop_zero,this]
theorem Aht (m:Mem):∀ l:List (List UInt8),fzvs m (l.map strA) = (l.map strA,m)
 | [] => rfl
 | s :: l => by simp [fzvs,Aht m l]
theorem q62 {t:Nat → Option Nat} {n:Nat} {m:Mem} {x:AV} {l:List (List UInt8)} (h:Has t n 1 false (.emp 0) m x (l.map strA)) (hl:l.length ≤ 65536):wph Tryz.prog ca (.func 26) [x] m fun v m' => Kp m m' ∧ v.okc = true ∧ v.cells = [v]:=by
 have he:=h.elems
 cases l with
 | nil =>
  have e:cloneL Tryz.prog 26 [x] m = some (.emp 1,m.skip):=by
   simp only [cloneL,he,List.map_nil]
  exact ⟨_,_,Abh rfl e,Aob (.refl m),rfl,rfl⟩
 | cons s l =>
  have run:EH Tryz.prog cf0 (.func 26) [x] m (.sl (m.next + 1) 0 (l.length + 1) 1 false none) ((m.new [] false).new (flat ((s :: l).map strA)) false):=by
   refine eh_of ?_
   refine Aaf Tryz.func26 rfl rfl (by simp [Tryz.f26]) (by simp [Tryz.f26]) fun Q hQ => ?_
   simp only [Tryz.f26,show cf0.keepRes 26 = true from rfl,show cf0.keepArgs 26 = true from rfl] at hQ ⊢
   rcases h with ⟨h,_⟩ | ⟨_,id,w,rfl,h1,_,h2⟩
   ·cases h
   have hs:srcOf (m.new [] false) (.sl id 0 ((s :: l).map strA).length 1 false none) = some ((s :: l).map strA):=by
    have hne:id ≠ m.next:=by omega
    have e1:srcOf (m.new [] false) (.sl id 0 ((s :: l).map strA).length 1 false none) = elemsOf (m.new [] false) (.sl id 0 ((s :: l).map strA).length 1 false none):=rfl
    rw [e1,← he]
    simp only [elemsOf,Mem.get_new,if_neg hne]
   have q:=Aft (P:=Tryz.prog) (T:=51) (k:=1) (ag:=false) (ag':=false) (id:=m.next) (ys:=(s :: l).map strA) (ys':=(s :: l).map strA) (m:=m.new [] false) (m':=m.new [] false) (v:=m.clock + 1) el51 (by simp) (Ah5 _) (by first | exact Aht _ _ | simp [fzx,Aht]) (by simp) (by simp at hl ⊢; omega)
   have nn:∀ {xo yo:Operand} {N:Nat},abin Tryz.prog .eql 51 xo yo (.sl id 0 N 1 false none) (.emp 0) = some (.sc (.bool false)):=by
    intro xo yo N
    have:nilTest Tryz.prog 51 (.sl id 0 N 1 false none) (.emp 0) = some false:=by simp [nilTest,Tryz.underlying51]
    simp [abin,plain,this]
   simp at hs q
   simp [nn,abuildSlice,fillAt,zeros,hs,q]
   refine hQ _ _ _ ⟨.inr rfl,_,rfl,?_⟩
   simp [oneOf]
  have e:cloneL Tryz.prog 26 [x] m = some (.sl (m.next + 1) 0 (l.length + 1) 1 false none,(m.new [] false).new (flat ((s :: l).map strA)) false):=by
   simp only [cloneL,he,List.map_cons]
   exact Afh run
  exact ⟨_,_,Abh rfl e,by simp,rfl,rfl⟩
theorem A5e {x y:Operand} {i:Nat}:abin Tryz.prog .eql 49 x y (.mp i) (ofConst (.map none)) = some (.sc (.bool false)):=by
 show abin Tryz.prog .eql 49 x y (.mp i) (.sc (.map none)) = _
 have:nilTest Tryz.prog 49 (.mp i) (.sc (.map none)) = some false:=by
  unfold nilTest
  rw [Tryz.underlying49]
 simp [abin,plain,this]
theorem A3g {x:AV}:amakeIface Tryz.prog 49 x = some (.iface 49 x):=by unfold amakeIface; rw [Tryz.underlying49]
theorem A1c {x:AV}:aassert Tryz.prog 49 false (.iface 49 x) = some x:=by unfold aassert; rw [Tryz.underlying49]; simp
theorem q63 {i:Nat} {M:AMap} {m:Mem} (h:m.map i = some M):wph Tryz.prog ca (.func 27) [.mp i] m fun v m' => Kp m m' ∧ ∃ j,v = .mp j:=by
 obtain ⟨v',m',e,k,j,hj⟩:∃ v' m',EH Tryz.prog ca (.func 49) [.iface 49 (.mp i)] m v' m' ∧ Kp m m' ∧ ∃ j,v' = .iface 49 (.mp j):=by
  have hk:ca.hook 49 = some mcloneH:=rfl
  refine ⟨.iface 49 (.mp m.next),_,Abh hk (by unfold mcloneH; simp only [h,Option.map_some]; rfl),by simp,_,rfl⟩
 refine Aaf Tryz.func27 rfl rfl (by simp [Tryz.f27]) (by simp [Tryz.f27]) fun Q hQ => ?_
 simp only [Tryz.f27,show ca.keepRes 27 = false from rfl,show ca.keepArgs 27 = false from rfl] at hQ ⊢
 subst hj
 simp [A5e,A3g,e.go,A1c]
 refine hQ _ _ _ ?_
 simp
 exact k
theorem q37 {X:Nat → Prop} {A:Nat} {a:ArM} {m:Mem} (hA:Ar X A a m) (hsm:Small a):wph Tryz.prog ca (.func 15) [.ptr A 0] m fun v m' => (∃ i,v = .ptr i 0) ∧ Kp m m':=by
 refine Aaf Tryz.func15 rfl rfl (by simp [Tryz.f15]) (by simp [Tryz.f15]) fun Q hQ => ?_
 simp only [Tryz.f15,show ca.keepRes 15 = false from rfl,show ca.keepArgs 15 = false from rfl] at hQ ⊢
 have q1:=q34 hA
 obtain ⟨t,M,cs,ns,xs,h,hx⟩:=hA
 obtain ⟨w,hv⟩:=h.get
 obtain ⟨w2,hmap⟩:=h.map
 have hAl:=h.lt
 have hMl:=h.ml
 have hsane:=h.sane
 simp [q1.go]
 refine Aau (by kernel_rfl) ?_
 simp [hv]
 refine Aae (q62 h.names hsane.2.2.2) ?_
 rintro vn m1 ⟨k1,on1,on2⟩
 have hv1:=(k1.get A hAl).trans hv
 have hmap1:=(k1.x M hMl).2.trans hmap
 simp [hv1]
 refine Aae (q63 hmap1) ?_
 rintro _ m2 ⟨k2,jm,rfl⟩
 have k12:=k1.trans k2
 have hv2:=(k12.get A hAl).trans hv
 have n2:=k12.next
 simp [abuild,placesOf,fillAt,on1,on2]
 refine Aay (l:=[(3,8),(8,12),(3,13)]) (by kernel_rfl) (?_:List.all _ _ = true) ?_
 ·simp [metAtD,metOkD,rank,verKeptD,Region.wanted,Mem.ver,hv,hv1,hv2]
 have nA:A ≠ m2.next:=by omega
 have lc:=fun m' R => Adh (T:=50) (R:=R) (m':=m') h.cells Tryz.underlying50
 simp only [List.length_zipWith,h.len,Nat.min_self] at lc
 simp [hv2,nA,lc]
 refine Aam 29 a.cells.length (fun i s' m' => Kp m m' ∧ m2.next < m'.next ∧ ∃ z ys w9,m'.get m2.next = some (.cells [int a.room,z,vn,.mp jm] false w9) ∧ Acc m m' 4 true ys z ∧ ys.length = i ∧ okAll 4 ys = true ∧ ¬ owns z m2.next) (by simp) (by omega) ⟨k12.trans (by simp),by simp,.emp 0,[],_,by simp; rfl,.inl ⟨rfl,rfl⟩,rfl,rfl,fun h => h⟩ ?_
 rintro i s' m' hi e29 ⟨hkp,hlt,z,ys,w9,hN,hacc,hyl,hok,hzN⟩ hsame hw Q' hn he
 have d3:s'.at 3 = .ptr m2.next 0:=(hsame 3 (by kernel_rfl)).trans (by simp)
 have d27:s'.at 27 = cs:=(hsame 27 (by kernel_rfl)).trans (by simp)
 have d28:s'.at 28 = int a.cells.length:=(hsame 28 (by kernel_rfl)).trans (by simp)
 clear hsame
 simp [e29,d28]
 refine Aas (fun hc => ?_) fun hc => ?_
 ·have hlt2:i < a.cells.length:=by simpa using hc
  obtain ⟨c,hci⟩:∃ c,a.cells[i]? = some c:=⟨_,List.getElem?_eq_getElem hlt2⟩
  have h':=h.kc (Y:=fun _ => False) (.of (.of hkp)) fun _ _ _ _ h => h
  obtain ⟨C,vc,x,rfl,hC,htC,hgC,hxi,hzi,hrow⟩:=h'.at hci
  have hix:=Aak (P:=Tryz.prog) (q:=.i64) (ag:=true) (c:=none) (id:=C) (off:=0) (len:=a.cells.length) (i:=i) Tryz.underlying50 Ans hlt2
  obtain ⟨f1,f2⟩:=Acj (Agn a.cells xs) hzi
  have hnx:=hkp.next
  have nC:C ≠ m'.next:=by omega
  have nN:m2.next ≠ m'.next:=by omega
  have hcs:=hsm c (List.mem_of_getElem? hci)
  simp [e29,d27,hix,hgC,f1,f2]
  obtain ⟨M3,hM3⟩:∃ M3,M3 = (m'.new [int 0,int 0,.emp 0,.emp 0] false).set m'.next [int c.k,int c.n,x,.lst (byts c.s)]:=⟨_,rfl⟩
  have k3:Kp m' M3:=by rw [hM3]; simp
  have n3:M3.next = m'.next + 1:=by rw [hM3]; simp
  have hN3:=(k3.get m2.next hlt).trans hN
  have g5:M3.get m'.next = some (.cells [int c.k,int c.n,x,.lst (byts c.s)] false (m'.clock + 2)):=by rw [hM3]; simp
  rw [← hM3]
  clear hM3
  refine Aau (by kernel_rfl) ?_
  simp [d3,hN3,g5]
  refine Aae (q64 (c:=c) (x0:=x) ((El.of hrow).kp k3) hcs.1 hcs.2) ?_
  rintro _ m4 ⟨k4,x2,rfl,hf⟩
  have n4:=k4.next
  have hN4:=(k4.get m2.next (by omega)).trans hN3
  have hsrc:=Af1 (m:=m4.new (rowA c x2).cells false) (id:=m4.next) (c:=some 1) (k:=4) (ag:=true) (x:=rowA c x2) (w:=m4.clock + 1) (f:=false) rfl (by simp) (by simp) (Apz c x2)
  obtain ⟨m5,p1,p2,⟨w5,p3⟩,p4,p5⟩:=Afq (T:=50) ((hacc.kp (k3.trans k4)).kp (.new m4 (rowA c x2).cells false)) hok el50 (zs:=[rowA c x2]) (zs':=[rowA c x2]) (List.cons_ne_nil _ _) (by simp [Aan,Aci]) (by simp) (.refl _) (by simp; omega)
  have hN5:m5.get m2.next = some (.cells [int a.room,z,vn,.mp jm] false w9):=by
   rw [p4 m2.next (by simp; omega) hzN]
   have:m2.next ≠ m4.next:=by omega
   simp [this]
   exact hN4
  have nn4:m2.next ≠ m4.next:=by omega
  simp only [Ajn] at hsrc p1 p3
  simp [rowA,abuildSlice,zeros,fillAt]
  simp [rowA] at hsrc p1
  simp [abuiltin,hsrc,p1,d3,hN5]
  refine Aay (l:=[(4,6),(4,7)]) (by kernel_rfl) (?_:List.all _ _ = true) ?_
  ·simp [metAtD,metOkD,rank,verKeptD,Region.wanted,Mem.ver,d3,hN3,hN4,nn4]
  simp [e29,hw]
  have k34:=(hkp.trans k3).trans k4
  have kp5:Kp m m5:=by
   refine ⟨by rw [p2]; simp; omega,fun j hj => ?_,fun j hj => ?_⟩
   ·have a1:j ≠ m4.next:=by omega
    have:=p4 j (by simp; omega) (fun hh => by have:=(Akb hacc j hh).1; omega)
    simp [a1] at this
    rw [this]
    exact k34.get j hj
   ·have b1:=p5 j (by simp; omega)
    have b2:=k34.x j hj
    simp at b1
    exact ⟨b1.1.trans b2.1,b1.2.trans b2.2⟩
  refine hn _ _ hlt2 (by simp) ⟨kp5.set n2 _,by simp [p2]; omega,_,ys ++ [rowA c x2],m5.clock + 1,by simp; rfl,.inr ⟨by simp,m4.next + 1,w5,by simp,by omega,by simp [p2],?_⟩,by simp [hyl],?_,fun hh => ?_⟩
  ·have a1:m4.next + 1 ≠ m2.next:=by omega
   simp [a1]
   simpa using p3
  ·have:okAll 4 (ys ++ [rowA c x2]) = (okAll 4 ys && okAll 4 [rowA c x2]):=by simp [okAll]
   rw [this,hok]
   simp [Aan,Aci]
  ·have e:m4.next + 1 = m2.next:=hh
   omega
 ·simp
  refine he _ _ _ (by simp) ?_
  simp [d3]
  refine hQ _ _ _ ?_
  simp
  exact hkp
abbrev clC (A:Nat) (n:Int) (l:List Val) (k:Int):List AV:=[.ptr A 0,int n,.lst (vals l),int k]
def Cs (X:Nat → Prop) (A C:Nat) (n:Int) (l:List Val) (a:ArM) (k:Int) (m m':Mem):Prop :=
 ∃ X',Ar X' A a m' ∧ (∀ j,X' j → (X j ∨ m.next ≤ j) ∧ j < m'.next) ∧ KpC (fun j => X j ∨ j = C) m m' ∧ has m' C (clC A n l k)
section
variable {X:Nat → Prop} {A C:Nat} {n:Int} {l:List Val} {a:ArM} {k:Int} {m:Mem}
theorem Cs.refl (hA:Ar X A a m) (hX:∀ j,X j → j < m.next) (hC:has m C (clC A n l k)):Cs X A C n l a k m m:=⟨X,hA,fun j h => ⟨.inl h,hX j h⟩,.refl _ _,hC⟩
theorem Cs.kp {m':Mem} (hA:Ar X A a m) (hX:∀ j,X j → j < m.next) (hC:has m C (clC A n l k)) (q:Kp m m'):Cs X A C n l a k m m':=⟨X,hA.kp q,fun j h => ⟨.inl h,Nat.lt_of_lt_of_le (hX j h) q.next⟩,.of (.of q),hC.kp q⟩
theorem Cs.box {m1 m5:Mem} {B:Nat} (k1:Kp m m1) (hX:∀ j,X j → j < m.next) (hCl:C < m.next) (h:Cs X A C n l a k m1 m5) (hB:m.next ≤ B) (hB1:B < m1.next) (cs:List AV):Cs X A C n l a k m (m5.set B cs):=by
 obtain ⟨X',h1,h2,h3,h4⟩:=h
 have n1:=k1.next
 refine ⟨X',h1.kc (Aal B cs m5) fun j hj e => ?_,fun j hj => ?_,KpC.cut (((KpC.of (.of k1)).trans (h3.mono fun j h => .inl h)).trans ((Aal B cs m5).mono fun j h => .inr (by omega))),h4.kc (Aal B cs m5) (by omega)⟩
 ·have e:j = B:=e
  subst e
  rcases (h2 j hj).1 with h | h
  ·have:=hX j h; omega
  ·omega
 ·refine ⟨(h2 j hj).1.imp id fun h => by omega,by simpa using (h2 j hj).2⟩
theorem q112 (hA:Ar X A a m) (hsm:Small a) (hC:has m C (clC A n l k)) (v:Val):EH Tryz.prog ca (.func 203) [.ptr C 0,valA v] m (ceA (getM a v).1) m:=by
 obtain ⟨hl,w,hg⟩:=hC
 have n0:C ≠ m.next:=by omega
 have n1:C ≠ m.next + 1:=by omega
 have n2:C ≠ m.next + 2:=by omega
 have q:=q57 (hA.kp (m':=(m.new [int v.1,int v.2] false).new [int 0,int 0,.emp 0,.emp 0] false) (by simp)) hsm v
 refine Abd Tryz.func203 rfl rfl rfl rfl (args1:=[.ptr C 0,valA v]) (m1:=m) (by simp [fzvs]) (by simp) (by simp [Tryz.f203]) (by simp [Tryz.f203]) ?_
 simp only [Tryz.f203,show ca.keepRes 203 = false from rfl]
 simp
 refine Aau (by kernel_rfl) ?_
 simp [hg,n0,n1,Aah,q.go]
 refine Aay (l:=[(3,9),(4,9)]) (by kernel_rfl) (?_:List.all _ _ = true) ?_
 ·simp [metAtD,metOkD,rank,verKeptD,Region.wanted,Mem.ver,hg,n0,n1,n2]
 simp [fzs,ceA]
theorem A35 (c:CeM):afield Tryz.prog 87 (ceA c) 0 = some (int c.k):=by
 have h1:(tfield Tryz.prog 87 0).map (fun fd => (fd.type,fd.offset)) = some (3,0):=by kernel_rfl
 obtain ⟨fd,h1,h2⟩:=Option.map_eq_some_iff.1 h1
 have h3:=congrArg Prod.fst h2
 have h4:=congrArg Prod.snd h2
 dsimp only at h3 h4
 simp only [afield,h1,ceA,h3,h4]
 rw [Al5 tagg3]
 rfl
theorem q65 (hA:Ar X A a m) (hsm:Small a) (hC:has m C (clC A n l k)) (v:Val) (kd:Int):EH Tryz.prog ca (.func 180) [.ptr C 0,valA v,int kd] m (.sc (.bool (decide ((getM a v).1.k = kd)))) m:=by
 have k1:Kp m (m.new [int v.1,int v.2] false):=by simp
 have q:=q112 (hA.kp k1) hsm (hC.kp k1) v
 refine Abd Tryz.func180 rfl rfl rfl rfl (args1:=[.ptr C 0,valA v,int kd]) (m1:=m) (by simp [fzvs]) (by simp) (by simp [Tryz.f180]) (by simp [Tryz.f180]) ?_
 simp [Tryz.f180,show ca.keepRes 180 = false from rfl,Aah,q.go,A35]
def failK (k kd:Int):Int:=if k = 0 then kd else k
theorem q134 (hC:has m C (clC A n l k)) (kd:Int):wph Tryz.prog ca (.func 224) [.ptr C 0,int kd] m fun v m' => v = valA (0,0) ∧ KpC (fun j => j = C) m m' ∧ has m' C (clC A n l (failK k kd)):=by
 obtain ⟨hl,w,hg⟩:=hC
 have n0:C ≠ m.next:=by omega
 have n0':m.next ≠ C:=by omega
 refine Aaf Tryz.func224 rfl rfl (by simp [Tryz.f224]) (by simp [Tryz.f224]) fun Q hQ => ?_
 simp only [Tryz.f224,show ca.keepRes 224 = false from rfl,show ca.keepArgs 224 = false from rfl] at hQ ⊢
 by_cases h:k = 0
 ·simp [hg,n0,n0',h,Aa4]
  refine hQ _ _ _ ?_
  rw [Aaq]
  simp [aresult,oneOf,n0,n0',failK,h]
  refine ⟨rfl,KpC.cut (((KpC.of (.of (.new _ _ _))).trans ((Aal C _ _).mono fun j h => .inl h)).trans ((Aal m.next _ _).mono fun j h => .inr (by omega))),by simp; omega,m.clock + 2,by simp [n0]⟩
 ·simp [hg,n0,n0',h,Aa4]
  refine hQ _ _ _ ?_
  rw [Aaq]
  simp [aresult,oneOf,n0,n0',failK,h]
  exact ⟨rfl,(KpC.of (.of (by simp))),by simp; omega,w,by simp [n0,hg]⟩
theorem Ag9 (m:Mem) (v:Val):fzr m (valA v) = (valA v,m):=by
 have:=Axr v m
 unfold valA at *
 exact this
def allocC (a:ArM) (k:Int) (c:CeM):Val × ArM × Int:=if k ≠ 0 then ((0,0),a,k) else if (allocM a c).2.2 ≠ 0 then ((0,0),(allocM a c).1,8) else ((allocM a c).2.1,(allocM a c).1,0)
theorem q127 (hA:Ar X A a m) (hX:∀ j,X j → j < m.next) (hXC:¬ X C) (hC:has m C (clC A n l k)) (c:CeM) (h1:c.a.length < 2 ^ 21) (h2:c.s.length < 2 ^ 21):wph Tryz.prog ca (.func 218) [.ptr C 0,ceA c] m fun v m' => v = valA (allocC a k c).1 ∧ Cs X A C n l (allocC a k c).2.1 (allocC a k c).2.2 m m':=by
 have hC0:=hC
 obtain ⟨hl,w,hg⟩:=hC
 have n0:C ≠ m.next:=by omega
 have n1:C ≠ m.next + 1:=by omega
 have n2:C ≠ m.next + 2:=by omega
 refine Aaf Tryz.func218 rfl rfl (by simp [Tryz.f218]) (by simp [Tryz.f218]) fun Q hQ => ?_
 simp only [Tryz.f218,show ca.keepRes 218 = false from rfl,show ca.keepArgs 218 = false from rfl] at hQ ⊢
 have fin:∀ (s':Sl) (m':Mem) (v:Val) (a':ArM) (k':Int),s'.at 4 = .ptr (m.next + 1) 0 → (∃ w,m'.get (m.next + 1) = some (.cells [int v.1,int v.2] false w)) → allocC a k c = (v,a',k') → Cs X A C n l a' k' m m' → Q .ret s' m':=by
  intro s' m' v a' k' h4 ⟨w,hg⟩ hm hu
  refine hQ _ _ _ ?_
  rw [Aaq]
  refine ⟨_,by simp [aresult,h4,hg,aload,partOf]; rfl,?_⟩
  rw [hm]
  simp only [Bool.false_eq_true,if_false,oneOf,Aah,Ag9]
  exact ⟨trivial,hu⟩
 by_cases hk:k = 0
 rotate_left
 ·simp [hg,n0,n1,hk,Aa4]
  exact fin _ _ (0,0) a k (by simp) ⟨_,by simp; rfl⟩ (by rw [allocC,if_pos hk]) (Cs.kp hA hX hC0 (by simp))
 subst hk
 obtain ⟨M1,hM1⟩:∃ M1,M1 = ((m.new (ceA c).cells false).new [int 0,int 0] false):=⟨_,rfl⟩
 have k1:Kp m M1:=by rw [hM1]; simp
 have nM:M1.next = m.next + 2:=by rw [hM1]; simp
 have gc:M1.get m.next = some (.cells [int c.k,int c.n,.lst (vals c.a),.lst (byts c.s)] false (m.clock + 1)):=by rw [hM1]; simp
 have gB:M1.get (m.next + 1) = some (.cells [int 0,int 0] false (m.clock + 2)):=by rw [hM1]; simp
 have gC:=(k1.get C hl).trans hg
 have ecA:AV.agg [int c.k,int c.n,.lst (vals c.a),.lst (byts c.s)] = ceA c:=rfl
 simp [hg,n0,n1]
 simp at hM1
 rw [← hM1]
 clear hM1
 refine Aau (by kernel_rfl) ?_
 simp [gC,gc,ecA]
 refine Aae (q60 (hA.kp k1) c h1 h2) ?_
 rintro _ m5 ⟨rfl,hup⟩
 obtain ⟨X',hA5,kc5,hX5⟩:=hup.out
 have n5:=kc5.next
 have g5C:=(kc5.get C (by omega) hXC).trans gC
 have g5B:=(kc5.get (m.next + 1) (by omega) (fun h => by have:=hX _ h; omega)).trans gB
 have nC5:C ≠ m5.next:=by omega
 have nB5:m.next + 1 ≠ m5.next:=by omega
 have g5c:=(kc5.get m.next (by omega) (fun h => by have:=hX _ h; omega)).trans gc
 have nc5:m.next ≠ m5.next:=by omega
 simp
 refine Aay (l:=[(3,9),(4,9)]) (by kernel_rfl) (?_:List.all _ _ = true) ?_
 ·simp [metAtD,metOkD,rank,verKeptD,Region.wanted,Mem.ver,gC,gc,g5C,g5c,nC5,nc5,hg,n0,n1,n2]
 have hX1:∀ j,X' j → X j ∨ M1.next ≤ j:=fun j h => (hX5 j h).1
 by_cases he:(allocM a c).2.2 = 0
 ·simp [he,g5B,nB5,Aah]
  refine fin _ _ (allocM a c).2.1 (allocM a c).1 0 (by simp) ⟨_,by simp [nB5]; rfl⟩ (by rw [allocC,if_neg (by simp),if_neg (by simp [he])]) ?_
  have k5:Kp m5 ((m5.new [int 0,int 0] false).set m5.next [int (allocM a c).2.1.1,int (allocM a c).2.1.2]):=by simp
  refine Cs.box k1 hX hl ⟨X',hA5.kp k5,fun j hj => ⟨(hX1 j hj).imp id fun h => by omega,?_⟩,?_,?_⟩ (by omega) (by omega) _
  ·have:=(hX5 j hj).2
   simp; omega
  ·exact (kc5.mono fun j h => .inl h).trans (.of (.of k5))
  ·exact ⟨by simp; omega,w,by simp [nC5,g5C]⟩
 ·simp [he]
  have k5:Kp m5 ((m5.new [int 0,int 0] false).set m5.next [int (allocM a c).2.1.1,int (allocM a c).2.1.2]):=by simp
  refine Aae (q134 (A:=A) (n:=n) (l:=l) (k:=0) (m:=(m5.new [int 0,int 0] false).set m5.next [int (allocM a c).2.1.1,int (allocM a c).2.1.2]) ⟨by simp; omega,w,by simp [nC5,g5C]⟩ 8) ?_
  rintro _ m7 ⟨rfl,kc7,hC7⟩
  have n7:=kc7.next
  simp at n7
  have g7B:=kc7.get (m.next + 1) (by simp; omega) (by omega)
  simp [nB5,g5B] at g7B
  simp [g7B,Aah]
  refine fin _ _ (0,0) (allocM a c).1 8 (by simp) ⟨_,by simp; rfl⟩ (by rw [allocC,if_neg (by simp),if_pos he]) ?_
  refine Cs.box k1 hX hl ⟨X',(hA5.kp k5).kc kc7 fun j hj e => ?_,fun j hj => ⟨(hX1 j hj).imp id fun h => by omega,?_⟩,?_,hC7⟩ (by omega) (by omega) _
  ·have e:j = C:=e
   subst e
   rcases hX1 j hj with h | h
   ·exact absurd h hXC
   ·omega
  ·have:=(hX5 j hj).2
   omega
  ·exact ((kc5.mono fun j h => .inl h).trans (.of (.of k5))).trans (kc7.mono fun j h => Or.inr h)
end
def Pairs (a:ArM):Prop:=∀ c ∈ a.cells,c.k = 1 → ∃ x y,c.a = [x,y]
def carM (a:ArM) (v:Val):Val:=(getM a v).1.a.getD 0 (0,0)
def cdrM (a:ArM) (v:Val):Val:=(getM a v).1.a.getD 1 (0,0)
theorem Pairs.get {a:ArM} (h:Pairs a) {v:Val} (hk:(getM a v).1.k = 1):(getM a v).1.a = [carM a v,cdrM a v]:=by
 unfold carM cdrM
 unfold getM at *
 split at hk
 ·rename_i i hi
  obtain ⟨_,c,hc⟩:=Adi hi
  simp only [List.getD_eq_getElem?_getD,hc,Option.getD_some] at hk ⊢
  obtain ⟨x,y,e⟩:=h c (List.mem_of_getElem? hc) hk
  simp [e]
 ·simp [zeroC] at hk
section
variable {X:Nat → Prop} {A C:Nat} {n:Int} {l:List Val} {a:ArM} {k:Int} {m:Mem}
end
theorem Ahv:∀ (l:List Val) (i:Nat) (v:Val),i < l.length → splice (flat (vals l)) (i * 2) [int v.1,int v.2] = flat (vals (l.set i v))
 | x :: l,0,v,_ => by simp [Aa2,Aa3,splice,valA]
 | x :: l,i + 1,v,h => by
  have ih:=Ahv l i v (by simpa using h)
  have e:(i + 1) * 2 = i * 2 + 2:=by omega
  simp only [splice] at ih
  rw [List.set_cons_succ,Aa2,Aa2,Aa3,Aa3,← ih,e]
  simp [splice,valA]
def lists (l:List (List Val)):List AV:=l.map fun x => .lst (vals x)
theorem A4m {J:Nat → Mem → Prop} {lo db:Nat} (l:List Val) (hl:l.length < 2 ^ 21)
  (hJ:∀ k x m,l[k]? = some x → J (k + 1) m → wph Tryz.prog ca (.yield lo) [int k,valA x] m fun v m' => v = .sc (.bool true) ∧ J k m')
  (hb:∀ k m,J k m → has m db [.lst (vals l)]) (m:Mem) (h:J l.length m):wph Tryz.prog ca (.func 247) [.yl lo,.ptr db 0] m fun v m' => v = .tup [] ∧ J 0 m':=by
 refine Aaf Tryz.func247 rfl rfl (by simp [Tryz.f247]) (by simp [Tryz.f247]) fun Q hQ => ?_
 simp only [Tryz.f247,show ca.keepRes 247 = false from rfl,show ca.keepArgs 247 = false from rfl] at hQ ⊢
 obtain ⟨bl,bv,be⟩:=hb _ _ h
 have w0:IntKind.i64.wrap ((l.length:Int) - 1) = (l.length:Int) - 1:=IntWalk.i64_in _ (by omega)
 simp [be,w0]
 refine Ac2 (fun k s m' => k ≤ l.length ∧ s.at 3 = int ((k:Int) - 1) ∧ s.at 0 = .yl lo ∧ s.at 1 = .ptr db 0 ∧ J k m') l.length ⟨Nat.le_refl _,by simp,by simp,by simp,h⟩ ?_
 rintro k s m' ⟨hk,e3,e0,e1,hJk⟩ Q' hn he
 obtain ⟨bl,bv,be⟩:=hb _ _ hJk
 simp [e3]
 cases k with
 | zero =>
  simp
  refine he _ _ _ (by simp) ?_
  simp
  exact hQ _ _ _ (by rw [Aj0 (.inl rfl)]; exact ⟨rfl,hJk⟩)
 | succ k =>
  obtain ⟨x,hx⟩:∃ x,l[k]? = some x:=⟨_,List.getElem?_eq_getElem (by omega)⟩
  have hx':(vals l)[k]? = some (valA x):=by rw [Akh,hx]; rfl
  have e3':s.at 3 = int (k:Int):=by rw [e3]; congr 3; omega
  have ek:((k:Int) + 1 - 1) = (k:Int):=by omega
  have hix:=Aad (P:=Tryz.prog) (q:=.i64) Tryz.underlying62 Abl hx' (by simp)
  have h0:(0:Int) ≤ k:=by omega
  have w1:IntKind.i64.wrap ((k:Int) - 1) = (k:Int) - 1:=IntWalk.i64_in _ (by omega)
  have h1:(1:Int) ≤ (k:Int) + 1:=by omega
  simp [e0,e1,e3',be,hix,ek,h1]
  refine Aae (hJ k x m' hx hJk) ?_
  rintro v m2 ⟨rfl,hJ2⟩
  simp [e3',w1]
  refine hn k _ _ (by omega) ⟨by omega,by simp,by simp [e0],by simp [e1],hJ2⟩
theorem q171 (l:List Val) (m:Mem):EH Tryz.prog ca (.func 244) [.lst (vals l)] m (.fn (.func 247) [] [.ptr m.next 0]) (m.new [.lst (vals l)] false):=by
 refine eh_of (Aaf Tryz.func244 rfl rfl (by simp [Tryz.f244]) (by simp [Tryz.f244]) fun Q hQ => ?_)
 simp only [Tryz.f244,show ca.keepRes 244 = false from rfl,show ca.keepArgs 244 = true from rfl] at hQ ⊢
 simp
 exact hQ _ _ _ ⟨.inr rfl,_,rfl,by simp [oneOf]⟩
def aheadM (a:ArM) (k:Int) (e:Val):List Val → Val × ArM × Int
 | [] => (e,a,k)
 | x :: l => allocC (aheadM a k e l).2.1 (aheadM a k e l).2.2 ⟨1,0,[x,(aheadM a k e l).1],[]⟩
def JA (X:Nat → Prop) (A C:Nat) (n:Int) (l0:List Val) (m:Mem) (c:LCode) (xs:List Val) (r:Val × ArM × Int) (mm:Mem):Prop :=
 (∃ X1,Ar X1 A r.2.1 mm ∧ ∀ j,X1 j → (X j ∨ m.next + 5 ≤ j) ∧ j < mm.next) ∧ KpC (fun j => X j ∨ j = C) m mm ∧ has mm C (clC A n l0 r.2.2) ∧ (∃ w,mm.get m.next = some (.cells [.ptr C 0] false w)) ∧ (∃ w,mm.get (m.next + 1) = some (.cells [int r.1.1,int r.1.2] false w)) ∧ (∃ w,mm.get (m.next + 2) = some (.cells [int 0,int 0] false w)) ∧ has mm (m.next + 3) [.lst (vals xs)] ∧ (∃ ver,mm.loop (m.next + 4) = some ⟨.ready,none,c,ver⟩) ∧ m.next + 5 ≤ mm.next
theorem q129 {X:Nat → Prop} {A C:Nat} {n:Int} {l0:List Val} {a:ArM} {k:Int} {m:Mem} (hA:Ar X A a m) (hX:∀ j,X j → j < m.next) (hXC:¬ X C) (hC:has m C (clC A n l0 k)) (l:List Val) (hl:l.length < 2 ^ 21) (e:Val):wph Tryz.prog ca (.func 219) [.ptr C 0,.lst (vals l),valA e] m fun v m' => v = valA (aheadM a k e l).1 ∧ Cs X A C n l0 (aheadM a k e l).2.1 (aheadM a k e l).2.2 m m':=by
 have hC0:=hC
 obtain ⟨hCl,w,hg⟩:=hC
 refine Aaf Tryz.func219 rfl rfl (by simp [Tryz.f219]) (by simp [Tryz.f219]) fun Q hQ => ?_
 simp only [Tryz.f219,show ca.keepRes 219 = false from rfl,show ca.keepArgs 219 = false from rfl] at hQ ⊢
 obtain ⟨M1,hM1⟩:∃ M1,M1 = ((m.new [.ptr C 0] false).new [int e.1,int e.2] false).new [int 0,int 0] false:=⟨_,rfl⟩
 have k1:Kp m M1:=by rw [hM1]; simp
 have n1:M1.next = m.next + 3:=by rw [hM1]; simp
 have g0:M1.get m.next = some (.cells [.ptr C 0] false (m.clock + 1)):=by rw [hM1]; simp
 have g1:M1.get (m.next + 1) = some (.cells [int e.1,int e.2] false (m.clock + 2)):=by rw [hM1]; simp
 have g2:M1.get (m.next + 2) = some (.cells [int 0,int 0] false (m.clock + 3)):=by rw [hM1]; simp
 simp
 rw [← hM1]
 clear hM1
 simp [(q171 l M1).go]
 refine Afj (f:=247) (a:=[]) (b:=[.ptr M1.next 0]) (by simp) (by kernel_rfl) ?_
 simp only [List.nil_append,List.singleton_append]
 generalize hcd:LCode.mk _ _ _ _ _ = c
 refine Abe (A4m (J:=fun k' mm => JA X A C n l0 m c l (aheadM a k e (l.drop k')) mm) l hl ?_ (fun k mm h => by rw [n1]; exact h.2.2.2.2.2.2.1) _ ?_) ?_
 ·rintro k' x mm hx ⟨⟨X1,hA1,hX1⟩,kc,hC1,⟨w0,h0⟩,⟨w1,h1⟩,⟨w2,h2⟩,h3,⟨ver,hloop⟩,hn⟩
  have hid:(M1.new [AV.lst (vals l)] false).next = m.next + 4:=by simp [n1]
  rw [hid]
  refine Ac4 hloop (by rw [← hcd]; rfl) ?_
  have c1:=congrArg LCode.assign hcd
  have c2:=congrArg LCode.body hcd
  have c3:=congrArg LCode.N hcd
  have c4:=congrArg LCode.s hcd
  have c5:=congrArg LCode.ps hcd
  dsimp only at c1 c2 c3 c4 c5
  simp only [← c1,← c2,← c3,← c4,← c5]
  have hstep:aheadM a k e (l.drop k') = allocC (aheadM a k e (l.drop (k' + 1))).2.1 (aheadM a k e (l.drop (k' + 1))).2.2 ⟨1,0,[x,(aheadM a k e (l.drop (k' + 1))).1],[]⟩:=by
   obtain ⟨h1,h2⟩:=List.getElem?_eq_some_iff.1 hx
   rw [← List.getElem_cons_drop h1,h2,aheadM]
  rw [hstep]
  generalize aheadM a k e (l.drop (k' + 1)) = r at hA1 hC1 h1 ⊢
  have z0:m.next ≠ mm.next:=by omega
  have z1:m.next + 1 ≠ mm.next:=by omega
  simp [Sl.puts,hloop,h0,h1,z0,z1,abuildSlice,zeros,fillAt,abuild,placesOf]
  obtain ⟨Mb,hMb⟩:∃ Mb,Mb = (((mm.new [int 0,int 0] false).set mm.next [int x.1,int x.2]).setLoop (m.next + 4) .busy none c).new [int x.1,int x.2,int r.1.1,int r.1.2] false:=⟨_,rfl⟩
  have kb:KpC (fun j => j = m.next + 4) mm Mb:=by
   rw [hMb]
   exact ⟨by simp,fun id hi hx => by
    have a1:id ≠ mm.next:=by omega
    have a2:id ≠ mm.next + 1:=by omega
    simp [a1,a2],fun id hi hx => by
    have a1:id ≠ m.next + 4:=hx
    simp [a1]⟩
  have nb:Mb.next = mm.next + 2:=by rw [hMb]; simp
  obtain ⟨wF,gF⟩:∃ w,Mb.get (mm.next + 1) = some (.cells [int x.1,int x.2,int r.1.1,int r.1.2] false w):=⟨_,by rw [hMb]; simp; rfl⟩
  obtain ⟨uL,lb⟩:∃ w,Mb.loop (m.next + 4) = some ⟨.busy,none,c,w⟩:=⟨_,by rw [hMb]; simp; rfl⟩
  rw [← hMb]
  clear hMb
  obtain ⟨M9,hM9⟩:∃ M9,M9 = Mb.mark (mm.next + 1) (flat (vals [x,r.1])) wF:=⟨_,rfl⟩
  have k9:KpC (fun j => j = m.next + 4) mm M9:=by
   rw [hM9]
   exact KpC.cut (KpC.trans (kb.mono fun j h => .inl h) ((Aoc (mm.next + 1) wF _ Mb).mono fun j h => .inr (by omega)))
  have n9:M9.next = mm.next + 2:=by rw [hM9]; simp [nb]
  have l9:M9.loop (m.next + 4) = some ⟨.busy,none,c,uL⟩:=by rw [hM9]; simp; exact lb
  have q:=Ahi Tryz.func218 rfl rfl rfl (A15 (A:=C) (k:=1) (x:=x) (y:=r.1) gF) (by simp [fzvs]) (q127 (X:=X1) (A:=A) (n:=n) (l:=l0) (k:=r.2.2) (a:=r.2.1) (m:=Mb.mark (mm.next + 1) (flat (vals [x,r.1])) wF) (by rw [← hM9]; exact hA1.kc k9 fun j h e => by rcases (hX1 j h).1 with h | h; have:=hX j h; omega; omega) (fun j h => by rw [← hM9,n9]; have:=(hX1 j h).2; omega) (fun h => by rcases (hX1 C h).1 with h | h; exact hXC h; omega) (by rw [← hM9]; exact hC1.kc k9 (by omega)) ⟨1,0,[x,r.1],[]⟩ (by simp) (by simp))
  rw [← hM9] at q
  refine Aae q ?_
  rintro _ m5 ⟨rfl,X2,hA2,hX2,kc2,hC2⟩
  have n5:=kc2.next
  have keep:∀ j,m.next ≤ j → j < m.next + 5 → ¬ (X1 j ∨ j = C):=fun j h1 h2 h => by
   rcases h with h | h
   ·rcases (hX1 j h).1 with h | h
    ·have:=hX j h; omega
    ·omega
   ·omega
  have h50:=(kc2.get m.next (by omega) (keep _ (by omega) (by omega))).trans ((k9.get m.next (by omega) (by omega)).trans h0)
  have h51:=(kc2.get (m.next + 1) (by omega) (keep _ (by omega) (by omega))).trans ((k9.get (m.next + 1) (by omega) (by omega)).trans h1)
  have h52:=(kc2.get (m.next + 2) (by omega) (keep _ (by omega) (by omega))).trans ((k9.get (m.next + 2) (by omega) (by omega)).trans h2)
  have h53:=(h3.kc k9 (by omega)).kc kc2 (keep _ (by omega) (by omega))
  have l5:=(kc2.x (m.next + 4) (by omega) (keep _ (by omega) (by omega))).1.trans l9
  simp [h51,l5,Aah]
  have hX2':∀ j,X2 j → (X j ∨ m.next + 5 ≤ j) ∧ j < m5.next:=fun j h => ⟨(hX2 j h).1.elim (fun h => (hX1 j h).1) fun h => .inr (by omega),(hX2 j h).2⟩
  have ne2:∀ j,X2 j → j ≠ m.next + 1 ∧ j ≠ m.next + 4:=fun j h => by
   rcases (hX2' j h).1 with h | h
   ·have:=hX j h; omega
   ·omega
  have p0:m.next ≠ m.next + 1:=by omega
  refine ⟨⟨X2,(hA2.kc (Aal (m.next + 1) _ _) fun j h e => absurd e (ne2 j h).1).kc (Adz (m.next + 4) _ _ _ _) fun j h e => absurd e (ne2 j h).2,fun j h => by simpa using hX2' j h⟩,?_,(hC2.kc (Aal (m.next + 1) _ _) (by omega)).kc (Adz (m.next + 4) _ _ _ _) (by omega),⟨w0,by simp [h50]⟩,⟨_,by simp; rfl⟩,⟨w2,by simp [h52]⟩,(h53.kc (Aal (m.next + 1) _ _) (by omega)).kc (Adz (m.next + 4) _ _ _ _) (by omega),⟨_,by simp; rfl⟩,by simp; omega⟩
  refine KpC.cut (((((kc.mono fun j h => .inl h).trans (k9.mono fun j h => .inr (by omega))).trans (kc2.mono fun j h => ?_)).trans ((Aal (m.next + 1) _ _).mono fun j h => .inr (by omega))).trans ((Adz (m.next + 4) _ _ _ _).mono fun j h => .inr (by omega)))
  rcases h with h | h
  ·rcases (hX1 j h).1 with h | h
   ·exact .inl (.inl h)
   ·exact .inr (by omega)
  ·exact .inl (.inr h)
 ·rw [List.drop_length,aheadM]
  have kk:Kp m ((M1.new [AV.lst (vals l)] false).newLoop c):=(k1.trans (.new _ _ _)).newLoop c
  have p0:m.next ≠ m.next + 3:=by omega
  have p1:m.next + 1 ≠ m.next + 3:=by omega
  have p2:m.next + 2 ≠ m.next + 3:=by omega
  refine ⟨⟨X,hA.kp kk,fun j h => ⟨.inl h,by have:=hX j h; simp; omega⟩⟩,.of (.of kk),hC0.kp kk,⟨_,by simp [n1,g0]; rfl⟩,⟨_,by simp [n1,g1]; rfl⟩,⟨_,by simp [n1,g2]; rfl⟩,⟨by simp [n1],_,by simp [n1]; rfl⟩,⟨_,by simp [n1]; rfl⟩,by simp [n1]⟩
 ·rintro v mm ⟨rfl,⟨X1,hA1,hX1⟩,kc,hC1,⟨w0,h0⟩,⟨w1,h1⟩,⟨w2,h2⟩,h3,⟨ver,hloop⟩,hn⟩
  rw [List.drop_zero] at hA1 hC1 h1
  have hid:(M1.new [AV.lst (vals l)] false).next = m.next + 4:=by simp [n1]
  rw [hid]
  refine ⟨_,.normal,hloop,by simp,rfl,?_⟩
  simp [h1,h2,Aah]
  refine hQ _ _ _ ?_
  rw [Aaq]
  have kl:KpC (fun j => j = m.next + 4) mm (mm.killLoop (m.next + 4)):=⟨by simp,fun id hi hx => by simp,fun id hi hx => by
   have:id ≠ m.next + 4:=hx
   simp [this]⟩
  refine ⟨[valA (aheadM a k e l).1],by simp [aresult,Aah],?_⟩
  simp only [Bool.false_eq_true,if_false,oneOf,Ag9]
  refine ⟨trivial,X1,(hA1.kc kl fun j h e => ?_).kc (Aal (m.next + 2) _ _) fun j h e => ?_,fun j h => ⟨(hX1 j h).1.imp id fun h => by omega,by simpa using (hX1 j h).2⟩,KpC.cut (((kc.mono fun j h => .inl h).trans (kl.mono fun j h => .inr (by omega))).trans ((Aal (m.next + 2) _ _).mono fun j h => .inr (by omega))),(hC1.kc kl (by omega)).kc (Aal (m.next + 2) _ _) (by omega)⟩
  all_goals
   rcases (hX1 j h).1 with h | h
   ·have:=hX j h; omega
   ·omega
theorem q33 (m:Mem):EH Tryz.prog ca (.func 178) [] m tableA m:=A45 rfl run22 Ath
def rowOf (n:Int):List UInt8 × Int × Int:=if n < 0 ∨ 85 ≤ n then ([],0,0) else (rws[n.toNat]?).getD ([],0,0)
theorem Ax7 {n:Int} (h:¬ n < 0) (h2:¬ 85 ≤ n):rws[n.toNat]? = some (rowOf n):=by
 have hl:n.toNat < rws.length:=by rw [Af3]; omega
 unfold rowOf
 rw [if_neg (by omega),List.getElem?_eq_getElem hl]
 rfl
theorem A2z {n:Int} (h:¬ n < 0) (h2:¬ 85 ≤ n):aindex Tryz.prog 270 tableA (int n) = some (.agg (rowC (rowOf n))):=by
 have:=Ax1 (Ax7 h h2)
 rwa [Int.toNat_of_nonneg (by omega)] at this
theorem Alw {n:Int} (h:n < 0 ∨ 85 ≤ n):rowOf n = ([],0,0):=by unfold rowOf; rw [if_pos h]
@[simp] theorem A69 (r:List UInt8 × Int × Int) (n:Nat):AV.bels n (rowC r) = true:=rfl
@[simp] theorem A68 (r:List UInt8 × Int × Int) (m:Mem):fzv m (.agg (rowC r)) = (.agg (rowC r),m):=rfl
theorem q31 (n:Int):Gives Tryz.prog ca 153 [int n] (.tup [.agg (rowC (rowOf n)),.sc (.bool (!decide ((rowOf n).1 = [])))]):=by
 refine Aac Tryz.func153 rfl rfl rfl rfl (by simp) (by simp [Tryz.f153]) (by simp [Tryz.f153]) fun m => ?_
 simp [Tryz.f153,show ca.keepRes 153 = false from rfl]
 by_cases h:n < 0
 ·simp [h,abuild,placesOf,fillAt,Alw (.inl h),rowC,oneOf]
 ·by_cases h2:85 ≤ n
  ·simp [h,h2,abuild,placesOf,fillAt,Alw (.inr h2),rowC,oneOf]
  ·simp [h,h2,(q33 _).go,A2z h h2]
   simp only [rowC]
   simp
   refine Aaz (by kernel_rfl) ?_
   simp
   refine Aay (l:=[(2,4)]) (by kernel_rfl) (?_:List.all _ _ = true) ?_
   ·simp [metAt,metOk,rank,objOf,verKept,Region.wanted,Mem.ver]
   simp
def goodP (a:ArM) (n:Int) (v:Val) (i:Int):Bool :=
 if n ≤ 11 then decide (v.1 = 1) else if 50 ≤ n then decide (v.1 = 1) else if n = 39 then decide (v.1 = 1) else if n = 42 then decide (v.1 = 1)
 else if 16 ≤ n ∧ n ≤ 19 then decide (0 < i ∨ (getM a v).1.k = 1)
 else if n = 26 then decide (i = 0 ∨ v.1 = 1)
 else if n = 28 then decide (0 < i ∨ v.1 = 1)
 else if 29 ≤ n ∧ n ≤ 31 then decide ((i = 0 ∧ (getM a v).1.k = 2) ∨ (i = 1 ∧ v.1 = 1) ∨ i = 2)
 else if n = 33 ∨ n = 35 then decide ((i = 0 ∧ (getM a v).1.k = 3) ∨ (0 < i ∧ v.1 = 1))
 else if n = 32 ∨ n = 34 ∨ n = 36 ∨ n = 38 ∨ n = 40 then decide ((getM a v).1.k = 3)
 else if n = 37 then decide (v.1 = 5)
 else if n = 41 then decide (v.1 = 3)
 else true
theorem q38 {X:Nat → Prop} {A C:Nat} {n:Int} {l:List Val} {a:ArM} {k:Int} {m:Mem} (hA:Ar X A a m) (hsm:Small a) (hC:has m C (clC A n l k)) {i:Nat} {v:Val} (hv:l[i]? = some v):EH Tryz.prog ca (.func 155) [.ptr C 0,int i] m (.sc (.bool (goodP a n v i))) m:=by
 have k1:Kp m ((m.new [int 0,int 0] false).set m.next [int v.1,int v.2]):=by simp
 have q:=fun kd => (show EH Tryz.prog ca (.func 180) [.ptr C 0,.agg [int v.1,int v.2],int kd] _ _ _ from q65 (hA.kp k1) hsm (hC.kp k1) v kd)
 obtain ⟨hl,w,hg⟩:=hC
 have n0:C ≠ m.next:=by omega
 have hix:aindexAddr Tryz.prog 62 (.lst (vals l)) (int i) = some ((valA v).cptr 0):=Afy hv
 refine Abd Tryz.func155 rfl rfl rfl rfl (args1:=[.ptr C 0,int i]) (m1:=m) (by simp [fzvs]) (by simp) (by simp [Tryz.f155]) (by simp [Tryz.f155]) ?_
 simp only [Tryz.f155,show ca.keepRes 155 = false from rfl]
 obtain ⟨g,hgd⟩:∃ g,g = goodP a n v i:=⟨_,rfl⟩
 rw [← hgd]
 simp [hg,n0,hix,Aah]
 by_cases a1:n ≤ 11
 ·rw [goodP,if_pos a1] at hgd
  simp [a1,hgd]
 by_cases a2:50 ≤ n
 ·rw [goodP,if_neg a1,if_pos a2] at hgd
  simp [a1,a2,hgd]
 by_cases a3:n = 39
 ·rw [goodP,if_neg a1,if_neg a2,if_pos a3] at hgd
  simp [a3,hgd]
 by_cases a4:n = 42
 ·rw [goodP,if_neg a1,if_neg a2,if_neg a3,if_pos a4] at hgd
  simp [a4,hgd]
 rw [goodP,if_neg a1,if_neg a2,if_neg a3,if_neg a4] at hgd
 by_cases a5:16 ≤ n ∧ n ≤ 19
 ·rw [if_pos a5] at hgd
  simp [a1,a2,a3,a4,a5]
  by_cases hi:0 < i
  ·simp [hi,hgd]
  ·simp [hi,(q 1).go,hgd]
 rw [if_neg a5] at hgd
 by_cases b1:16 ≤ n
 rotate_left
 ·have c1:n ≠ 26:=by omega
  have c2:n ≠ 28:=by omega
  have c3:¬ 29 ≤ n:=by omega
  have c4:n ≠ 33:=by omega
  have c5:n ≠ 35:=by omega
  have c6:n ≠ 32:=by omega
  have c7:n ≠ 34:=by omega
  have c8:n ≠ 36:=by omega
  have c9:n ≠ 38:=by omega
  have d1:n ≠ 40:=by omega
  have d2:n ≠ 37:=by omega
  have d3:n ≠ 41:=by omega
  rw [if_neg c1,if_neg c2,if_neg (by omega),if_neg (by omega),if_neg (by omega),if_neg d2,if_neg d3] at hgd
  simp [a1,a2,a3,a4,b1,c1,c2,c3,c4,c5,c6,c7,c8,c9,d1,d2,d3,hgd]
 have b2:¬ n ≤ 19:=by omega
 by_cases c1:n = 26
 ·rw [if_pos c1] at hgd
  subst c1
  by_cases hi:i = 0
  ·simp [hi,hgd]
  ·have hi':¬ (i:Int) = 0:=by omega
   simp [hi,hgd]
 rw [if_neg c1] at hgd
 by_cases c2:n = 28
 ·rw [if_pos c2] at hgd
  subst c2
  by_cases hi:0 < i
  ·simp [hi,hgd]
  ·simp [hi,hgd]
 rw [if_neg c2] at hgd
 by_cases c3:29 ≤ n ∧ n ≤ 31
 ·rw [if_pos c3] at hgd
  simp [a1,a2,a3,a4,b1,b2,c1,c2,c3]
  by_cases h0:i = 0
  ·subst h0
   by_cases hk:(getM a v).1.k = 2
   ·simp [(q 2).go,hgd,hk,undefV,undef]
   ·simp [(q 2).go,hgd,hk,undefV,undef]
  ·by_cases h1:i = 1
   ·subst h1
    by_cases hk:v.1 = 1
    ·simp [hk,hgd,undefV,undef]
    ·simp [hk,hgd,undefV,undef]
   ·have h1':¬ (i:Int) = 1:=by omega
    simp [h0,h1',h1,hgd,undefV,undef]
 rw [if_neg c3] at hgd
 have c3':¬ (29 ≤ n ∧ n ≤ 31):=c3
 by_cases e1:29 ≤ n
 rotate_left
 ·have c4:n ≠ 33:=by omega
  have c5:n ≠ 35:=by omega
  have c6:n ≠ 32:=by omega
  have c7:n ≠ 34:=by omega
  have c8:n ≠ 36:=by omega
  have c9:n ≠ 38:=by omega
  have d1:n ≠ 40:=by omega
  have d2:n ≠ 37:=by omega
  have d3:n ≠ 41:=by omega
  rw [if_neg (by omega),if_neg (by omega),if_neg d2,if_neg d3] at hgd
  simp [a1,a2,a3,a4,b1,b2,c1,c2,e1,c4,c5,c6,c7,c8,c9,d1,d2,d3,hgd]
 have e2:¬ n ≤ 31:=by omega
 by_cases c4:n = 33 ∨ n = 35
 ·rw [if_pos c4] at hgd
  by_cases h0:i = 0
  ·subst h0
   by_cases hk:(getM a v).1.k = 3
   ·rcases c4 with rfl | rfl
    ·simp [(q 3).go,hgd,hk,undefV,undef]
    ·simp [(q 3).go,hgd,hk,undefV,undef]
   ·rcases c4 with rfl | rfl
    ·simp [(q 3).go,hgd,hk,undefV,undef]
    ·simp [(q 3).go,hgd,hk,undefV,undef]
  ·have hi:0 < i:=by omega
   rcases c4 with rfl | rfl
   ·simp [h0,hi,hgd,undefV,undef]
   ·simp [h0,hi,hgd,undefV,undef]
 rw [if_neg c4] at hgd
 by_cases c5:n = 32 ∨ n = 34 ∨ n = 36 ∨ n = 38 ∨ n = 40
 ·rw [if_pos c5] at hgd
  rcases c5 with rfl | rfl | rfl | rfl | rfl
  ·simp [(q 3).go,hgd]
  ·simp [(q 3).go,hgd]
  ·simp [(q 3).go,hgd]
  ·simp [(q 3).go,hgd]
  ·simp [(q 3).go,hgd]
 rw [if_neg c5] at hgd
 by_cases c6:n = 37
 ·rw [if_pos c6] at hgd
  subst c6
  simp [hgd]
 rw [if_neg c6] at hgd
 by_cases c7:n = 41
 ·rw [if_pos c7] at hgd
  subst c7
  simp [hgd]
 rw [if_neg c7] at hgd
 have d1:n ≠ 33:=by omega
 have d2:n ≠ 35:=by omega
 have d3:n ≠ 32:=by omega
 have d4:n ≠ 34:=by omega
 have d5:n ≠ 36:=by omega
 have d6:n ≠ 38:=by omega
 have d7:n ≠ 40:=by omega
 simp [a1,a2,a3,a4,b1,b2,c1,c2,e1,e2,c6,c7,d1,d2,d3,d4,d5,d6,d7,hgd]
theorem Cs.after {X:Nat → Prop} {A C:Nat} {n:Int} {l:List Val} {a:ArM} {k:Int} {m m1 m':Mem} (kc:KpC (fun j => X j ∨ j = C) m m1) (h:Cs X A C n l a k m1 m'):Cs X A C n l a k m m':=by
 obtain ⟨X',h1,h2,h3,h4⟩:=h
 have:=kc.next
 exact ⟨X',h1,fun j hj => ⟨(h2 j hj).1.imp id fun h => by omega,(h2 j hj).2⟩,kc.trans h3,h4⟩
def countP (n:Int) (k:Nat):Prop:=(rowOf n).2.1 ≤ k ∧ ((rowOf n).2.2 < 0 ∨ (k:Int) ≤ (rowOf n).2.2)
noncomputable def doM (a:ArM) (n:Int) (l:List Val) (res:Val × ArM × Int):Val × ArM × Int:=by
 classical
 exact if (rowOf n).1 = [] ∨ 64 ≤ n then ((0,0),a,7) else if ¬ countP n l.length then ((0,0),a,2)
 else if ¬ (∀ v ∈ l,equalM a v v = true) then ((0,0),a,1) else if ¬ (∀ (i:Nat) v,l[i]? = some v → goodP a n v i = true) then ((0,0),a,1)
 else if res.2.2 ≠ 0 then ((0,0),res.2.1,res.2.2) else (res.1,res.2.1,0)
theorem eq46 {x y:Operand} {i j:Nat}:abin Tryz.prog .eql 32 x y (.ptr i j) (.sc (.pointer none)) = some (.sc (.bool false)):=by
 have:nilTest Tryz.prog 32 (.ptr i j) (.sc (.pointer none)) = some false:=by
  unfold nilTest
  rw [Tryz.underlying32]
 simp [abin,plain,this]
theorem q22 {X:Nat → Prop} {A:Nat} {n:Int} {l:List Val} {a:ArM} {m:Mem} (hA:Ar X A a m) (hX:∀ j,X j → j < m.next) (hsm:Small a) (hll:l.length ≤ 4096) {res:Val × ArM × Int}
  (hdo:(rowOf n).1 ≠ [] → ¬ 64 ≤ n → countP n l.length → (∀ v ∈ l,equalM a v v = true) → (∀ (i:Nat) v,l[i]? = some v → goodP a n v i = true) → ∀ m1 C,Ar X A a m1 → (∀ j,X j → j < m1.next) → ¬ X C → has m1 C (clC A n l 0) → wph Tryz.prog ca (.func 156) [.ptr C 0] m1 fun r m' => r = valA res.1 ∧ Cs X A C n l res.2.1 res.2.2 m1 m') :
  wph Tryz.prog ca (.func 109) [.ptr A 0,int n,.lst (vals l)] m fun v m' => v = .tup [valA (doM a n l res).1,int (doM a n l res).2.2] ∧ Up X A (doM a n l res).2.1 m m':=by
 refine Aaf Tryz.func109 rfl rfl (by simp [Tryz.f109]) (by simp [Tryz.f109]) fun Q hQ => ?_
 simp only [Tryz.f109,show ca.keepRes 109 = false from rfl,show ca.keepArgs 109 = false from rfl] at hQ ⊢
 obtain ⟨d,hd⟩:∃ d,d = doM a n l res:=⟨_,rfl⟩
 rw [← hd] at hQ
 have ln:∀ (R:TypeId) (m:Mem),abuiltin Tryz.prog .len #[62] R [.lst (vals l)] m = some (int l.length,m):=fun R m => by rw [Aao Tryz.underlying62,Aa8]
 have fin:∀ (s':Sl) (m7:Mem),s'.at 6 = .ptr m.next 0 → s'.at 7 = int d.2.2 → (∃ w,m7.get m.next = some (.cells [int d.1.1,int d.1.2] false w)) → Up X A d.2.1 m m7 → Q .ret s' m7:=by
  intro s' m7 h6 h7 ⟨w,hg⟩ hu
  refine hQ _ _ _ ?_
  rw [Aaq]
  refine ⟨[valA d.1,int d.2.2],by simp [aresult,h6,h7,hg,aload,partOf,Aah],?_⟩
  simp only [Bool.false_eq_true,if_false,oneOf]
  have hz:=Aop m7 d.1 d.2.2
  rw [Aah] at hz
  rw [hz]
  exact ⟨rfl,hu⟩
 simp [(q31 n).go]
 simp only [rowC]
 simp
 by_cases c1:(rowOf n).1 = []
 ·have e0:d = ((0,0),a,7):=by rw [hd,doM,if_pos (.inl c1)]
  rw [e0] at fin
  simp [c1,Aa4]
  exact fin _ _ (by simp) (by simp) ⟨_,by simp; rfl⟩ (Up.kp hA (by simp))
 by_cases c2:64 ≤ n
 ·have e0:d = ((0,0),a,7):=by rw [hd,doM,if_pos (.inr c2)]
  rw [e0] at fin
  simp [c1,c2,Aa4]
  exact fin _ _ (by simp) (by simp) ⟨_,by simp; rfl⟩ (Up.kp hA (by simp))
 simp [c1,c2]
 obtain ⟨M1,hM1⟩:∃ M1,M1 = ((m.new [int 0,int 0] false).new [.sc (.string ⟨⟨[]⟩⟩),int 0,int 0] false).set (m.next + 1) [.sc (.string ⟨⟨(rowOf n).1⟩⟩),int (rowOf n).2.1,int (rowOf n).2.2]:=⟨_,rfl⟩
 have k1:Kp m M1:=by rw [hM1]; simp
 have n1:M1.next = m.next + 2:=by rw [hM1]; simp
 have b0:M1.get m.next = some (.cells [int 0,int 0] false (m.clock + 1)):=by rw [hM1]; simp
 have b1:M1.get (m.next + 1) = some (.cells [.sc (.string ⟨⟨(rowOf n).1⟩⟩),int (rowOf n).2.1,int (rowOf n).2.2] false (m.clock + 3)):=by rw [hM1]; simp
 rw [← hM1]
 clear hM1
 refine Aae (q37 (hA.kp k1) hsm) ?_
 rintro _ m2 ⟨⟨cid,rfl⟩,k2⟩
 have n2:=k2.next
 have d0:=(k2.get m.next (by omega)).trans b0
 have d1:=(k2.get (m.next + 1) (by omega)).trans b1
 have k12:=k1.trans k2
 simp [eq46,ln,d1]
 by_cases c3:(l.length:Int) < (rowOf n).2.1
 ·have e0:d = ((0,0),a,2):=by rw [hd,doM,if_neg (by simp [c1,c2]),if_pos (fun h => by have:=h.1; omega)]
  rw [e0] at fin
  simp [c3,d0,Aa4,undefV,undef]
  exact fin _ _ (by simp) (by simp) ⟨_,by simp; rfl⟩ (Up.kp hA (k12.set (by omega) _))
 by_cases c5:0 ≤ (rowOf n).2.2 ∧ (rowOf n).2.2 < l.length
 ·have e0:d = ((0,0),a,2):=by rw [hd,doM,if_neg (by simp [c1,c2]),if_pos (fun h => by have:=h.2; omega)]
  rw [e0] at fin
  simp [c3,c5,d0,Aa4,d1]
  exact fin _ _ (by simp) (by simp) ⟨_,by simp; rfl⟩ (Up.kp hA (k12.set (by omega) _))
 have hcnt:countP n l.length:=⟨by omega,by omega⟩
 rw [doM,if_neg (by simp [c1,c2]),if_neg (by simpa using hcnt)] at hd
 obtain ⟨C,hCe⟩:∃ C,C = m2.next:=⟨_,rfl⟩
 obtain ⟨M3,hM3⟩:∃ M3,M3 = m2.new [.ptr A 0,int n,.lst (vals l),int 0] false:=⟨_,rfl⟩
 have k3:Kp m2 M3:=by rw [hM3]; simp
 have n3:M3.next = m2.next + 1:=by rw [hM3]; simp
 have hC3:has M3 C (clC A n l 0):=⟨by omega,_,by rw [hM3,hCe]; simp; rfl⟩
 have k13:=k12.trans k3
 have e03:=(k3.get m.next (by omega)).trans d0
 have hXC:¬ X C:=fun h => by have:=hX C h; omega
 by_cases c4:0 ≤ (rowOf n).2.2
 rotate_left
 ·simp [c3,c4,d1,undefV,undef,abuild,placesOf,fillAt,ln]
  rw [← hCe,← hM3]
  refine Aam 57 l.length (fun i s' m' => Kp M3 m' ∧ ∀ j v,j < i → l[j]? = some v → equalM a v v = true) (by simp) (by omega) ⟨.refl _,fun j v h => by omega⟩ ?_
  rintro i s' m' hi e57 ⟨hkp,hall⟩ hsame hw Q' hn he
  have f0:s'.at 0 = .ptr A 0:=(hsame 0 (by kernel_rfl)).trans (by simp)
  have f2:s'.at 2 = .lst (vals l):=(hsame 2 (by kernel_rfl)).trans (by simp)
  have f6:s'.at 6 = .ptr m.next 0:=(hsame 6 (by kernel_rfl)).trans (by simp)
  have f10:s'.at 10 = .ptr C 0:=(hsame 10 (by kernel_rfl)).trans (by simp)
  have f55:s'.at 55 = .lst (vals l):=(hsame 55 (by kernel_rfl)).trans (by simp)
  have f56:s'.at 56 = int l.length:=(hsame 56 (by kernel_rfl)).trans (by simp)
  clear hsame
  have kA:=k13.trans hkp
  have n':=hkp.next
  have g0:=(hkp.get m.next (by omega)).trans e03
  simp [e57,f56]
  refine Aas (fun h => ?_) fun h => ?_
  ·have hlt:i < l.length:=by simpa using h
   obtain ⟨v,hv⟩:∃ v,l[i]? = some v:=⟨_,List.getElem?_eq_getElem hlt⟩
   have hix:=Afy hv
   have k4:Kp m' ((m'.new [int 0,int 0] false).set m'.next [int v.1,int v.2]):=by simp
   have q:=q24 (hA.kp (kA.trans k4)) hsm v v
   have z0:m.next ≠ m'.next:=by omega
   simp [e57,f55,hix,f0,Aah,q.go]
   cases hq:equalM a v v with
   | true =>
    simp [e57,hw]
    refine hn _ _ hlt (by simp) ⟨hkp.trans k4,fun j u hj hu => ?_⟩
    by_cases hji:j = i
    ·subst hji
     rw [hv] at hu
     cases hu
     exact hq
    ·exact hall j u (by omega) hu
   | false =>
    rw [if_pos (fun h => by have:=h v (List.mem_of_getElem? hv); rw [hq] at this; cases this)] at hd
    simp [Aa4,f6,g0,z0]
    refine he _ _ _ (by simp) ?_
    simp
    rw [hd] at fin
    exact fin _ _ (by simp [f6]) (by simp) ⟨_,by simp; rfl⟩ (Up.kp hA ((kA.trans k4).set (Nat.le_refl _) _))
  ·have hge:i = l.length:=by have:=of_decide_eq_false h; omega
   subst hge
   have hEq:∀ v ∈ l,equalM a v v = true:=fun v hv => by
    obtain ⟨j,hj,e⟩:=List.mem_iff_getElem.1 hv
    exact hall j v hj (by rw [List.getElem?_eq_getElem hj,e])
   rw [if_neg (by simpa using hEq)] at hd
   simp
   refine he _ _ _ (by simp) ?_
   simp [f2,ln]
   refine Aam 70 l.length (fun i s2 m4 => Kp M3 m4 ∧ ∀ (j:Nat) v,j < i → l[j]? = some v → goodP a n v j = true) (by simp) (by omega) ⟨hkp,fun j v h => by omega⟩ ?_
   rintro i s2 m4 hi e70 ⟨hkp4,hall4⟩ hsame hw Q' hn he
   have f6:s2.at 6 = .ptr m.next 0:=(hsame 6 (by kernel_rfl)).trans (by simp [f6])
   have f10:s2.at 10 = .ptr C 0:=(hsame 10 (by kernel_rfl)).trans (by simp [f10])
   have f69:s2.at 69 = int l.length:=(hsame 69 (by kernel_rfl)).trans (by simp)
   clear hsame
   have kA:=k13.trans hkp4
   have n':=hkp4.next
   have g0:=(hkp4.get m.next (by omega)).trans e03
   have hC4:=hC3.kp hkp4
   simp [e70,f69]
   refine Aas (fun h => ?_) fun h => ?_
   ·have hlt:i < l.length:=by simpa using h
    obtain ⟨v,hv⟩:∃ v,l[i]? = some v:=⟨_,List.getElem?_eq_getElem hlt⟩
    have q:=q38 (hA.kp kA) hsm hC4 hv
    simp [e70,f10,q.go]
    cases hq:goodP a n v i with
    | true =>
     simp [e70,hw]
     refine hn _ _ hlt (by simp) ⟨hkp4,fun j u hj hu => ?_⟩
     by_cases hji:j = i
     ·subst hji
      rw [hv] at hu
      cases hu
      exact hq
     ·exact hall4 j u (by omega) hu
    | false =>
     rw [if_pos (fun h => by have:=h i v hv; rw [hq] at this; cases this)] at hd
     simp [Aa4,f6,g0]
     refine he _ _ _ (by simp) ?_
     simp
     rw [hd] at fin
     exact fin _ _ (by simp [f6]) (by simp) ⟨_,by simp; rfl⟩ (Up.kp hA (kA.set (Nat.le_refl _) _))
   ·have hge:i = l.length:=by have:=of_decide_eq_false h; omega
    subst hge
    have hGd:∀ (i:Nat) v,l[i]? = some v → goodP a n v i = true:=fun j v hv => hall4 j v (List.getElem?_eq_some_iff.1 hv).1 hv
    rw [if_neg (by simpa using hGd)] at hd
    simp
    refine he _ _ _ (by simp) ?_
    simp [f10]
    refine Aae (hdo c1 c2 hcnt hEq hGd m4 C (hA.kp kA) (fun j h => by have:=hX j h; omega) hXC hC4) ?_
    rintro _ m5 ⟨rfl,X',hA5,hX5,kc5,hC5⟩
    have n5:=kc5.next
    obtain ⟨_,w5,g5⟩:=id hC5
    have z0:C ≠ m5.next:=by omega
    have z1:m.next ≠ m5.next:=by omega
    have g5m:=(kc5.get m.next (by omega) (fun h => by rcases h with h | h; have:=hX _ h; omega; omega)).trans g0
    have up:∀ cs v,Up X A res.2.1 m (((m5.new [int 0,int 0] false).set m5.next v).set m.next cs):=fun cs v => by
     have kk:Kp m5 ((m5.new [int 0,int 0] false).set m5.next v):=by simp
     refine ⟨X',(hA5.kp kk).kc (Aal m.next cs _) fun j hj e => ?_,KpC.cut ((((KpC.of (.of kA)).trans (kc5.mono fun j h => h.elim .inl fun h => .inr (by omega))).trans (.of (.of kk))).trans ((Aal m.next cs _).mono fun j h => .inr (by omega))),fun j hj => (hX5 j hj).1.imp id fun h => by omega⟩
     have e:j = m.next:=e
     rcases (hX5 j hj).1 with h | h
     ·have:=hX j h; omega
     ·omega
    simp [f10,g5,z0]
    by_cases hr:res.2.2 = 0
    ·rw [if_neg (by simp [hr])] at hd
     simp [hr,f6,g5m,z1,Aah]
     rw [hd] at fin
     exact fin _ _ (by simp [f6]) (by simp) ⟨_,by simp; rfl⟩ (up _ _)
    ·rw [if_pos hr] at hd
     simp [hr]
     refine Aau (by kernel_rfl) ?_
     have z2:C ≠ m.next:=by omega
     have z3:m.next ≠ C:=by omega
     simp [f10,f6,g5,g5m,z0,z1,Aa4]
     refine Aay (l:=[(4,5)]) (by kernel_rfl) (?_:List.all _ _ = true) ?_
     ·simp [metAtD,metOkD,rank,verKeptD,Region.wanted,Mem.ver,g5,g5m,z0,z1,z2,z3]
     simp
     rw [hd] at fin
     exact fin _ _ (by simp [f6]) (by simp) ⟨_,by simp; rfl⟩ (up _ _)
 have c6:¬ (rowOf n).2.2 < (l.length:Int):=by omega
 simp [c3,c4,c6,d1,abuild,placesOf,fillAt,ln]
 rw [← hCe,← hM3]
 refine Aam 57 l.length (fun i s' m' => Kp M3 m' ∧ ∀ j v,j < i → l[j]? = some v → equalM a v v = true) (by simp) (by omega) ⟨.refl _,fun j v h => by omega⟩ ?_
 rintro i s' m' hi e57 ⟨hkp,hall⟩ hsame hw Q' hn he
 have f0:s'.at 0 = .ptr A 0:=(hsame 0 (by kernel_rfl)).trans (by simp)
 have f2:s'.at 2 = .lst (vals l):=(hsame 2 (by kernel_rfl)).trans (by simp)
 have f6:s'.at 6 = .ptr m.next 0:=(hsame 6 (by kernel_rfl)).trans (by simp)
 have f10:s'.at 10 = .ptr C 0:=(hsame 10 (by kernel_rfl)).trans (by simp)
 have f55:s'.at 55 = .lst (vals l):=(hsame 55 (by kernel_rfl)).trans (by simp)
 have f56:s'.at 56 = int l.length:=(hsame 56 (by kernel_rfl)).trans (by simp)
 clear hsame
 have kA:=k13.trans hkp
 have n':=hkp.next
 have g0:=(hkp.get m.next (by omega)).trans e03
 simp [e57,f56]
 refine Aas (fun h => ?_) fun h => ?_
 ·have hlt:i < l.length:=by simpa using h
  obtain ⟨v,hv⟩:∃ v,l[i]? = some v:=⟨_,List.getElem?_eq_getElem hlt⟩
  have hix:=Afy hv
  have k4:Kp m' ((m'.new [int 0,int 0] false).set m'.next [int v.1,int v.2]):=by simp
  have q:=q24 (hA.kp (kA.trans k4)) hsm v v
  have z0:m.next ≠ m'.next:=by omega
  simp [e57,f55,hix,f0,Aah,q.go]
  cases hq:equalM a v v with
  | true =>
   simp [e57,hw]
   refine hn _ _ hlt (by simp) ⟨hkp.trans k4,fun j u hj hu => ?_⟩
   by_cases hji:j = i
   ·subst hji
    rw [hv] at hu
    cases hu
    exact hq
   ·exact hall j u (by omega) hu
  | false =>
   rw [if_pos (fun h => by have:=h v (List.mem_of_getElem? hv); rw [hq] at this; cases this)] at hd
   simp [Aa4,f6,g0,z0]
   refine he _ _ _ (by simp) ?_
   simp
   rw [hd] at fin
   exact fin _ _ (by simp [f6]) (by simp) ⟨_,by simp; rfl⟩ (Up.kp hA ((kA.trans k4).set (Nat.le_refl _) _))
 ·have hge:i = l.length:=by have:=of_decide_eq_false h; omega
  subst hge
  have hEq:∀ v ∈ l,equalM a v v = true:=fun v hv => by
   obtain ⟨j,hj,e⟩:=List.mem_iff_getElem.1 hv
   exact hall j v hj (by rw [List.getElem?_eq_getElem hj,e])
  rw [if_neg (by simpa using hEq)] at hd
  simp
  refine he _ _ _ (by simp) ?_
  simp [f2,ln]
  refine Aam 70 l.length (fun i s2 m4 => Kp M3 m4 ∧ ∀ (j:Nat) v,j < i → l[j]? = some v → goodP a n v j = true) (by simp) (by omega) ⟨hkp,fun j v h => by omega⟩ ?_
  rintro i s2 m4 hi e70 ⟨hkp4,hall4⟩ hsame hw Q' hn he
  have f6:s2.at 6 = .ptr m.next 0:=(hsame 6 (by kernel_rfl)).trans (by simp [f6])
  have f10:s2.at 10 = .ptr C 0:=(hsame 10 (by kernel_rfl)).trans (by simp [f10])
  have f69:s2.at 69 = int l.length:=(hsame 69 (by kernel_rfl)).trans (by simp)
  clear hsame
  have kA:=k13.trans hkp4
  have n':=hkp4.next
  have g0:=(hkp4.get m.next (by omega)).trans e03
  have hC4:=hC3.kp hkp4
  simp [e70,f69]
  refine Aas (fun h => ?_) fun h => ?_
  ·have hlt:i < l.length:=by simpa using h
   obtain ⟨v,hv⟩:∃ v,l[i]? = some v:=⟨_,List.getElem?_eq_getElem hlt⟩
   have q:=q38 (hA.kp kA) hsm hC4 hv
   simp [e70,f10,q.go]
   cases hq:goodP a n v i with
   | true =>
    simp [e70,hw]
    refine hn _ _ hlt (by simp) ⟨hkp4,fun j u hj hu => ?_⟩
    by_cases hji:j = i
    ·subst hji
     rw [hv] at hu
     cases hu
     exact hq
    ·exact hall4 j u (by omega) hu
   | false =>
    rw [if_pos (fun h => by have:=h i v hv; rw [hq] at this; cases this)] at hd
    simp [Aa4,f6,g0]
    refine he _ _ _ (by simp) ?_
    simp
    rw [hd] at fin
    exact fin _ _ (by simp [f6]) (by simp) ⟨_,by simp; rfl⟩ (Up.kp hA (kA.set (Nat.le_refl _) _))
  ·have hge:i = l.length:=by have:=of_decide_eq_false h; omega
   subst hge
   have hGd:∀ (i:Nat) v,l[i]? = some v → goodP a n v i = true:=fun j v hv => hall4 j v (List.getElem?_eq_some_iff.1 hv).1 hv
   rw [if_neg (by simpa using hGd)] at hd
   simp
   refine he _ _ _ (by simp) ?_
   simp [f10]
   refine Aae (hdo c1 c2 hcnt hEq hGd m4 C (hA.kp kA) (fun j h => by have:=hX j h; omega) hXC hC4) ?_
   rintro _ m5 ⟨rfl,X',hA5,hX5,kc5,hC5⟩
   have n5:=kc5.next
   obtain ⟨_,w5,g5⟩:=id hC5
   have z0:C ≠ m5.next:=by omega
   have z1:m.next ≠ m5.next:=by omega
   have g5m:=(kc5.get m.next (by omega) (fun h => by rcases h with h | h; have:=hX _ h; omega; omega)).trans g0
   have up:∀ cs v,Up X A res.2.1 m (((m5.new [int 0,int 0] false).set m5.next v).set m.next cs):=fun cs v => by
    have kk:Kp m5 ((m5.new [int 0,int 0] false).set m5.next v):=by simp
    refine ⟨X',(hA5.kp kk).kc (Aal m.next cs _) fun j hj e => ?_,KpC.cut ((((KpC.of (.of kA)).trans (kc5.mono fun j h => h.elim .inl fun h => .inr (by omega))).trans (.of (.of kk))).trans ((Aal m.next cs _).mono fun j h => .inr (by omega))),fun j hj => (hX5 j hj).1.imp id fun h => by omega⟩
    have e:j = m.next:=e
    rcases (hX5 j hj).1 with h | h
    ·have:=hX j h; omega
    ·omega
   simp [f10,g5,z0]
   by_cases hr:res.2.2 = 0
   ·rw [if_neg (by simp [hr])] at hd
    simp [hr,f6,g5m,z1,Aah]
    rw [hd] at fin
    exact fin _ _ (by simp [f6]) (by simp) ⟨_,by simp; rfl⟩ (up _ _)
   ·rw [if_pos hr] at hd
    simp [hr]
    refine Aau (by kernel_rfl) ?_
    have z2:C ≠ m.next:=by omega
    have z3:m.next ≠ C:=by omega
    simp [f10,f6,g5,g5m,z0,z1,Aa4]
    refine Aay (l:=[(4,5)]) (by kernel_rfl) (?_:List.all _ _ = true) ?_
    ·simp [metAtD,metOkD,rank,verKeptD,Region.wanted,Mem.ver,g5,g5m,z0,z1,z2,z3]
    simp
    rw [hd] at fin
    exact fin _ _ (by simp [f6]) (by simp) ⟨_,by simp; rfl⟩ (up _ _)
end Go.Proofs.YthegkphhfleghaaGreat
namespace Go.Proofs.YthegkphhfleghaaGreat
set_option maxRecDepth 4000
set_option maxRecDepth 4000
open Go.V
structure Ext (a b:ArM):Prop where
 room:b.room = a.room
 cells:∃ t,b.cells = a.cells ++ t
 names:∃ t,b.names = a.names ++ t
theorem Ext.refl (a:ArM):Ext a a:=⟨rfl,⟨[],by simp⟩,[],by simp⟩
theorem Ext.trans {a b c:ArM} (h:Ext a b) (k:Ext b c):Ext a c:=by
 obtain ⟨h1,⟨t1,h2⟩,⟨s1,h3⟩⟩:=h
 obtain ⟨k1,⟨t2,k2⟩,⟨s2,k3⟩⟩:=k
 exact ⟨k1.trans h1,⟨t1 ++ t2,by rw [k2,h2,List.append_assoc]⟩,s1 ++ s2,by rw [k3,h3,List.append_assoc]⟩
theorem Ext.at {a b:ArM} (h:Ext a b) {i:Nat} {c:CeM} (hc:a.cells[i]? = some c):b.cells[i]? = some c:=by
 obtain ⟨_,⟨t,e⟩,_⟩:=h
 rw [e,List.getElem?_append_left (List.getElem?_eq_some_iff.1 hc).1,hc]
theorem Ext.len {a b:ArM} (h:Ext a b):a.cells.length ≤ b.cells.length:=by
 obtain ⟨_,⟨t,e⟩,_⟩:=h
 rw [e]; simp
theorem Ext.nlen {a b:ArM} (h:Ext a b):a.names.length ≤ b.names.length:=by
 obtain ⟨_,_,⟨t,e⟩⟩:=h
 rw [e]; simp
theorem Aqz {n k k':Int} (h:below n k = true) (hk:k ≤ k'):below n k' = true:=by
 simp [below] at h ⊢
 omega
theorem Ext.good {a b:ArM} (h:Ext a b) {v:Val} (hv:goodM a v = true):goodM b v = true:=by
 have h1:=h.len
 have h2:=h.nlen
 unfold goodM at hv ⊢
 split
 ·rename_i c; rwa [if_pos c] at hv
 rename_i c; rw [if_neg c] at hv
 split
 ·rename_i c; rwa [if_pos c] at hv
 rename_i c; rw [if_neg c] at hv
 split
 ·rename_i c; rwa [if_pos c] at hv
 rename_i c; rw [if_neg c] at hv
 split
 ·rename_i c; rwa [if_pos c] at hv
 rename_i c; rw [if_neg c] at hv
 split
 ·rename_i c; rw [if_pos c] at hv; exact Aqz hv (by omega)
 rename_i c; rw [if_neg c] at hv
 split
 ·rename_i c; rwa [if_pos c] at hv
 rename_i c; rw [if_neg c] at hv
 split
 ·rename_i c; rw [if_pos c] at hv; exact Aqz hv (by omega)
 rename_i c; rw [if_neg c] at hv
 exact hv
def GoodAt (a:ArM) (i:Nat) (v:Val):Prop:=goodM a v = true ∧ (v.1 = 7 → v.2 < i)
theorem A5j {a:ArM} {v:Val} (h:goodM a v = true) (h7:v.1 = 7):∃ i:Nat,v = (7,(i:Int)) ∧ i < a.cells.length:=by
 obtain ⟨k,n⟩:=v
 simp only at h7
 subst h7
 have h':below n a.cells.length = true:=by simpa [goodM] using h
 simp [below] at h'
 exact ⟨n.toNat,by rw [Int.toNat_of_nonneg h'.1],by omega⟩
theorem Aqj (a:ArM):goodM a (4,0) = true:=by simp [goodM]
theorem Ar0 {a:ArM} {v:Val} (h:goodM a v = true):GoodAt a a.cells.length v:=⟨h,fun h7 => by
 obtain ⟨i,rfl,hi⟩:=A5j h h7
 exact Int.ofNat_lt.2 hi⟩
theorem GoodAt.ext {a b:ArM} (h:Ext a b) {i:Nat} {v:Val} (hv:GoodAt a i v):GoodAt b i v:=⟨h.good hv.1,hv.2⟩
def Inv (a:ArM):Prop:=∀ i c,a.cells[i]? = some c → c.a.length ≤ 4096 ∧ c.s.length ≤ 4096 ∧ kindM c = true ∧ ∀ v ∈ c.a,GoodAt a i v
theorem Inv.small {a:ArM} (h:Inv a):Small a:=fun c hc => by
 obtain ⟨i,hi,e⟩:=List.mem_iff_getElem.1 hc
 have:=h i c (by rw [List.getElem?_eq_getElem hi,e])
 exact ⟨this.1,this.2.1⟩
theorem A1z {c:CeM} (h:kindM c = true) (h1:c.k = 1):∃ x y,c = ⟨1,0,[x,y],[]⟩:=by
 obtain ⟨k,n,l,s⟩:=c
 simp only at h1
 subst h1
 simp [kindM] at h
 obtain ⟨rfl,rfl,h3⟩:=h
 match l,h3 with
 | [x,y],_ => exact ⟨x,y,rfl⟩
theorem Inv.pairs {a:ArM} (h:Inv a):Pairs a:=fun c hc h1 => by
 obtain ⟨i,hi,e⟩:=List.mem_iff_getElem.1 hc
 obtain ⟨x,y,e⟩:=A1z (h i c (by rw [List.getElem?_eq_getElem hi,e])).2.2.1 h1
 exact ⟨x,y,by rw [e]⟩
theorem Apc (a:ArM) (c:CeM) (ha:Inv a):((allocM a c).2.2 ≠ 0 ∧ (allocM a c).1 = a) ∨ ((allocM a c).2.2 = 0 ∧ (allocM a c).1 = pushM a c ∧ (allocM a c).2.1 = (7,(a.cells.length:Int)) ∧ Inv (pushM a c)):=by
 unfold allocM
 by_cases hf:fitsM a c = true
 ·rw [if_pos hf]
  by_cases hr:a.room ≤ a.cells.length
  ·rw [if_pos hr]; exact .inl ⟨by simp,rfl⟩
  ·rw [if_neg hr]
   refine .inr ⟨rfl,rfl,rfl,fun i c' hc' => ?_⟩
   have ext:Ext a (pushM a c):=⟨rfl,⟨[c],rfl⟩,[],by simp [pushM]⟩
   simp only [pushM] at hc'
   by_cases hi:i < a.cells.length
   ·rw [List.getElem?_append_left hi] at hc'
    obtain ⟨h1,h2,h3,h4⟩:=ha i c' hc'
    exact ⟨h1,h2,h3,fun v hv => (h4 v hv).ext ext⟩
   ·have hil:=(List.getElem?_eq_some_iff.1 hc').1
    simp at hil
    have e:i = a.cells.length:=by omega
    subst e
    rw [List.getElem?_append_right (Nat.le_refl _)] at hc'
    simp at hc'
    subst hc'
    simp [fitsM] at hf
    exact ⟨by omega,by omega,hf.2.2.2.2,fun v hv => (Ar0 (hf.2.2.1 _ _ hv)).ext ext⟩
 ·rw [if_neg hf]; exact .inl ⟨by simp,rfl⟩
theorem A0n (a:ArM) (c:CeM):Ext a (pushM a c):=⟨rfl,⟨[c],rfl⟩,[],by simp [pushM]⟩
theorem Aut (a:ArM) (c:CeM):goodM (pushM a c) (7,(a.cells.length:Int)) = true:=by
 simp [goodM,pushM,below]
 omega
end Go.Proofs.YthegkphhfleghaaGreat
namespace Go.Proofs.YthegkphhfleghaaGreat
open Go.V
def Chain (a:ArM) (e:Val):List Val → Val → Prop
 | [],v => v = e
 | x :: l,v => ∃ (i:Nat) (w:Val),v = (7,(i:Int)) ∧ a.cells[i]? = some ⟨1,0,[x,w],[]⟩ ∧ Chain a e l w
theorem Chain.ext {a b:ArM} (h:Ext a b) {e:Val}:∀ {l:List Val} {v:Val},Chain a e l v → Chain b e l v
 | [],_,c => c
 | _ :: _,_,⟨i,w,h1,h2,h3⟩ => ⟨i,w,h1,h.at h2,h3.ext h⟩
theorem Chain.app {a:ArM} {e f:Val} {r:List Val} (k:Chain a e r f):∀ {l:List Val} {v:Val},Chain a f l v → Chain a e (l ++ r) v
 | [],_,c => by cases c; exact k
 | _ :: _,_,⟨i,w,h1,h2,h3⟩ => ⟨i,w,h1,h2,Chain.app k h3⟩
theorem ix_at {a:ArM} {i:Nat} {c:CeM} (h:a.cells[i]? = some c):ixM a (7,(i:Int)) = some i:=by
 have:=(List.getElem?_eq_some_iff.1 h).1
 have hg:goodM a (7,(i:Int)) = true:=by simp [goodM,below]; omega
 simp [ixM,hg]
theorem A50 {a:ArM} {i:Nat} {c:CeM} (h:a.cells[i]? = some c):getM a (7,(i:Int)) = (c,0):=by
 simp [getM,ix_at h,List.getD_eq_getElem?_getD,h]
theorem Auk {a:ArM} (ha:Inv a) (s:List (List UInt8)):Ext a ⟨a.room,a.cells,a.names ++ s⟩ ∧ Inv ⟨a.room,a.cells,a.names ++ s⟩:=by
 have e:Ext a ⟨a.room,a.cells,a.names ++ s⟩:=⟨rfl,⟨[],by simp⟩,s,rfl⟩
 exact ⟨e,fun i c hc => ⟨(ha i c hc).1,(ha i c hc).2.1,(ha i c hc).2.2.1,fun v hv => ((ha i c hc).2.2.2 v hv).ext e⟩⟩
def pairs (l:List CeM):Nat:=l.countP fun c => decide (c.k = 1)
theorem At5 (l r:List CeM):pairs (l ++ r) = pairs l + pairs r:=List.countP_append ..
theorem At4 (c:CeM):pairs [c] = if c.k = 1 then 1 else 0:=by simp [pairs,List.countP_cons]
def MadeP (a:ArM) (n k:Nat) (r:ArM × Val × Int):Prop:=Ext a r.1 ∧ Inv r.1 ∧ r.1.cells.length ≤ a.cells.length + n ∧ pairs r.1.cells ≤ pairs a.cells + k ∧ (r.2.2 = 0 → goodM r.1 r.2.1 = true)
theorem Agb {a:ArM} (ha:Inv a) (c:CeM):MadeP a 1 (if c.k = 1 then 1 else 0) (allocM a c):=by
 rcases Apc a c ha with ⟨h1,h2⟩ | ⟨h1,h2,h3,h4⟩
 ·exact ⟨by rw [h2]; exact .refl a,by rw [h2]; exact ha,by rw [h2]; omega,by rw [h2]; omega,fun h => absurd h h1⟩
 ·exact ⟨by rw [h2]; exact A0n a c,by rw [h2]; exact h4,by rw [h2]; simp [pushM],by rw [h2]; simp only [pushM]; rw [At5,At4]; exact Nat.le_refl _,fun _ => by rw [h2,h3]; exact Aut a c⟩
theorem MadeP.then {a b:ArM} {n k n2 k2:Nat} {r:ArM × Val × Int} (h1:Ext a b) (h2:b.cells.length ≤ a.cells.length + n) (h3:pairs b.cells ≤ pairs a.cells + k) (h:MadeP b n2 k2 r):MadeP a (n + n2) (k + k2) r:=⟨h1.trans h.1,h.2.1,by have:=h.2.2.1; omega,by have:=h.2.2.2.1; omega,h.2.2.2.2⟩
theorem MadeP.le {a:ArM} {n k n2 k2:Nat} {r:ArM × Val × Int} (h:MadeP a n k r) (hn:n ≤ n2) (hk:k ≤ k2):MadeP a n2 k2 r:=⟨h.1,h.2.1,by have:=h.2.2.1; omega,by have:=h.2.2.2.1; omega,h.2.2.2.2⟩
theorem Ac9 {a:ArM} (ha:Inv a) {n k:Nat} {v:Val} {e:Int} (h:e = 0 → goodM a v = true):MadeP a n k (a,v,e):=⟨.refl a,ha,Nat.le_add_right _ _,Nat.le_add_right _ _,h⟩
theorem Ayq {a:ArM} (ha:Inv a) (s:List UInt8):MadeP a 0 0 (symM a s):=by
 unfold symM
 split
 ·split
  ·rename_i i hi
   refine Ac9 ha fun _ => ?_
   have:=(List.findIdx?_eq_some_iff_getElem.1 hi).1
   simp [goodM,below]; omega
  ·split
   ·exact Ac9 ha fun h => by simp at h
   ·obtain ⟨e1,e2⟩:=Auk ha [s]
    exact ⟨e1,e2,by simp [nameM],by simp [nameM],fun _ => by simp [goodM,below,nameM]; omega⟩
 ·exact Ac9 ha fun h => by simp at h
theorem made:∀ (n:Nat) (d:Dat),d.size ≤ n → good d = true → ∀ a,Inv a → MadeP a (2 * d.size - 1) (d.size - 1) (makeM d a)
 | 0,d,hs,_ => by cases d; simp [Dat.size] at hs
 | n + 1,.mk K N S M L T,hs,hg => by
  intro a ha
  obtain ⟨hal,hgL,hgT⟩:=Auu hg
  rw [Dat.size] at hs ⊢
  have ih:=made n
  have pos:∀ d:Dat,1 ≤ d.size:=fun d => by cases d; rw [Dat.size]; omega
  rw [makeM]
  split
  ·rename_i h123
   refine Ac9 ha fun _ => ?_
   unfold alone at hal
   rcases h123 with rfl | rfl | rfl
   ·simp at hal
    simp [goodM,isIn]
    omega
   ·simp at hal
    simp [goodM,below]
    omega
   ·simp at hal
    simp [goodM,below]
    omega
  split
  ·exact (Ayq ha S).le (by omega) (by omega)
  split
  ·exact (Agb ha _).le (by omega) (by simp)
  split
  ·have hv:∀ (l:List Dat),(∀ d ∈ l,d ∈ L) → ∀ a,Inv a → Ext a (vecM l a).1 ∧ Inv (vecM l a).1 ∧ (vecM l a).1.cells.length ≤ a.cells.length + 2 * sizes l ∧ pairs (vecM l a).1.cells ≤ pairs a.cells + sizes l:=by
    intro l
    induction l with
    | nil => intro _ a ha; exact ⟨.refl a,ha,by simp [vecM],by simp [vecM]⟩
    | cons d l ihl =>
     intro hl a ha
     have hsz:=Abj (hl d (by simp))
     have hd:=ih d (by omega) (Adj hgL (hl d (by simp))) a ha
     have h1:=hd.2.2.1
     have h2:=hd.2.2.2.1
     rw [vecM,sizes]
     split
     ·exact ⟨hd.1,hd.2.1,by simp only; omega,by simp only; omega⟩
     ·obtain ⟨e1,e2,e3,e4⟩:=ihl (fun x hx => hl x (by simp [hx])) _ hd.2.1
      exact ⟨hd.1.trans e1,e2,by simp only; omega,by simp only; omega⟩
   obtain ⟨e1,e2,e3,e4⟩:=hv L (fun _ h => h) a ha
   split
   ·rename_i hz
    exact ⟨e1,e2,by simp only; omega,by simp only; omega,fun h => absurd h hz⟩
   ·exact (MadeP.then e1 e3 e4 (Agb e2 _)).le (by omega) (by simp)
  ·have hr0:MadeP a (2 * sizes T) (sizes T) (if K = 7 then tailM T a else (a,(4,0),0)):=by
    split
    ·cases T with
     | nil => exact Ac9 ha fun _ => Aqj a
     | cons t T =>
      rw [tailM,sizes]
      rw [sizes] at hs
      exact (ih t (by omega) (Adj hgT (by simp)) a ha).le (by omega) (by omega)
    ·exact Ac9 ha fun _ => Aqj a
   generalize (if K = 7 then tailM T a else (a,(4,0),0)) = r at hr0
   have hv:∀ (l:List Dat),(∀ d ∈ l,d ∈ L) → MadeP a (2 * sizes l + 2 * sizes T) (sizes l + sizes T) (lstM l r):=by
    intro l
    induction l with
    | nil => intro _; exact hr0.le (by simp [sizes]) (by simp [sizes])
    | cons d l ihl =>
     intro hl
     have hq:=ihl (fun x hx => hl x (by simp [hx]))
     have hsz:=Abj (hl d (by simp))
     have hd:=ih d (by omega) (Adj hgL (hl d (by simp))) _ hq.2.1
     have h1:=pos d
     rw [lstM,sizes]
     split
     ·exact hq.le (by omega) (by omega)
     ·split
      ·rename_i hz
       exact ⟨hq.1.trans hd.1,hd.2.1,by have:=hd.2.2.1; have:=hq.2.2.1; simp only; omega,by have:=hd.2.2.2.1; have:=hq.2.2.2.1; simp only; omega,fun h => absurd h hz⟩
      ·exact (MadeP.then hq.1 hq.2.2.1 hq.2.2.2.1 (MadeP.then hd.1 hd.2.2.1 hd.2.2.2.1 (Agb hd.2.1 _))).le (by omega) (by simp; omega)
   have hL:=hv L fun _ h => h
   split
   ·rename_i hz
    exact ⟨hL.1,hL.2.1,by have:=hL.2.2.1; simp only; omega,by have:=hL.2.2.2.1; simp only; omega,fun h => absurd h hz⟩
   ·exact hL.le (by omega) (by omega)
end Go.Proofs.YthegkphhfleghaaGreat
namespace Go.Proofs.YthegkphhfleghaaGreat
set_option maxRecDepth 4000
open Go.V
section
variable {X:Nat → Prop} {A:Nat} {a:ArM} {m:Mem}
end
end Go.Proofs.YthegkphhfleghaaGreat
namespace Go.Proofs.YthegkphhfleghaaGreat
set_option maxRecDepth 4000
set_option maxRecDepth 4000
set_option maxRecDepth 4000
open Go.V
attribute [local simp] Nat.add_assoc
def putA (a:ArM) (p:Nat) (c:CeM) (i:Nat) (x:Val):ArM:=⟨a.room,a.cells.set p ⟨c.k,c.n,c.a.set i x,c.s⟩,a.names⟩
theorem Asv:∀ (l:List CeM) (xs:List AV) (p:Nat) (c d:CeM),l[p]? = some c → d.k = c.k → d.n = c.n → d.s = c.s → List.zipWith rowA (l.set p d) xs = List.zipWith rowA l xs
 | [],_,p,c,d,h,_,_,_ => by simp at h
 | b :: l,[],p,c,d,h,_,_,_ => by simp
 | b :: l,x :: xs,0,c,d,h,h1,h2,h3 => by simp at h; subst h; simp [rowA,h1,h2,h3]
 | b :: l,x :: xs,p + 1,c,d,h,h1,h2,h3 => by simpa using Asv l xs p c d (by simpa using h) h1 h2 h3
theorem A10 {a:ArM} {p:Nat} {c:CeM} (hc:a.cells[p]? = some c):ixM a (7,(p:Int)) = some p:=by
 have:=(List.getElem?_eq_some_iff.1 hc).1
 simp [ixM,goodM,below]
 omega
theorem A6l {X:Nat → Prop} {A M:Nat} {a:ArM} {m:Mem} {t:Nat → Option Nat} {cs ns:AV} {xs:List AV} (h:ArT t A M cs ns xs a m) (hx:∀ j,t j ≠ none → X j ∧ j < m.next) {p:Nat} {c:CeM} (hc:a.cells[p]? = some c) {id:Nat} (hy:xs[p]? = some (.sl id 0 (vals c.a).length 2 true none)) (ht:t id = some (4 + p)) (hid:id < m.next) (i:Nat) (hi:i < c.a.length) (x:Val):Ar X A (putA a p c i x) (m.set id (flat (vals (c.a.set i x)))):=by
 obtain ⟨lt,ta,⟨v,get⟩,ml,tm,⟨v2,map⟩,cells,names,len,row,sane⟩:=h
 have ne:∀ j n,t j = some n → n ≠ 4 + p → j ≠ id:=by
  rintro j n hj hn rfl
  rw [ht] at hj
  cases hj
  exact hn rfl
 have keep:∀ j n,n ≠ 4 + p → j < m.next → t j = some n → (m.set id (flat (vals (c.a.set i x)))).get j = m.get j ∧ t j = some n:=fun j n hn hj hj' => ⟨by simp [ne j n hj' hn],hj'⟩
 refine ⟨t,M,cs,ns,xs,⟨by simpa using lt,ta,⟨v,?_⟩,by simpa using ml,tm,⟨v2,by simpa [putA] using map⟩,?_,?_,?_,?_,?_⟩,fun j hj => by simpa using hx j hj⟩
 ·rw [(keep A 0 (by omega) lt ta).1]; exact get
 ·show Has t 1 4 true (.emp 0) _ cs (List.zipWith rowA (a.cells.set p _) xs)
  rw [Asv a.cells xs p c ⟨c.k,c.n,c.a.set i x,c.s⟩ hc rfl rfl rfl]
  exact cells.mono (by simp) fun j => keep j _ (by omega)
 ·exact names.mono (by simp) fun j => keep j _ (by omega)
 ·simpa [putA] using len
 ·intro i' c' x' hc' hx'
  by_cases e:i' = p
  ·subst e
   rw [hy] at hx'
   cases hx'
   have hlt:=(List.getElem?_eq_some_iff.1 hc).1
   simp only [putA,List.getElem?_set_self hlt] at hc'
   cases hc'
   refine .inr ⟨fun q => ?_,id,m.clock + 1,by simp,by simpa using hid,ht,by simp⟩
   have:=congrArg List.length q
   simp at this
   rw [this] at hi
   simp at hi
  ·simp only [putA] at hc'
   rw [List.getElem?_set_ne (fun h => e h.symm)] at hc'
   exact (row i' c' x' hc' hx').mono (by simp) fun j => keep j _ (by omega)
 ·simpa [putA] using sane
section
variable {X:Nat → Prop} {A:Nat} {a:ArM} {m:Mem}
theorem q128 (hA:Ar X A a m) {p:Nat} {c:CeM} (hc:a.cells[p]? = some c) (hk:c.k = 4) {i:Nat} (hi:i < c.a.length) {x:Val} (hg:goodM a x = true):wph Tryz.prog ca (.func 70) [.ptr A 0,valA (7,(p:Int)),int i,valA x] m fun v m' => v = int 0 ∧ Up X A (putA a p c i x) m m':=by
 refine Aaf Tryz.func70 rfl rfl (by simp [Tryz.f70]) (by simp [Tryz.f70]) fun Q hQ => ?_
 simp only [Tryz.f70,show ca.keepRes 70 = false from rfl,show ca.keepArgs 70 = false from rfl] at hQ ⊢
 obtain ⟨M1,hM1⟩:∃ M1,M1 = (m.new [int 7,int p] false).new [int x.1,int x.2] false:=⟨_,rfl⟩
 have k1:Kp m M1:=by rw [hM1]; simp
 have n1:M1.next = m.next + 2:=by rw [hM1]; simp
 have b0:M1.get m.next = some (.cells [int 7,int p] false (m.clock + 1)):=by rw [hM1]; simp
 have b1:M1.get (m.next + 1) = some (.cells [int x.1,int x.2] false (m.clock + 2)):=by rw [hM1]; simp
 have hA1:=hA.kp k1
 have q1:=q34 hA1
 have q2:=q41 hA1 x
 rw [hg] at q2
 obtain ⟨t,M,cs,ns,xs,h,hx'⟩:=id hA1
 have q3:=q77 h hx' (7,(p:Int))
 obtain ⟨C,vc,y,rfl,hC,htC,hgC,hy,hz,hrow⟩:=h.at hc
 have c1:cellP a (.sl C 0 a.cells.length 4 true none) (7,(p:Int)) = .ptr C (p * 4):=by simp [cellP,A10 hc,blk]
 rw [c1] at q3
 obtain ⟨f1,f2⟩:=Acj (Agn a.cells xs) hz
 have part:∀ {k:Nat} {r:AV} (q:Nat) (w:AV),((flat (List.zipWith rowA a.cells xs)).drop (k * 4)).take 4 = r.cells → r.cells[q]? = some w → (flat (List.zipWith rowA a.cells xs))[k * 4 + q]? = some w:=by
  intro k r q w h2 h3
  have hq:q < 4:=by
   have:=(List.getElem?_eq_some_iff.1 h3).1
   rw [← h2] at this
   simp at this
   omega
  rw [← h2,List.getElem?_take_of_lt hq,List.getElem?_drop] at h3
  exact h3
 have px0:=part 0 (int c.k) f2 rfl
 have px2:=part 2 y f2 rfl
 rw [Nat.add_zero] at px0
 obtain ⟨e,_⟩ | ⟨hne,id,w,rfl,hid,htid,hgid⟩:=hrow
 ·have:=congrArg List.length e
  simp at this
  rw [this] at hi
  simp at hi
 have hb:below (i:Int) c.a.length = true:=by simp [below]; omega
 have ln:∀ (R:TypeId) (m:Mem),abuiltin Tryz.prog .len #[62] R [.sl id 0 (vals c.a).length 2 true none] m = some (int c.a.length,m):=fun R m => by rw [Ae0 Tryz.underlying62]; simp
 have hix:=Aak (P:=Tryz.prog) (q:=.i64) (ag:=true) (c:=none) (id:=id) (off:=0) (len:=(vals c.a).length) (i:=i) Tryz.underlying62 Abl (by simpa using hi)
 simp only [Aa8] at hix ln
 have hag:AV.agg [int 7,int p] = valA (7,(p:Int)):=rfl
 simp
 rw [← hM1]
 clear hM1
 simp [q1.go,b0,hag,q3.go]
 have up:=A6l (X:=X) h hx' hc hy htid hid i hi x
 have sp:=Ahv c.a i x hi
 simp [splice] at sp
 have hlen:i * 2 + 2 ≤ (flat (vals c.a)).length:=by rw [Aav (Aa7 c.a)]; simp; omega
 have kk:KpC X m (M1.set id (flat (vals (c.a.set i x)))):=(KpC.of (.of k1)).trans ((Aal id _ M1).mono fun j e => by
  have e:j = id:=e
  subst e
  exact (hx' j (by rw [htid]; simp)).1)
 have fin:∀ (s':Sl),s'.at 8 = int 0 → Q .ret s' (M1.set id (flat (vals (c.a.set i x)))):=fun s' h8 => hQ _ _ _ (by
  rw [Aaq]
  exact ⟨[int 0],by simp [aresult,h8],by simp [oneOf]; exact ⟨X,up,kk,fun j h => .inl h⟩⟩)
 simp [eq135,hgC,px0,px2,hk,undefV,undef,ln,(q75 (i:Int) c.a.length).go,hb,b1,Aah,q2.go]
 refine Aai (by kernel_rfl) (by kernel_rfl) ?_
 simp [hgC,px2,b1,hix,hgid,sp,hlen]
 exact fin _ (by simp)
end
theorem A46 {X:Nat → Prop} {A C:Nat} {l:List Val} {a:ArM} {m:Mem} (hA:Ar X A a m) (hX:∀ j,X j → j < m.next) (hsm:Small a) (hp:Pairs a) (hXC:¬ X C) (hC:has m C (clC A 22 l 0)) (hl:l.length ≤ 4096) {res:Val × ArM × Int} (hres:res = (aheadM a 0 (4,0) l)):wph Tryz.prog ca (.func 185) [.ptr C 0] m fun r m' => r = valA res.1 ∧ Cs X A C 22 l res.2.1 res.2.2 m m':=by
 have hC0:=hC
 obtain ⟨hCl,w,hg⟩:=hC
 refine Aaf Tryz.func185 rfl rfl (by simp [Tryz.f185]) (by simp [Tryz.f185]) fun Q hQ => ?_
 simp only [Tryz.f185,show ca.keepRes 185 = false from rfl,show ca.keepArgs 185 = false from rfl] at hQ ⊢
 obtain ⟨M1,hM1⟩:∃ M1,M1 = (((m.new [.ptr C 0] false).new [int 0,int 0] false).new [int 0,int 0] false).set (m.next + 2) [int 4,int 0]:=⟨_,rfl⟩
 have k1:Kp m M1:=by rw [hM1]; simp
 have n1:M1.next = m.next + 3:=by rw [hM1]; simp
 have b0:M1.get m.next = some (.cells [.ptr C 0] false (m.clock + 1)):=by rw [hM1]; simp
 have b1:M1.get (m.next + 1) = some (.cells [int 0,int 0] false (m.clock + 2)):=by rw [hM1]; simp
 have b2:M1.get (m.next + 2) = some (.cells [int 4,int 0] false (m.clock + 4)):=by rw [hM1]; simp
 have bC:=(k1.get C hCl).trans hg
 have c0:C ≠ m.next:=by omega
 have c1:C ≠ m.next + 1:=by omega
 have c2:C ≠ m.next + 2:=by omega
 have hC1:=hC0.kp k1
 have hA1:=hA.kp k1
 simp [abuild,placesOf,fillAt,hg,c0,c1,c2]
 rw [← hM1]
 clear hM1
 have fin:∀ (s':Sl) (m7:Mem),s'.at 2 = .ptr (m.next + 1) 0 → (∃ w,m7.get (m.next + 1) = some (.cells [int res.1.1,int res.1.2] false w)) → Cs X A C 22 l res.2.1 res.2.2 m m7 → Q .ret s' m7:=by
  intro s' m7 h2 ⟨w,hg⟩ hcs
  refine hQ _ _ _ ?_
  rw [Aaq]
  refine ⟨[valA res.1],by simp [aresult,h2,hg,aload,partOf,Aah],?_⟩
  simp only [Bool.false_eq_true,if_false,oneOf,Ag9]
  exact ⟨trivial,hcs⟩
 refine Aai (by kernel_rfl) (by kernel_rfl) ?_
 simp [b0,b2,bC]
 have hag:AV.agg [int 4,int 0] = valA (4,0):=rfl
 rw [hag]
 refine Aae (q129 hA1 (fun j h => by have:=hX j h; omega) hXC hC1 l (by omega) (4,0)) ?_
 rintro _ m5 ⟨rfl,hcs⟩
 obtain ⟨X',_,_,kc5,_⟩:=id hcs
 have e1:=(kc5.get (m.next + 1) (by omega) (fun h => by rcases h with h | h; have:=hX _ h; omega; omega)).trans b1
 simp [e1,Aah]
 subst hres
 exact fin _ _ (by simp) ⟨_,by simp; rfl⟩ (Cs.box k1 hX hCl hcs (by omega) (by omega) _)
theorem A47 {X:Nat → Prop} {A C:Nat} {n:Int} {l:List Val} {a:ArM} {m:Mem} (hA:Ar X A a m) (hX:∀ j,X j → j < m.next) (hXC:¬ X C) (hC:has m C (clC A n l 0)) (hn:n = 22) {res:Val × ArM × Int}
  (h:∀ m1,Ar X A a m1 → (∀ j,X j → j < m1.next) → has m1 C (clC A n l 0) → wph Tryz.prog ca (.func 185) [.ptr C 0] m1 fun r m' => r = valA res.1 ∧ Cs X A C n l res.2.1 res.2.2 m1 m') :
  wph Tryz.prog ca (.func 156) [.ptr C 0] m fun r m' => r = valA res.1 ∧ Cs X A C n l res.2.1 res.2.2 m m':=by
 have k1:Kp m (m.new [int 0,int 0] false):=by simp
 have q:=h _ (hA.kp k1) (fun j hj => by have:=hX j hj; simp; omega) (hC.kp k1)
 obtain ⟨hCl,w,hg⟩:=hC
 have n0:C ≠ m.next:=by omega
 refine Aaf Tryz.func156 rfl rfl (by simp [Tryz.f156]) (by simp [Tryz.f156]) fun Q hQ => ?_
 simp only [Tryz.f156,show ca.keepRes 156 = false from rfl,show ca.keepArgs 156 = false from rfl] at hQ ⊢
 have fin:∀ (s':Sl) (m7:Mem),s'.at 2 = .ptr m.next 0 → (∃ w,m7.get m.next = some (.cells [int res.1.1,int res.1.2] false w)) → Cs X A C n l res.2.1 res.2.2 m m7 → Q .ret s' m7:=by
  intro s' m7 h2 ⟨w,hg⟩ hcs
  refine hQ _ _ _ ?_
  rw [Aaq]
  refine ⟨[valA res.1],by simp [aresult,h2,hg,aload,partOf,Aah],?_⟩
  simp only [Bool.false_eq_true,if_false,oneOf,Ag9]
  exact ⟨trivial,hcs⟩
 subst hn
 all_goals
  simp [hg,n0]
  refine Aae q ?_
  rintro _ m2 ⟨rfl,hcs⟩
  obtain ⟨X',h1,h2,kc,h4⟩:=id hcs
  have e1:=kc.get m.next (by simp) (fun h => by rcases h with h | h; have:=hX _ h; omega; omega)
  simp at e1
  simp [e1,Aah]
  exact fin _ _ (by simp) ⟨_,by simp; rfl⟩ (Cs.box k1 hX hCl hcs (Nat.le_refl _) (by simp) _)
end Go.Proofs.YthegkphhfleghaaGreat
namespace Go.Proofs.YthegkphhfleghaaGreat
open Go.V
abbrev EnvM:=List (Int × Val)
def getE:EnvM → Int → Val
 | [],_ => (0,0)
 | x :: l,k => if x.1 = k then x.2 else getE l k
def putE:EnvM → Int → Val → EnvM
 | [],k,v => [(k,v)]
 | x :: l,k,v => if x.1 = k then (k,v) :: l else x :: putE l k v
def putsE:EnvM → List Int → List Val → EnvM
 | e,k :: ks,v :: vs => putsE (putE e k v) ks vs
 | e,_,_ => e
inductive WtM where
 | branch (c:Cor)
 | seq (l:List Cor)
 | set (n:Int)
 | glob (o:Int) (s:List UInt8)
 | call (l:List Cor) (d:List Val)
structure KfM where
 w:WtM
 e:EnvM
structure CkM where
 ar:ArM
 status:Int
 steps:Nat
 atv:Bool
 c:Cor
 e:EnvM
 v:Val
 fs:List KfM
structure CsM where
 lam:List Cor
 boxed:List Int
 consts:List (Dat × Val)
def atV (l:List Val) (i:Nat):Val:=l.getD i (0,0)
noncomputable def restM (a:ArM) (l:List Val):Val × ArM × Int:=doM a 22 l (aheadM a 0 (4,0) l)
def faultK (t:CkM):CkM:={ t with status:=4,fs:=[] }
def valueK (v:Val) (t:CkM):CkM:={ t with status:=1,atv:=true,v:=v }
def goK (c:Cor) (e:EnvM) (t:CkM):CkM:={ t with status:=1,atv:=false,c:=c,e:=e }
def pushK (w:WtM) (e:EnvM) (t:CkM):CkM:={ t with fs:=⟨w,e⟩ :: t.fs }
def wantK (t:CkM):CkM:={ t with status:=2 }
def findK (l:List (Dat × Val)) (d:Dat):Option Nat:=l.findIdx? fun x => sam x.1 d
def looksK (cs:CsM) (t:CkM) (n:Int):Val:=if n ∈ cs.boxed then atV (getM t.ar (getE t.e n)).1.a 0 else getE t.e n
def lamN (l:List Cor) (c:Cor):Int:=match l.findIdx? fun x => sameC x c with | some i => (i:Int) + 1 | none => 0
def corL:Cor → List Cor
 | .mk _ _ _ _ _ L => L
def corK:Cor → Int
 | .mk K _ _ _ _ _ => K
def corP:Cor → List Int
 | .mk _ _ _ _ P _ => P
def corN:Cor → Int
 | .mk _ N _ _ _ _ => N
def cor0:Cor:=.mk 0 0 [] (.mk 0 0 [] [] [] []) [] []
def partK (c:Cor) (i:Nat):Cor:=(corL c).getD i cor0
def cellK (cs:CsM) (e:EnvM) (c:Cor):CeM:=⟨5,lamN cs.lam c,(freeV c).map (getE e),[]⟩
def closeK (cs:CsM) (c:Cor) (t:CkM):CkM :=
 if (allocM t.ar (cellK cs t.e c)).2.2 ≠ 0 then faultK { t with ar:=(allocM t.ar (cellK cs t.e c)).1 } else valueK (allocM t.ar (cellK cs t.e c)).2.1 { t with ar:=(allocM t.ar (cellK cs t.e c)).1 }
def waitK (t:CkM):Cor → CkM
 | .mk K N S D P L => if K = 7 then pushK (.branch (.mk K N S D P L)) t.e t else if K = 4 then pushK (.set N) t.e t else if K = 5 then pushK (.glob 2 S) t.e t else if K = 6 then pushK (.glob 3 S) t.e t
  else if K = 10 then pushK (.call (L.drop 1) []) t.e t else if K = 9 ∧ 1 < L.length then pushK (.seq (L.drop 1)) t.e t else t
def ctrlK (cs:CsM) (t:CkM):Cor → CkM
 | .mk K N S D P L =>
  if K = 1 then valueK ((cs.consts.getD ((findK cs.consts D).getD 0) (D,(0,0))).2) t
  else if K = 2 then valueK (looksK cs t N) t
  else if K = 3 then wantK t
  else if K = 8 then closeK cs (.mk K N S D P L) t
  else goK (partK (.mk K N S D P L) 0) t.e (waitK t (.mk K N S D P L))
def bindK (bx:List Int):List Int → List Val → ArM → EnvM → Bool × ArM × EnvM
 | p :: P,g :: got,a,e =>
  if p ∈ bx then (if (allocM a ⟨4,0,[g],[]⟩).2.2 ≠ 0 then (false,(allocM a ⟨4,0,[g],[]⟩).1,putE e p g) else bindK bx P got (allocM a ⟨4,0,[g],[]⟩).1 (putE (putE e p g) p (allocM a ⟨4,0,[g],[]⟩).2.1))
  else bindK bx P got a (putE e p g)
 | _,_,a,e => (true,a,e)
def fixK (c:Cor):Nat:=((corP c).length - corN c).toNat
noncomputable def gotK (c:Cor) (l:List Val) (a:ArM):Int × List Val × ArM :=
 if corN c = 1 then ((restM a (l.drop (fixK c))).2.2,l.take (fixK c) ++ [(restM a (l.drop (fixK c))).1],(restM a (l.drop (fixK c))).2.1) else (0,l.take (fixK c),a)
noncomputable def enterK (cs:CsM) (c:Cor) (caps l:List Val) (t:CkM):CkM :=
 if l.length < fixK c ∨ (corN c = 0 ∧ fixK c < l.length) then faultK t else
 if (gotK c l t.ar).1 ≠ 0 then faultK { t with ar:=(gotK c l t.ar).2.2 } else
 if (bindK cs.boxed (corP c) (gotK c l t.ar).2.1 (gotK c l t.ar).2.2 (putsE [] (freeV c) caps)).1 = false then faultK { t with ar:=(bindK cs.boxed (corP c) (gotK c l t.ar).2.1 (gotK c l t.ar).2.2 (putsE [] (freeV c) caps)).2.1 }
 else goK (partK c 0) (bindK cs.boxed (corP c) (gotK c l t.ar).2.1 (gotK c l t.ar).2.2 (putsE [] (freeV c) caps)).2.2 { t with ar:=(bindK cs.boxed (corP c) (gotK c l t.ar).2.1 (gotK c l t.ar).2.2 (putsE [] (freeV c) caps)).2.1 }
noncomputable def applyK (cs:CsM) (f:Val) (l:List Val) (t:CkM):CkM :=
 if (getM t.ar f).2 = 0 ∧ (getM t.ar f).1.k = 5 ∧ 1 ≤ (getM t.ar f).1.n ∧ (getM t.ar f).1.n ≤ cs.lam.length then enterK cs (cs.lam.getD ((getM t.ar f).1.n - 1).toNat cor0) (getM t.ar f).1.a l t else faultK t
noncomputable def backK (cs:CsM) (f:KfM) (t:CkM):CkM :=
 match f.w with
 | .branch c => goK (partK c (if t.v = (2,0) then 2 else 1)) f.e t
 | .seq l => goK (l.getD 0 cor0) f.e (if 1 < l.length then pushK (.seq (l.drop 1)) f.e t else t)
 | .set n => valueK (2,0) { t with ar:=if goodM t.ar t.v = true then putA t.ar (getE f.e n).2.toNat (getM t.ar (getE f.e n)).1 0 t.v else t.ar }
 | .glob _ _ => wantK t
 | .call l d => match l with
  | x :: r => goK x f.e (pushK (.call r (d ++ [t.v])) f.e t)
  | [] => applyK cs (atV (d ++ [t.v]) 0) ((d ++ [t.v]).drop 1) t
noncomputable def stepK (cs:CsM) (t:CkM):CkM :=
 if t.atv = false then ctrlK cs { t with steps:=t.steps + 1 } t.c else
 match t.fs with
 | [] => { t with steps:=t.steps + 1,status:=3 }
 | f :: fs => backK cs f { t with steps:=t.steps + 1,fs:=fs }
noncomputable def runK (cs:CsM):Nat → CkM → CkM
 | 0,t => t
 | n + 1,t => if t.status = 1 then runK cs n (stepK cs t) else t
theorem Ag4 (cs:CsM):∀ (n k:Nat) (t:CkM),runK cs (n + k) t = runK cs k (runK cs n t)
 | 0,k,t => by rw [Nat.zero_add]; rfl
 | n + 1,k,t => by
  rw [Nat.add_right_comm,runK,runK]
  split
  ·exact Ag4 cs n k _
  ·rename_i h
   cases k with
   | zero => rfl
   | succ k => rw [runK,if_neg h]
theorem Ahy {cs:CsM} {t:CkM} (h:t.status ≠ 1):∀ n,runK cs n t = t
 | 0 => rfl
 | n + 1 => by rw [runK,if_neg h]
theorem Atq {cs:CsM} {t:CkM} (n:Nat) (h:(runK cs n t).status = 1):runK cs (n + 1) t = stepK cs (runK cs n t):=by
 rw [Ag4,runK,if_pos h]
 rfl
theorem Am5 (cs:CsM) (c:Cor) (t:CkM):(closeK cs c t).steps = t.steps:=by unfold closeK; split <;> rfl
theorem Anq (t:CkM) (c:Cor):(waitK t c).steps = t.steps:=by
 obtain ⟨K,N,S,D,P,L⟩:=c
 unfold waitK
 repeat' split
 all_goals rfl
theorem Aox (cs:CsM) (t:CkM) (c:Cor):(ctrlK cs t c).steps = t.steps:=by
 obtain ⟨K,N,S,D,P,L⟩:=c
 simp only [ctrlK]
 split
 ·rfl
 split
 ·rfl
 split
 ·rfl
 split
 ·exact Am5 ..
 ·exact Anq t _
theorem Am3 (cs:CsM) (c:Cor) (caps l:List Val) (t:CkM):(enterK cs c caps l t).steps = t.steps:=by
 unfold enterK
 repeat' split
 all_goals rfl
theorem Ang (cs:CsM) (f:Val) (l:List Val) (t:CkM):(applyK cs f l t).steps = t.steps:=by
 unfold applyK
 split
 ·exact Am3 ..
 ·rfl
theorem Ahu (cs:CsM) (t:CkM):(stepK cs t).steps = t.steps + 1:=by
 unfold stepK
 split
 ·exact Aox ..
 split
 ·rfl
 ·rename_i f fs _
  unfold backK
  split
  ·rfl
  ·split <;> rfl
  ·rfl
  ·rfl
  ·split
   ·rfl
   ·exact Ang ..
theorem Ajm {cs:CsM}:∀ (n:Nat) (t:CkM),∃ r,r ≤ n ∧ runK cs n t = runK cs r t ∧ (runK cs n t).steps = t.steps + r
 | 0,t => ⟨0,Nat.le_refl _,rfl,rfl⟩
 | n + 1,t => by
  by_cases h1:t.status = 1
  ·obtain ⟨r,a,b,c⟩:=Ajm n (stepK cs t)
   refine ⟨r + 1,by omega,?_,?_⟩
   ·rw [runK,if_pos h1,runK,if_pos h1,b]
   ·rw [runK,if_pos h1,c,Ahu]
    omega
  ·exact ⟨0,by omega,by rw [Ahy h1]; rfl,by rw [Ahy h1]; rfl⟩
theorem A4l {K N K' N' deep left:Int} {S S':List UInt8} {D D':Dat} {P P':List Int} {L L':List Cor} (h:(besM (.mk K N S D P L) (.mk K' N' S' D' P' L') deep left).1 = true) :
  K = K' ∧ S = S' ∧ L.length = L'.length ∧ P = P' ∧ N = N' ∧ (besLM L L' (deep + 1) (left - 1)).1 = true:=by
 simp only [besM] at h
 split at h
 ·cases h
 split at h
 ·cases h
 split at h
 ·cases h
 split at h
 ·cases h
 split at h
 ·cases h
 split at h
 ·cases h
 split at h
 ·cases h
 split at h
 ·cases h
 rename_i _ a b _ c d e _
 exact ⟨Decidable.not_not.1 a,Decidable.not_not.1 b,Decidable.not_not.1 c,Decidable.not_not.1 d,Decidable.not_not.1 e,h⟩
theorem A08:∀ (n:Nat) (a b:Cor),a.size ≤ n → ∀ deep left:Int,(besM a b deep left).1 = true → (∀ x ∈ preC a,singleM x = true) → (∀ x ∈ preC b,singleM x = true) → ∀ d t w,goesM a d t w = goesM b d t w:=by
 intro n
 induction n with
 | zero => intro a b h; cases a; simp [Cor.size] at h
 | succ n ih =>
  intro a b hs deep left h ha hb d t w
  obtain ⟨K,N,S,D,P,L⟩:=a
  obtain ⟨K',N',S',D',P',L'⟩:=b
  rw [Cor.size] at hs
  obtain ⟨rfl,rfl,hl,rfl,rfl,hr⟩:=A4l h
  have key:∀ (l r:List Cor),sizeCs l ≤ n → l.length = r.length → ∀ deep left:Int,(besLM l r deep left).1 = true → (∀ x ∈ preCs l,singleM x = true) → (∀ x ∈ preCs r,singleM x = true) → ∀ d t w,goesLM l d t w = goesLM r d t w:=by
   intro l
   induction l with
   | nil =>
    intro r _ hlr
    cases r with
    | nil => intros; rfl
    | cons y r => simp at hlr
   | cons x l ih2 =>
    intro r hz hlr deep left h hx hy d t w
    rw [sizeCs] at hz
    cases r with
    | nil => simp at hlr
    | cons y r =>
     simp only [besLM] at h
     split at h
     ·rename_i h1
      have e1:=ih x y (by omega) deep left h1 (fun z hz => hx z (by simp [preCs,hz])) (fun z hz => hy z (by simp [preCs,hz]))
      have e2:=ih2 r (by omega) (by simpa using hlr) deep _ h (fun z hz => hx z (by simp [preCs,hz])) (fun z hz => hy z (by simp [preCs,hz]))
      simp only [goesLM,e1]
      congr 1
      funext w
      exact e2 d t w
     ·cases h
  have e:=key L L' (by omega) hl _ _ hr (fun x hx => ha x (by simp [preC,hx])) (fun x hx => hb x (by simp [preC,hx]))
  have s1:=ha (.mk K N S D P L) (by simp [preC])
  have s2:=hb (.mk K N S D' P L') (by simp [preC])
  simp only [goesM,s1,s2,e]
theorem Atn {a b:Cor} (h:sameC a b = true) (ha:∀ x ∈ preC a,singleM x = true) (hb:∀ x ∈ preC b,singleM x = true):freeV a = freeV b:=by
 have e:=A08 a.size a b (Nat.le_refl _) 1 8192 h ha hb
 unfold freeV outsM freesM checkM gathM
 simp only [e]
theorem Ajg {K N:Int} {S:List UInt8} {D:Dat} {P:List Int} {L:List Cor} (h:singleM (.mk K N S D P L) = true):isK K = true ∧ leastK K ≤ L.length ∧ (0 ≤ mostK K → (L.length:Int) ≤ mostK K):=by
 simp only [singleM] at h
 split at h
 ·cases h
 rename_i h1
 split at h
 ·cases h
 split at h
 ·cases h
 rename_i h2 h3
 exact ⟨by simpa using h1,by omega,by omega⟩
theorem Atk {K N:Int} {S:List UInt8} {D:Dat} {P:List Int} {L:List Cor} (h:singleM (.mk K N S D P L) = true) (hk:K ≠ 8):P = []:=by
 simp only [singleM] at h
 split at h
 ·cases h
 split at h
 ·cases h
 split at h
 ·cases h
 have hh:hasK K ≠ 8:=by
  unfold hasK
  repeat' split
  all_goals first | omega | (intro h; exact absurd ‹_› hk)
 split at h
 ·simp at h; exact h.2.2.1
 split at h
 ·simp at h; exact h.2.2.1
 split at h
 ·simp at h; exact h.2.2.1
 simp at h
 exact h.2.2.1
theorem Ajh {N:Int} {S:List UInt8} {D:Dat} {P:List Int} {L:List Cor} (h:singleM (.mk 8 N S D P L) = true):0 ≤ N ∧ N ≤ 1 ∧ N ≤ P.length ∧ P.length ≤ 32 ∧ ∃ b,L = [b]:=by
 obtain ⟨_,h2,h3⟩:=Ajg h
 have e1:leastK 8 = 1:=rfl
 have e2:mostK 8 = 1:=rfl
 rw [e1] at h2
 rw [e2] at h3
 have hl:L.length = 1:=by have:=h3 (by omega); omega
 simp only [singleM] at h
 have e3:hasK 8 = 8:=rfl
 rw [e3] at h
 split at h
 ·cases h
 split at h
 ·cases h
 split at h
 ·cases h
 simp [parsM] at h
 exact ⟨h.2.2.2.1,h.2.2.2.2.1,h.2.2.2.2.2.1,h.2.2.1,List.length_eq_one_iff.1 hl⟩
theorem Ap6 (c:Cor):c ∈ preC c:=by cases c; simp [preC]
theorem Ap5:∀ {l:List Cor} {x:Cor},x ∈ l → x ∈ preCs l
 | c :: l,x,h => by
  rw [preCs,List.mem_append]
  rcases List.mem_cons.1 h with rfl | h
  ·exact .inl (Ap6 _)
  ·exact .inr (Ap5 h)
theorem A21 {c x:Cor} (h:x ∈ corL c):x ∈ preC c:=by
 obtain ⟨K,N,S,D,P,L⟩:=c
 rw [preC,List.mem_cons]
 exact .inr (Ap5 h)
theorem A16 {c x:Cor} (hs:singleM c = true) (hk:corK c ≠ 8) (h:x ∈ corL c) {v:Int} (hv:Fv v x):Fv v c:=by
 obtain ⟨K,N,S,D,P,L⟩:=c
 have:=Atk hs hk
 subst this
 rw [Fv]
 exact .inr ⟨by simp,Aor.2 ⟨x,h,hv⟩⟩
theorem A57 {K N:Int} {S:List UInt8} {D:Dat} {P:List Int} {L:List Cor} {x:Cor} (h:x ∈ L) {v:Int} (hv:Fv v x):v ∈ P ∨ Fv v (.mk K N S D P L):=by
 by_cases hp:v ∈ P
 ·exact .inl hp
 ·rw [Fv]; exact .inr (.inr ⟨hp,Aor.2 ⟨x,h,hv⟩⟩)
structure OkCs (cs:CsM) (c0:Cor):Prop where
 fit:c0.fits
 chk:checkM c0 [] = 0
 boxed:cs.boxed = setV c0
 lam:∀ x ∈ cs.lam,x ∈ preC c0 ∧ corK x = 8
 consts:∀ N S D P L,Cor.mk 1 N S D P L ∈ preC c0 → ∃ i y,findK cs.consts D = some i ∧ cs.consts[i]? = some y
 cval:∀ y ∈ cs.consts,y.2.1 ≠ 6
 cfit:∀ y ∈ cs.consts,y.1.fits
 few:∀ x ∈ preC c0,(corL x).length ≤ 300
section
variable {cs:CsM} {c0:Cor}
theorem OkCs.single (h:OkCs cs c0) {x:Cor} (hx:x ∈ preC c0):singleM x = true:=(Ad0 h.chk).2 x hx
theorem OkCs.sub (_:OkCs cs c0) {x y:Cor} (hx:x ∈ preC c0) (hy:y ∈ preC x):y ∈ preC c0:=pre_sub c0 x hx y hy
theorem OkCs.kid (h:OkCs cs c0) {x y:Cor} (hx:x ∈ preC c0) (hy:y ∈ corL x):y ∈ preC c0:=h.sub hx (A21 hy)
theorem OkCs.free (h:OkCs cs c0) {x:Cor} (hx:x ∈ preC c0):∀ v,v ∈ freeV x ↔ Fv v x:=by
 obtain ⟨_,a,b⟩:=Ah3 h.chk hx
 rw [b]
 exact a
theorem OkCs.pfit (h:OkCs cs c0) {x:Cor} (hx:x ∈ preC c0):x.fits:=pre_fitC c0 h.fit x hx
theorem Apw:∀ (l:List Cor) (acc:List Int) (n:Int),n ∈ l.foldl putS acc ↔ n ∈ acc ∨ ∃ x ∈ l,setOf x = some n
 | [],acc,n => by simp
 | c :: l,acc,n => by
  rw [List.foldl_cons,Apw l]
  have:n ∈ putS acc c ↔ n ∈ acc ∨ setOf c = some n:=by
   unfold putS
   cases hc:setOf c with
   | none => simp
   | some k =>
    simp only [Ac0,Option.some.injEq]
    exact ⟨fun q => q.imp id Eq.symm,fun q => q.imp id Eq.symm⟩
  rw [this]
  simp only [List.mem_cons,exists_eq_or_imp,or_assoc]
theorem OkCs.set (h:OkCs cs c0) {N:Int} {S:List UInt8} {D:Dat} {P:List Int} {L:List Cor} (hx:Cor.mk 4 N S D P L ∈ preC c0):N ∈ cs.boxed:=by
 rw [h.boxed]
 unfold setV setsM
 rw [Apu,Apw,Ap7 h.chk]
 exact .inr ⟨_,hx,by simp [setOf]⟩
end
def BoxAt (a:ArM) (v:Val):Prop:=∃ (i:Nat) (c:CeM),v = (7,(i:Int)) ∧ a.cells[i]? = some c ∧ c.k = 4
def GrowK (a b:ArM):Prop:=∀ (i:Nat) (c:CeM),a.cells[i]? = some c → ∃ d,b.cells[i]? = some d ∧ d.k = c.k
theorem GrowK.refl (a:ArM):GrowK a a:=fun _ c h => ⟨c,h,rfl⟩
theorem GrowK.trans {a b c:ArM} (h:GrowK a b) (k:GrowK b c):GrowK a c:=fun i x hx => by
 obtain ⟨y,hy,e⟩:=h i x hx
 obtain ⟨z,hz,f⟩:=k i y hy
 exact ⟨z,hz,f.trans e⟩
theorem BoxAt.grow {a b:ArM} {v:Val} (h:BoxAt a v) (g:GrowK a b):BoxAt b v:=by
 obtain ⟨i,c,e,hc,hk⟩:=h
 obtain ⟨d,hd,e2⟩:=g i c hc
 exact ⟨i,d,e,hd,e2.trans hk⟩
def NoPrim (l:List Val):Prop:=∀ v ∈ l,v.1 ≠ 6
theorem NoPrim.app {l r:List Val} (h:NoPrim l) (k:NoPrim r):NoPrim (l ++ r):=fun v hv => by
 rcases List.mem_append.1 hv with hv | hv
 ·exact h v hv
 ·exact k v hv
theorem NoPrim.one {v:Val} (h:v.1 ≠ 6):NoPrim [v]:=fun w hw => by rw [List.mem_singleton.1 hw]; exact h
theorem NoPrim.drop {l:List Val} (h:NoPrim l) (n:Nat):NoPrim (l.drop n):=fun v hv => h v (List.mem_of_mem_drop hv)
theorem NoPrim.take {l:List Val} (h:NoPrim l) (n:Nat):NoPrim (l.take n):=fun v hv => h v (List.mem_of_mem_take hv)
theorem NoPrim.at {l:List Val} (h:NoPrim l) (n:Nat):(atV l n).1 ≠ 6:=by
 unfold atV
 rw [List.getD_eq_getElem?_getD]
 cases hi:l[n]? with
 | none => simp
 | some v => exact h v (List.mem_of_getElem? hi)
def ProcK (cs:CsM) (a:ArM) (c:CeM):Prop:=0 ≤ c.n ∧ ∀ lam,1 ≤ c.n → cs.lam[(c.n - 1).toNat]? = some lam → c.a.length = (freeV lam).length ∧ ∀ (i:Nat) v x,(freeV lam)[i]? = some v → v ∈ cs.boxed → c.a[i]? = some x → BoxAt a x
structure OkCellK (cs:CsM) (a:ArM) (c:CeM):Prop where
 small:c.a.length ≤ 4096 ∧ c.s.length ≤ 4096
 kind:kindM c = true
 low:c.k ≤ 5
 proc:c.k = 5 → ProcK cs a c
 vals:NoPrim c.a
def NiceK (cs:CsM) (a:ArM):Prop:=∀ c ∈ a.cells,OkCellK cs a c
theorem ProcK.grow {cs:CsM} {a b:ArM} {c:CeM} (h:ProcK cs a c) (g:GrowK a b):ProcK cs b c:=⟨h.1,fun lam h1 h2 => ⟨(h.2 lam h1 h2).1,fun i v x h3 h4 h5 => ((h.2 lam h1 h2).2 i v x h3 h4 h5).grow g⟩⟩
theorem OkCellK.grow {cs:CsM} {a b:ArM} {c:CeM} (h:OkCellK cs a c) (g:GrowK a b):OkCellK cs b c:=⟨h.small,h.kind,h.low,fun q => (h.proc q).grow g,h.vals⟩
theorem NiceK.small {cs:CsM} {a:ArM} (h:NiceK cs a):Small a:=fun c hc => (h c hc).small
theorem NiceK.pairs {cs:CsM} {a:ArM} (h:NiceK cs a):Pairs a:=fun c hc h1 => by
 obtain ⟨x,y,e⟩:=A1z (h c hc).kind h1
 exact ⟨x,y,by rw [e]⟩
theorem Aus (a:ArM) (c:CeM):GrowK a (pushM a c):=fun i d h => ⟨d,by simp only [pushM]; rw [List.getElem?_append_left (List.getElem?_eq_some_iff.1 h).1,h],rfl⟩
theorem Aem (a:ArM) (c:CeM):GrowK a (allocM a c).1:=by
 unfold allocM
 split
 ·split
  ·exact .refl a
  ·exact Aus a c
 ·exact .refl a
theorem Abz {cs:CsM} {a:ArM} {c:CeM} (h:NiceK cs a) (hk:c.k ≤ 5) (h5:c.k = 5 → ProcK cs a c) (hv:NoPrim c.a):NiceK cs (allocM a c).1 ∧ (allocM a c).2.1.1 ≠ 6:=by
 have g:=Aem a c
 unfold allocM at g ⊢
 split
 ·rename_i hf
  rw [if_pos hf] at g
  split
  ·exact ⟨h,by simp⟩
  ·rename_i hr
   rw [if_neg hr] at g
   refine ⟨fun d hd => ?_,by simp⟩
   simp only [pushM,List.mem_append,List.mem_singleton] at hd
   rcases hd with hd | rfl
   ·exact (h d hd).grow g
   ·simp [fitsM] at hf
    exact ⟨⟨by omega,by omega⟩,hf.2.2.2.2,hk,fun q => (h5 q).grow g,hv⟩
 ·exact ⟨h,by simp⟩
theorem Av8 {a:ArM} {x:List Val} (h:(allocM a ⟨4,0,x,[]⟩).2.2 = 0):BoxAt (allocM a ⟨4,0,x,[]⟩).1 (allocM a ⟨4,0,x,[]⟩).2.1:=by
 unfold allocM at h ⊢
 split at h
 ·rename_i hf
  rw [if_pos hf]
  split at h
  ·cases h
  ·rename_i hr
   rw [if_neg hr]
   exact ⟨a.cells.length,⟨4,0,x,[]⟩,rfl,by simp [pushM],rfl⟩
 ·cases h
theorem Auh {cs:CsM} {a:ArM} (h:NiceK cs a) (s:List UInt8):NiceK cs (symM a s).1 ∧ (symM a s).2.1.1 ≠ 6:=by
 unfold symM
 split
 ·split
  ·exact ⟨h,by simp⟩
  ·split
   ·exact ⟨h,by simp⟩
   ·exact ⟨fun c hc => (h c hc).grow (b:=⟨a.room,a.cells,a.names ++ [s]⟩) fun i c hc => ⟨c,hc,rfl⟩,by simp⟩
 ·exact ⟨h,by simp⟩
theorem Ajx {cs:CsM}:∀ (n:Nat) (d:Dat),d.size ≤ n → ∀ a,NiceK cs a → NiceK cs (makeM d a).1 ∧ (makeM d a).2.1.1 ≠ 6
 | 0,d,hs => by cases d; simp [Dat.size] at hs
 | n + 1,.mk K N S M L T,hs => by
  intro a ha
  rw [Dat.size] at hs
  have ih:=Ajx (cs:=cs) n
  rw [makeM]
  split
  ·rename_i h
   exact ⟨ha,by simp only; omega⟩
  split
  ·exact Auh ha S
  split
  ·exact Abz ha (by simp) (by simp) (by simp [NoPrim])
  split
  ·have hv:∀ (l:List Dat),(∀ d ∈ l,d ∈ L) → ∀ a,NiceK cs a → NiceK cs (vecM l a).1 ∧ ∀ v ∈ (vecM l a).2.1,v.1 ≠ 6:=by
    intro l
    induction l with
    | nil => intro _ a ha; exact ⟨ha,by simp [vecM]⟩
    | cons d l ihl =>
     intro hl a ha
     have hsz:=Abj (hl d (by simp))
     have hd:=ih d (by omega) a ha
     rw [vecM]
     split
     ·exact ⟨hd.1,by simp⟩
     ·obtain ⟨e1,e2⟩:=ihl (fun x hx => hl x (by simp [hx])) _ hd.1
      refine ⟨e1,fun v hv => ?_⟩
      simp only [List.mem_cons] at hv
      rcases hv with rfl | hv
      ·exact hd.2
      ·exact e2 v hv
   obtain ⟨e1,e2⟩:=hv L (fun _ h => h) a ha
   split
   ·exact ⟨e1,by simp⟩
   ·exact Abz e1 (by simp) (by simp) e2
  ·have hr0:NiceK cs (if K = 7 then tailM T a else (a,(4,0),0)).1 ∧ (if K = 7 then tailM T a else (a,(4,0),0)).2.1.1 ≠ 6:=by
    split
    ·cases T with
     | nil => exact ⟨ha,by simp [tailM]⟩
     | cons t T =>
      rw [tailM]
      rw [sizes] at hs
      exact ih t (by omega) a ha
    ·exact ⟨ha,by simp⟩
   generalize (if K = 7 then tailM T a else (a,(4,0),0)) = r at hr0
   have hv:∀ (l:List Dat),(∀ d ∈ l,d ∈ L) → NiceK cs (lstM l r).1 ∧ (lstM l r).2.1.1 ≠ 6:=by
    intro l
    induction l with
    | nil => intro _; exact hr0
    | cons d l ihl =>
     intro hl
     have hq:=ihl (fun x hx => hl x (by simp [hx]))
     have hsz:=Abj (hl d (by simp))
     have hd:=ih d (by omega) _ hq.1
     rw [lstM]
     split
     ·exact hq
     ·split
      ·exact ⟨hd.1,hq.2⟩
      ·refine Abz hd.1 (by simp) (by simp) fun v hv => ?_
       simp only [List.mem_cons,List.not_mem_nil,or_false] at hv
       rcases hv with rfl | rfl
       ·exact hd.2
       ·exact hq.2
   have hL:=hv L fun _ h => h
   split
   ·exact ⟨hL.1,by simp⟩
   ·exact hL
theorem Ayo {cs:CsM} {a:ArM} (h:NiceK cs a) (d:Dat):NiceK cs (ofM d a).1 ∧ (ofM d a).2.1.1 ≠ 6:=by
 unfold ofM
 split
 ·exact Ajx d.size d (Nat.le_refl _) a h
 ·exact ⟨h,by simp⟩
theorem Ama {cs:CsM} {a:ArM} {c:CeM} {k:Int} (h:NiceK cs a) (hk:c.k < 5) (hv:NoPrim c.a):NiceK cs (allocC a k c).2.1 ∧ (allocC a k c).1.1 ≠ 6 ∧ GrowK a (allocC a k c).2.1:=by
 have:=Abz (c:=c) h (by omega) (by omega) hv
 have g:=Aem a c
 unfold allocC
 split
 ·exact ⟨h,by simp,.refl a⟩
 ·split
  ·exact ⟨this.1,by simp,g⟩
  ·exact ⟨this.1,this.2,g⟩
theorem Ah9 {cs:CsM} {a:ArM} {k:Int} (h:NiceK cs a):∀ l:List Val,NoPrim l → NiceK cs (aheadM a k (4,0) l).2.1 ∧ (aheadM a k (4,0) l).1.1 ≠ 6 ∧ GrowK a (aheadM a k (4,0) l).2.1
 | [],_ => ⟨h,by simp [aheadM],.refl a⟩
 | x :: l,hl => by
  obtain ⟨e1,e2,e3⟩:=Ah9 (k:=k) h l fun v hv => hl v (by simp [hv])
  rw [aheadM]
  obtain ⟨f1,f2,f3⟩:=Ama (c:=⟨1,0,[x,(aheadM a k (4,0) l).1],[]⟩) (k:=(aheadM a k (4,0) l).2.2) e1 (by simp) fun v hv => by
   simp only [List.mem_cons,List.not_mem_nil,or_false] at hv
   rcases hv with rfl | rfl
   ·exact hl _ (by simp)
   ·exact e2
  exact ⟨f1,f2,e3.trans f3⟩
theorem Arr {cs:CsM} {a:ArM} (h:NiceK cs a) (l:List Val) (hl:NoPrim l):NiceK cs (restM a l).2.1 ∧ (restM a l).1.1 ≠ 6 ∧ GrowK a (restM a l).2.1:=by
 obtain ⟨e1,e2,e3⟩:=Ah9 (k:=0) h l hl
 unfold restM doM
 split
 ·exact ⟨h,by simp,.refl a⟩
 split
 ·exact ⟨h,by simp,.refl a⟩
 split
 ·exact ⟨h,by simp,.refl a⟩
 split
 ·exact ⟨h,by simp,.refl a⟩
 split
 ·exact ⟨e1,by simp,e3⟩
 ·exact ⟨e1,e2,e3⟩
theorem Ah8 {cs:CsM} {a:ArM} (h:NiceK cs a) {v:Val} (hk:(getM a v).1.k ≠ 0):∃ i:Nat,v = (7,(i:Int)) ∧ a.cells[i]? = some (getM a v).1 ∧ OkCellK cs a (getM a v).1:=by
 unfold getM at hk ⊢
 cases hi:ixM a v with
 | none => rw [hi] at hk; exact absurd rfl hk
 | some i =>
  obtain ⟨hv,c,hc⟩:=Adi hi
  simp only [List.getD_eq_getElem?_getD,hc,Option.getD_some]
  exact ⟨i,hv,hc,h c (List.mem_of_getElem? hc)⟩
theorem BoxAt.get {cs:CsM} {a:ArM} (hn:NiceK cs a) {v:Val} (h:BoxAt a v):∃ (i:Nat) (x:Val),v = (7,(i:Int)) ∧ a.cells[i]? = some (getM a v).1 ∧ (getM a v).2 = 0 ∧ (getM a v).1.k = 4 ∧ (getM a v).1.a = [x] ∧ x.1 ≠ 6:=by
 obtain ⟨i,c,rfl,hc,hk⟩:=h
 have hg:getM a (7,(i:Int)) = (c,0):=A50 hc
 rw [hg]
 have ok:=hn c (List.mem_of_getElem? hc)
 have hkd:=ok.kind
 unfold kindM at hkd
 simp [hk] at hkd
 obtain ⟨x,hx⟩:=List.length_eq_one_iff.1 hkd.2.2
 exact ⟨i,x,rfl,hc,rfl,hk,hx,ok.vals x (by rw [hx]; simp)⟩
theorem Aui {cs:CsM} {a:ArM} {p:Nat} {c:CeM} (h:NiceK cs a) (hc:a.cells[p]? = some c) (hk:c.k ≠ 5) {x:Val} (hx:x.1 ≠ 6):NiceK cs (putA a p c 0 x) ∧ GrowK a (putA a p c 0 x):=by
 have g:GrowK a (putA a p c 0 x):=by
  intro i d hd
  simp only [putA]
  by_cases e:i = p
  ·subst e
   rw [hc] at hd
   cases hd
   have hlt:=(List.getElem?_eq_some_iff.1 hc).1
   exact ⟨_,List.getElem?_set_self hlt,rfl⟩
  ·exact ⟨d,by rw [List.getElem?_set_ne (fun q => e q.symm)]; exact hd,rfl⟩
 refine ⟨?_,g⟩
 intro d hd
 simp only [putA] at hd
 rcases List.mem_or_eq_of_mem_set hd with hd | rfl
 ·exact (h d hd).grow g
 ·have ok:=h c (List.mem_of_getElem? hc)
  refine ⟨by simpa using ok.small,?_,ok.low,fun h5 => absurd h5 hk,fun v hv => ?_⟩
  ·have:=ok.kind
   simpa [kindM] using this
  ·rcases List.mem_or_eq_of_mem_set hv with hv | rfl
   ·exact ok.vals v hv
   ·exact hx
def NoPrimE (e:EnvM):Prop:=∀ n,(getE e n).1 ≠ 6
def EnvK (cs:CsM) (a:ArM) (e:EnvM) (c:Cor):Prop:=∀ v,Fv v c → v ∈ cs.boxed → BoxAt a (getE e v)
def WtK (cs:CsM) (c0:Cor) (a:ArM) (e:EnvM):WtM → Prop
 | .branch c => c ∈ preC c0 ∧ corK c = 7 ∧ EnvK cs a e c
 | .seq l => l ≠ [] ∧ l.length ≤ 300 ∧ ∀ x ∈ l,x ∈ preC c0 ∧ EnvK cs a e x
 | .set n => BoxAt a (getE e n)
 | .glob _ _ => True
 | .call l d => l.length + d.length + 1 ≤ 300 ∧ NoPrim d ∧ ∀ x ∈ l,x ∈ preC c0 ∧ EnvK cs a e x
def FrK (cs:CsM) (c0:Cor) (a:ArM) (f:KfM):Prop:=NoPrimE f.e ∧ WtK cs c0 a f.e f.w
structure NowK (cs:CsM) (c0:Cor) (t:CkM):Prop where
 here:t.atv = false → t.c ∈ preC c0 ∧ EnvK cs t.ar t.e t.c ∧ NoPrimE t.e
 val:t.atv = true → t.v.1 ≠ 6
 fs:∀ f ∈ t.fs,FrK cs c0 t.ar f
structure SafeK (cs:CsM) (c0:Cor) (t:CkM):Prop where
 nice:NiceK cs t.ar
 run:t.status = 1 → NowK cs c0 t
 deep:t.fs.length ≤ t.steps
theorem Acx (v:Val):∀ (l:EnvM) (k j:Int),getE (putE l k v) j = if j = k then v else getE l j
 | [],k,j => by
  simp only [putE,getE]
  by_cases e:k = j
  ·subst e; simp
  ·rw [if_neg e,if_neg (fun h => e h.symm)]
 | x :: l,k,j => by
  simp only [putE]
  by_cases e:x.1 = k
  ·simp only [e,if_true,getE]
   by_cases e2:k = j
   ·subst e2; simp
   ·simp [e2,Ne.symm e2]
  ·simp only [e,if_false,getE,Acx v l k j]
   by_cases e2:x.1 = j
   ·have:¬ j = k:=fun h => e (e2.trans h)
    simp [e2,this]
   ·simp [e2]
theorem Ap3 (Q:Int → Val → Prop):∀ (ks:List Int) (vs:List Val) (e:EnvM) (k:Int),(∀ (i:Nat) v,ks[i]? = some k → vs[i]? = some v → Q k v) → ks.length ≤ vs.length → (k ∈ ks ∨ Q k (getE e k)) → Q k (getE (putsE e ks vs) k)
 | [],vs,e,k,_,_,h => by
  have h:=h.resolve_left (by simp)
  cases vs <;> exact h
 | x :: ks,[],e,k,_,hl,_ => by simp at hl
 | x :: ks,v :: vs,e,k,hq,hl,h => by
  rw [putsE]
  refine Ap3 Q ks vs (putE e x v) k (fun i w h1 h2 => hq (i + 1) w (by simpa using h1) (by simpa using h2)) (by simpa using hl) ?_
  rw [Acx]
  by_cases e1:k = x
  ·subst e1
   right
   rw [if_pos rfl]
   exact hq 0 v rfl rfl
  ·rw [if_neg e1]
   rcases h with h | h
   ·rcases List.mem_cons.1 h with h | h
    ·exact absurd h e1
    ·exact .inl h
   ·exact .inr h
theorem Ah1:∀ (ks:List Int) (vs:List Val) (e:EnvM),NoPrimE e → NoPrim vs → NoPrimE (putsE e ks vs)
 | [],vs,e,h,_ => by cases vs <;> exact h
 | x :: ks,[],e,h,_ => h
 | x :: ks,v :: vs,e,h,hv => by
  rw [putsE]
  refine Ah1 ks vs _ (fun n => ?_) fun w hw => hv w (by simp [hw])
  rw [Acx]
  split
  ·exact hv v (by simp)
  ·exact h n
theorem Ajw:NoPrimE []:=fun n => by simp [getE]
section
variable {cs:CsM} {c0:Cor}
theorem EnvK.grow {a b:ArM} {e:EnvM} {c:Cor} (h:EnvK cs a e c) (g:GrowK a b):EnvK cs b e c:=fun v h1 h2 => (h v h1 h2).grow g
theorem WtK.grow {a b:ArM} {e:EnvM}:∀ {w:WtM},WtK cs c0 a e w → GrowK a b → WtK cs c0 b e w
 | .branch c,h,g => ⟨h.1,h.2.1,h.2.2.grow g⟩
 | .seq l,h,g => ⟨h.1,h.2.1,fun x hx => ⟨(h.2.2 x hx).1,(h.2.2 x hx).2.grow g⟩⟩
 | .set n,h,g => BoxAt.grow h g
 | .glob _ _,_,_ => trivial
 | .call l d,h,g => ⟨h.1,h.2.1,fun x hx => ⟨(h.2.2 x hx).1,(h.2.2 x hx).2.grow g⟩⟩
theorem FrK.grow {a b:ArM} {f:KfM} (h:FrK cs c0 a f) (g:GrowK a b):FrK cs c0 b f:=⟨h.1,h.2.grow g⟩
theorem Ac7 {t:CkM} (h:NiceK cs t.ar):SafeK cs c0 (faultK t):=⟨h,fun q => by simp [faultK] at q,by simp [faultK]⟩
theorem Alu {t:CkM} (h:NiceK cs t.ar) (hd:t.fs.length ≤ t.steps):SafeK cs c0 (wantK t):=⟨h,fun q => by simp [wantK] at q,hd⟩
theorem Ac6 {t:CkM} {v:Val} (h:NiceK cs t.ar) (hd:t.fs.length ≤ t.steps) (hf:∀ f ∈ t.fs,FrK cs c0 t.ar f) (hv:v.1 ≠ 6):SafeK cs c0 (valueK v t) :=
 ⟨h,fun _ => ⟨fun q => by simp [valueK] at q,fun _ => hv,hf⟩,hd⟩
theorem Af2 {t:CkM} {c:Cor} {e:EnvM} (h:NiceK cs t.ar) (hd:t.fs.length ≤ t.steps) (hf:∀ f ∈ t.fs,FrK cs c0 t.ar f) (hc:c ∈ preC c0) (he:EnvK cs t.ar e c) (hn:NoPrimE e):SafeK cs c0 (goK c e t) :=
 ⟨h,fun _ => ⟨fun _ => ⟨hc,he,hn⟩,fun q => by simp [goK] at q,hf⟩,hd⟩
theorem Aql {α:Type} {l:List α} {i:Nat} {d:α} (h:i < l.length):l.getD i d ∈ l:=by
 rw [List.getD_eq_getElem?_getD,List.getElem?_eq_getElem h]
 exact List.getElem_mem h
theorem Ap8 {c:Cor} {i:Nat} (h:i < (corL c).length):partK c i ∈ corL c:=Aql h
theorem OkCs.len (ho:OkCs cs c0) {c:Cor} (hc:c ∈ preC c0):(corK c = 7 → 3 ≤ (corL c).length) ∧ (4 ≤ corK c → 1 ≤ (corL c).length) ∧ 1 ≤ corK c ∧ corK c ≤ 10 ∧ (corK c ≤ 3 → corL c = []):=by
 obtain ⟨K,N,S,D,P,L⟩:=c
 obtain ⟨h1,h2,h3⟩:=Ajg (ho.single hc)
 simp only [corK,corL]
 simp [isK] at h1
 refine ⟨fun e => ?_,fun e => ?_,h1.1,h1.2,fun e => ?_⟩
 ·subst e
  have:leastK 7 = 3:=rfl
  omega
 ·have:1 ≤ leastK K:=by
   unfold leastK
   repeat' split
   all_goals omega
  omega
 ·have:mostK K = 0:=by
   unfold mostK
   repeat' split
   all_goals omega
  have:=h3 (by omega)
  exact List.length_eq_zero_iff.1 (by omega)
theorem Ahw (ho:OkCs cs c0):∀ (P:List Int) (got:List Val) (a:ArM) (e:EnvM),P.length ≤ got.length → NiceK cs a → NoPrim got → NoPrimE e →
  NiceK cs (bindK cs.boxed P got a e).2.1 ∧ GrowK a (bindK cs.boxed P got a e).2.1 ∧ NoPrimE (bindK cs.boxed P got a e).2.2 ∧ ((bindK cs.boxed P got a e).1 = true → ∀ v,v ∈ cs.boxed → (v ∈ P ∨ BoxAt a (getE e v)) → BoxAt (bindK cs.boxed P got a e).2.1 (getE (bindK cs.boxed P got a e).2.2 v))
 | [],got,a,e,_,hn,_,he => by
  refine ⟨hn,.refl a,he,fun _ v _ h => ?_⟩
  exact h.resolve_left (by simp)
 | p :: P,[],a,e,hl,_,_,_ => by simp at hl
 | p :: P,g :: got,a,e,hl,hn,hg,he => by
  have hg1:g.1 ≠ 6:=hg g (by simp)
  have hg2:NoPrim got:=fun v hv => hg v (by simp [hv])
  have he1:NoPrimE (putE e p g):=fun n => by
   rw [Acx]
   split
   ·exact hg1
   ·exact he n
  unfold bindK
  split
  ·rename_i hb
   obtain ⟨n1,n2⟩:=Abz (c:=⟨4,0,[g],[]⟩) hn (by simp) (by simp) (NoPrim.one hg1)
   have gr:=Aem a ⟨4,0,[g],[]⟩
   split
   ·exact ⟨n1,gr,he1,fun q => by cases q⟩
   ·rename_i hz
    have hbx:=Av8 (a:=a) (x:=[g]) (by simpa using hz)
    have he2:NoPrimE (putE (putE e p g) p (allocM a ⟨4,0,[g],[]⟩).2.1):=fun n => by
     rw [Acx]
     split
     ·exact n2
     ·exact he1 n
    obtain ⟨i1,i2,i3,i4⟩:=Ahw ho P got _ _ (by simpa using hl) n1 hg2 he2
    refine ⟨i1,gr.trans i2,i3,fun q v hv h => i4 q v hv ?_⟩
    rw [Acx,Acx]
    by_cases e1:v = p
    ·subst e1
     rw [if_pos rfl]
     exact .inr hbx
    ·rw [if_neg e1,if_neg e1]
     rcases h with h | h
     ·rcases List.mem_cons.1 h with h | h
      ·exact absurd h e1
      ·exact .inl h
     ·exact .inr (h.grow gr)
  ·rename_i hb
   obtain ⟨i1,i2,i3,i4⟩:=Ahw ho P got a _ (by simpa using hl) hn hg2 he1
   refine ⟨i1,i2,i3,fun q v hv h => i4 q v hv ?_⟩
   rw [Acx]
   by_cases e1:v = p
   ·subst e1; exact absurd hv hb
   ·rw [if_neg e1]
    rcases h with h | h
    ·rcases List.mem_cons.1 h with h | h
     ·exact absurd h e1
     ·exact .inl h
    ·exact .inr h
theorem A3i {a:ArM} (hn:NiceK cs a) (c:Cor) {l:List Val} (hl:NoPrim l) (h1:fixK c ≤ l.length) (h2:corN c = 1 ∨ corN c = 0) (h3:corN c ≤ (corP c).length):NiceK cs (gotK c l a).2.2 ∧ GrowK a (gotK c l a).2.2 ∧ NoPrim (gotK c l a).2.1 ∧ (gotK c l a).2.1.length = (corP c).length:=by
 unfold gotK
 unfold fixK at h1
 split
 ·rename_i h
  obtain ⟨e1,e2,e3⟩:=Arr hn (l.drop (fixK c)) (hl.drop _)
  refine ⟨e1,e3,(hl.take _).app (.one e2),?_⟩
  simp [fixK]
  omega
 ·refine ⟨hn,.refl a,hl.take _,?_⟩
  simp [fixK]
  omega
theorem Arb (ho:OkCs cs c0) {t:CkM} (h:NiceK cs t.ar) (hd:t.fs.length ≤ t.steps) (hf:∀ f ∈ t.fs,FrK cs c0 t.ar f) {c:Cor} (hc:c ∈ preC c0) (hk:corK c = 8) {caps l:List Val} (hcp:NoPrim caps) (hlen:caps.length = (freeV c).length) (hbx:∀ (i:Nat) v x,(freeV c)[i]? = some v → v ∈ cs.boxed → caps[i]? = some x → BoxAt t.ar x) (hl:NoPrim l):SafeK cs c0 (enterK cs c caps l t):=by
 have hfv:=ho.free hc
 have hs:=ho.single hc
 unfold enterK
 split
 ·exact Ac7 h
 rename_i h1
 obtain ⟨K,N,S,D,P,L⟩:=c
 have hk:K = 8:=hk
 subst hk
 obtain ⟨s1,s2,s3,s4,b,rfl⟩:=Ajh hs
 obtain ⟨g1,g2,g3,g4⟩:=A3i h (.mk 8 N S D P [b]) hl (by omega) (by simp only [corN]; omega) s3
 split
 ·exact Ac7 (t:={ t with ar:=_ }) g1
 obtain ⟨i1,i2,i3,i4⟩:=Ahw ho P (gotK (.mk 8 N S D P [b]) l t.ar).2.1 (gotK (.mk 8 N S D P [b]) l t.ar).2.2 (putsE [] (freeV (.mk 8 N S D P [b])) caps) (Nat.le_of_eq g4.symm) g1 g3 (Ah1 _ _ _ Ajw hcp)
 split
 ·exact Ac7 (t:={ t with ar:=_ }) i1
 rename_i hz
 have hz:(bindK cs.boxed P (gotK (.mk 8 N S D P [b]) l t.ar).2.1 (gotK (.mk 8 N S D P [b]) l t.ar).2.2 (putsE [] (freeV (.mk 8 N S D P [b])) caps)).1 = true:=by simpa [corP] using hz
 have hgr:=g2.trans i2
 refine Af2 (t:={ t with ar:=_ }) i1 hd (fun f q => (hf f q).grow hgr) (ho.kid hc (y:=b) (by simp [corL])) (fun v hv hvb => i4 hz v hvb ?_) i3
 rcases A57 (K:=8) (N:=N) (S:=S) (D:=D) (P:=P) (L:=[b]) (x:=b) (by simp) (v:=v) hv with q | q
 ·exact .inl q
 ·right
  refine Ap3 (fun k x => BoxAt _ x) (freeV (.mk 8 N S D P [b])) caps [] v (fun i x h1 h2 => (hbx i v x h1 hvb h2).grow g2) (by omega) (.inl ((hfv v).2 q))
theorem Ard (ho:OkCs cs c0) {t:CkM} (h:NiceK cs t.ar) (hd:t.fs.length ≤ t.steps) (hf:∀ f ∈ t.fs,FrK cs c0 t.ar f) (f:Val) {l:List Val} (hl:NoPrim l):SafeK cs c0 (applyK cs f l t):=by
 unfold applyK
 split
 ·rename_i hc
  obtain ⟨h1,h2,h3,h4⟩:=hc
  obtain ⟨i,hv,hcell,ok⟩:=Ah8 h (v:=f) (by omega)
  obtain ⟨p1,p2⟩:=ok.proc h2
  have hlt:((getM t.ar f).1.n - 1).toNat < cs.lam.length:=by omega
  have hg:cs.lam[((getM t.ar f).1.n - 1).toNat]? = some (cs.lam.getD ((getM t.ar f).1.n - 1).toNat cor0):=by rw [List.getD_eq_getElem?_getD,List.getElem?_eq_getElem hlt]; rfl
  obtain ⟨q1,q2⟩:=p2 _ h3 hg
  obtain ⟨m1,m2⟩:=ho.lam _ (List.mem_of_getElem? hg)
  exact Arb ho h hd hf m1 m2 ok.vals q1 q2 hl
 ·exact Ac7 h
theorem Arc (ho:OkCs cs c0) {t:CkM} (h:NiceK cs t.ar) (hd:t.fs.length ≤ t.steps) (hf:∀ f ∈ t.fs,FrK cs c0 t.ar f) {c:Cor} (hc:c ∈ preC c0) (he:EnvK cs t.ar t.e c) (hn:NoPrimE t.e):SafeK cs c0 (closeK cs c t):=by
 have hp:ProcK cs t.ar (cellK cs t.e c):=by
  refine ⟨?_,fun lam h1 h2 => ?_⟩
  ·simp only [cellK,lamN]
   split <;> omega
  ·have hs:sameC lam c = true:=by
    simp only [cellK,lamN] at h1 h2
    split at h1
    ·rename_i i hi
     rw [hi] at h2
     rw [List.findIdx?_eq_some_iff_getElem] at hi
     obtain ⟨hlt,hs,_⟩:=hi
     have:((i:Int) + 1 - 1).toNat = i:=by omega
     simp only [this,List.getElem?_eq_getElem hlt,Option.some.injEq] at h2
     rw [← h2]
     exact hs
    ·omega
   have hl:=(ho.lam lam (List.mem_of_getElem? h2)).1
   have e:=Atn hs (fun x hx => ho.single (ho.sub hl hx)) (fun x hx => ho.single (ho.sub hc hx))
   rw [e]
   refine ⟨by simp [cellK],fun i v x h3 h4 h5 => ?_⟩
   simp only [cellK,List.getElem?_map,h3,Option.map_some,Option.some.injEq] at h5
   subst h5
   exact he v ((ho.free hc v).1 (List.mem_of_getElem? h3)) h4
 obtain ⟨n1,n2⟩:=Abz (c:=cellK cs t.e c) h (by simp [cellK]) (fun _ => hp) (fun v hv => by
  simp only [cellK,List.mem_map] at hv
  obtain ⟨n,_,rfl⟩:=hv
  exact hn n)
 have g:=Aem t.ar (cellK cs t.e c)
 unfold closeK
 split
 ·exact Ac7 (t:={ t with ar:=_ }) n1
 ·exact Ac6 (t:={ t with ar:=_ }) n1 hd (fun f q => (hf f q).grow g) n2
theorem Ara (ho:OkCs cs c0) {t:CkM} (h:NiceK cs t.ar) {N:Int} {S:List UInt8} {D:Dat} {P:List Int} {L:List Cor} (he:EnvK cs t.ar t.e (.mk 2 N S D P L)) (hn:NoPrimE t.e):(looksK cs t N).1 ≠ 6:=by
 unfold looksK
 split
 ·rename_i hb
  obtain ⟨i,x,_,_,_,_,e,hx⟩:=(he N (by rw [Fv]; exact .inl ⟨.inl rfl,rfl⟩) hb).get h
  rw [e]
  exact hx
 ·exact hn N
theorem Ato (ho:OkCs cs c0) {t:CkM} (h:NiceK cs t.ar) (hd:t.fs.length + 1 ≤ t.steps) (hf:∀ f ∈ t.fs,FrK cs c0 t.ar f) (hc:t.c ∈ preC c0) (he:EnvK cs t.ar t.e t.c) (hn:NoPrimE t.e):SafeK cs c0 (ctrlK cs t t.c):=by
 obtain ⟨l1,l2,l3,l4,l5⟩:=ho.len hc
 have hs:=ho.single hc
 have hfew:=ho.few _ hc
 generalize hcc:t.c = c at hc he l1 l2 l3 l4 l5 hs hfew
 obtain ⟨K,N,S,D,P,L⟩:=c
 simp only [corK,corL] at l1 l2 l3 l4 l5 hfew
 simp only [ctrlK]
 split
 ·rename_i hk
  subst hk
  refine Ac6 h (by omega) hf ?_
  obtain ⟨i,y,h1,h2⟩:=ho.consts N S D P L hc
  simp only [h1,Option.getD_some,List.getD_eq_getElem?_getD,h2]
  exact ho.cval y (List.mem_of_getElem? h2)
 split
 ·rename_i hk
  subst hk
  exact Ac6 h (by omega) hf (Ara ho h he hn)
 split
 ·exact Alu h (by omega)
 split
 ·rename_i hk
  exact Arc ho h (by omega) hf hc he hn
 rename_i k1 k2 k3 k8
 have hl:1 ≤ L.length:=l2 (by omega)
 have kid:∀ x ∈ L,x ∈ preC c0 ∧ EnvK cs t.ar t.e x:=fun x hx => ⟨ho.kid hc hx,fun v hv hb => he v (A16 hs (by simpa [corK] using k8) hx hv) hb⟩
 have p0:partK (.mk K N S D P L) 0 ∈ L:=Ap8 (c:=.mk K N S D P L) (by show 0 < L.length; omega)
 have push:∀ (w:WtM),WtK cs c0 t.ar t.e w → SafeK cs c0 (goK (partK (.mk K N S D P L) 0) t.e (pushK w t.e t)):=fun w hw => by
  refine Af2 (t:=pushK w t.e t) h (by simpa [pushK] using hd) (fun f q => ?_) (kid _ p0).1 (kid _ p0).2 hn
  rcases List.mem_cons.1 q with rfl | q
  ·exact ⟨hn,hw⟩
  ·exact hf f q
 simp only [waitK]
 split
 ·rename_i hk
  exact push (.branch (.mk K N S D P L)) ⟨hc,hk,he⟩
 split
 ·rename_i hk
  subst hk
  refine push (.set N) ?_
  exact he N (by rw [Fv]; exact .inl ⟨.inr rfl,rfl⟩) (ho.set hc)
 split
 ·exact push (.glob 2 S) trivial
 split
 ·exact push (.glob 3 S) trivial
 split
 ·refine push (.call (L.drop 1) []) ⟨by simp; omega,by simp [NoPrim],fun x hx => kid x (List.mem_of_mem_drop hx)⟩
 split
 ·rename_i hk
  refine push (.seq (L.drop 1)) ⟨fun q => ?_,by simp; omega,fun x hx => kid x (List.mem_of_mem_drop hx)⟩
  have:=congrArg List.length q
  simp at this
  omega
 ·exact Af2 h (by omega) hf (kid _ p0).1 (kid _ p0).2 hn
theorem Atp (ho:OkCs cs c0) {t:CkM} {f:KfM} (h:NiceK cs t.ar) (hd:t.fs.length + 1 ≤ t.steps) (hf:∀ g ∈ t.fs,FrK cs c0 t.ar g) (hfk:FrK cs c0 t.ar f) (hv:t.v.1 ≠ 6):SafeK cs c0 (backK cs f t):=by
 obtain ⟨w,e⟩:=f
 obtain ⟨hn,hw⟩:=hfk
 have push:∀ (w:WtM) (x:Cor),WtK cs c0 t.ar e w → x ∈ preC c0 → EnvK cs t.ar e x → SafeK cs c0 (goK x e (pushK w e t)):=fun w x hw hx hex => by
  refine Af2 (t:=pushK w e t) h (by simpa [pushK] using hd) (fun f q => ?_) hx hex hn
  rcases List.mem_cons.1 q with rfl | q
  ·exact ⟨hn,hw⟩
  ·exact hf f q
 unfold backK
 cases w with
 | branch c =>
  obtain ⟨h1,h2,h3⟩:=hw
  have hl:=(ho.len h1).1 h2
  have hp:partK c (if t.v = (2,0) then 2 else 1) ∈ corL c:=Ap8 (by split <;> omega)
  exact Af2 h (by omega) hf (ho.kid h1 hp) (fun v hv hb => h3 v (A16 (ho.single h1) (by omega) hp hv) hb) hn
 | seq l =>
  obtain ⟨h1,h2,h3⟩:=hw
  have hl:0 < l.length:=List.length_pos_iff.2 h1
  have hp:l.getD 0 cor0 ∈ l:=Aql hl
  show SafeK cs c0 (goK (l.getD 0 cor0) e (if 1 < l.length then pushK (.seq (l.drop 1)) e t else t))
  split
  ·rename_i hg
   refine push _ _ ⟨fun q => ?_,by simp; omega,fun x hx => h3 x (List.mem_of_mem_drop hx)⟩ (h3 _ hp).1 (h3 _ hp).2
   have:=congrArg List.length q
   simp at this
   omega
  ·exact Af2 h (by omega) hf (h3 _ hp).1 (h3 _ hp).2 hn
 | set n =>
  obtain ⟨i,x,e1,e2,e3,e4,e5,e6⟩:=BoxAt.get h hw
  show SafeK cs c0 (valueK (2,0) { t with ar:=if goodM t.ar t.v = true then putA t.ar (getE e n).2.toNat (getM t.ar (getE e n)).1 0 t.v else t.ar })
  split
  ·have hi:(getE e n).2.toNat = i:=by rw [e1]; simp
   obtain ⟨n1,n2⟩:=Aui (x:=t.v) h e2 (by omega) hv
   rw [hi]
   exact Ac6 (t:={ t with ar:=_ }) n1 (by show t.fs.length ≤ t.steps; omega) (fun f q => (hf f q).grow n2) (by simp)
  ·exact Ac6 (t:={ t with ar:=t.ar }) h (by show t.fs.length ≤ t.steps; omega) hf (by simp)
 | glob o s => exact Alu h (by omega)
 | call l d =>
  obtain ⟨h1,h2,h3⟩:=hw
  cases l with
  | nil => exact Ard ho h (by omega) hf _ ((h2.app (.one hv)).drop 1)
  | cons x r =>
   refine push _ _ ⟨by simp at h1 ⊢; omega,h2.app (.one hv),fun y hy => h3 y (by simp [hy])⟩ (h3 x (by simp)).1 (h3 x (by simp)).2
theorem Are (ho:OkCs cs c0) {t:CkM} (h:SafeK cs c0 t) (h1:t.status = 1):SafeK cs c0 (stepK cs t):=by
 obtain ⟨a,b,c⟩:=h.run h1
 have hd:=h.deep
 unfold stepK
 split
 ·rename_i hv
  obtain ⟨a1,a2,a3⟩:=a hv
  exact Ato ho (t:={ t with steps:=t.steps + 1 }) h.nice (by show t.fs.length + 1 ≤ t.steps + 1; omega) c a1 a2 a3
 ·rename_i hv
  have hv:t.atv = true:=by simpa using hv
  split
  ·rename_i hfs
   refine ⟨h.nice,fun q => by simp at q,?_⟩
   show t.fs.length ≤ t.steps + 1
   omega
  ·rename_i f fs hfs
   rw [hfs] at c hd
   exact Atp ho (t:={ t with steps:=t.steps + 1,fs:=fs }) h.nice (by simp only [List.length_cons] at hd; show fs.length + 1 ≤ t.steps + 1; omega) (fun g q => c g (by simp [q])) (c f (by simp)) (b hv)
theorem Ahx (ho:OkCs cs c0):∀ (n:Nat) {t:CkM},SafeK cs c0 t → SafeK cs c0 (runK cs n t)
 | 0,t,h => h
 | n + 1,t,h => by
  rw [runK]
  split
  ·rename_i h1
   exact Ahx ho n (Are ho h h1)
  ·exact h
end
structure NwM where
 lam:List Cor
 con:List (Dat × Val)
 ar:ArM
 err:Int
noncomputable def putN (s:NwM):Cor → NwM
 | .mk K N S D P L =>
  if s.err ≠ 0 then s else
  if K = 8 then { s with lam:=s.lam ++ [.mk K N S D P L] } else
  if K = 1 then
   if (findK s.con D).isSome = true then s
   else if (ofM D s.ar).2.2 ≠ 0 then { s with ar:=(ofM D s.ar).1,err:=(ofM D s.ar).2.2 }
   else { s with ar:=(ofM D s.ar).1,con:=s.con ++ [(D,(ofM D s.ar).2.1)] }
  else s
noncomputable def newN (a:ArM) (l:List Cor):NwM:=l.foldl putN ⟨[],[],a,0⟩
theorem Amb (a:ArM) (l:List Cor) (x:Cor):newN a (l ++ [x]) = putN (newN a l) x:=by simp [newN]
theorem Aye {s:NwM} (h:s.err ≠ 0) (x:Cor):putN s x = s:=by
 obtain ⟨K,N,S,D,P,L⟩:=x
 simp only [putN]
 rw [if_pos h]
theorem Aqn {s:NwM} (h:s.err ≠ 0):∀ l:List Cor,l.foldl putN s = s
 | [] => rfl
 | x :: l => by rw [List.foldl_cons,Aye h,Aqn h l]
noncomputable def goN (a:ArM) (l:List Cor):Bool:=decide ((newN a l).err = 0)
theorem Aqc (a:ArM):∀ (x l:List Cor),newN a (visC (goN a) l x).1 = newN a (l ++ x)
 | [],l => by simp [visC]
 | x :: xs,l => by
  simp only [visC]
  split
  ·rw [Aqc a xs (l ++ [x])]; simp
  ·rename_i h
   have h:(newN a (l ++ [x])).err ≠ 0:=by simpa [goN] using h
   have e:l ++ x :: xs = (l ++ [x]) ++ xs:=by simp
   rw [e]
   show newN a (l ++ [x]) = ((l ++ [x]) ++ xs).foldl putN _
   rw [List.foldl_append]
   exact (Aqn h xs).symm
theorem Aqq {l:List (Dat × Val)} {d:Dat}:(findK l d).isSome = l.any fun x => sam x.1 d:=by
 unfold findK
 rw [List.findIdx?_isSome]
theorem Azl {l:List (Dat × Val)} {d:Dat} (h:(findK l d).isSome = true):∃ i y,findK l d = some i ∧ l[i]? = some y:=by
 obtain ⟨i,hi⟩:=Option.isSome_iff_exists.1 h
 have:=List.findIdx?_eq_some_iff_getElem.1 hi
 obtain ⟨h1,_⟩:=this
 exact ⟨i,l[i],hi,List.getElem?_eq_getElem h1⟩
structure OkN (cs:CsM) (l:List Cor) (s:NwM):Prop where
 nice:NiceK cs s.ar
 lam:∀ x ∈ s.lam,x ∈ l ∧ corK x = 8
 ll:s.lam.length ≤ l.length
 lc:s.con.length ≤ l.length
 fit:∀ y ∈ s.con,y.1.fits
 val:∀ y ∈ s.con,y.2.1 ≠ 6
 all:s.err = 0 → ∀ N S D P L,Cor.mk 1 N S D P L ∈ l → (findK s.con D).isSome = true
theorem A3a {cs:CsM} {l:List Cor} {s:NwM} (h:OkN cs l s) {x:Cor} (hx:x.fits) (hc:∀ N S D P L,x = .mk 1 N S D P L → chk D = 0):OkN cs (l ++ [x]) (putN s x):=by
 obtain ⟨a1,a2,a3,a4,a5,a6,a7⟩:=h
 have b2:∀ y ∈ s.lam,y ∈ l ++ [x] ∧ corK y = 8:=fun y hy => ⟨by simp [(a2 y hy).1],(a2 y hy).2⟩
 obtain ⟨K,N,S,D,P,L⟩:=x
 simp only [putN]
 split
 ·rename_i e
  exact ⟨a1,b2,by simp; omega,by simp; omega,a5,a6,fun h => absurd h e⟩
 rename_i e
 have e:s.err = 0:=Classical.not_not.1 e
 have old:∀ {con:List (Dat × Val)},(∀ y ∈ s.con,y ∈ con) → ∀ N S D P L,Cor.mk 1 N S D P L ∈ l → (findK con D).isSome = true:=fun hs N S D P L hm => by
  have:=a7 e N S D P L hm
  rw [Aqq,List.any_eq_true] at this ⊢
  obtain ⟨y,h1,h2⟩:=this
  exact ⟨y,hs y h1,h2⟩
 split
 ·rename_i k8
  refine ⟨a1,fun y hy => ?_,by simp; omega,by simp; omega,a5,a6,fun _ N' S' D' P' L' hm => ?_⟩
  ·simp only [List.mem_append,List.mem_singleton] at hy
   rcases hy with hy | rfl
   ·exact b2 y hy
   ·exact ⟨by simp,k8⟩
  ·simp only [List.mem_append,List.mem_singleton] at hm
   rcases hm with hm | hm
   ·exact old (fun _ h => h) _ _ _ _ _ hm
   ·injection hm with q; omega
 rename_i k8
 split
 ·rename_i k1
  subst k1
  have hch:=hc _ _ _ _ _ rfl
  obtain ⟨n1,n2⟩:=Ayo a1 D
  split
  ·rename_i hf
   refine ⟨a1,b2,by simp; omega,by simp; omega,a5,a6,fun _ N' S' D' P' L' hm => ?_⟩
   simp only [List.mem_append,List.mem_singleton] at hm
   rcases hm with hm | hm
   ·exact old (fun _ h => h) _ _ _ _ _ hm
   ·injection hm with q1 q2 q3 q4
    rw [q4]; exact hf
  rename_i hf
  split
  ·rename_i he
   exact ⟨n1,b2,by simp; omega,by simp; omega,a5,a6,fun h => absurd h he⟩
  ·rename_i he
   refine ⟨n1,b2,by simp; omega,by simp; omega,fun y hy => ?_,fun y hy => ?_,fun _ N' S' D' P' L' hm => ?_⟩
   ·simp only [List.mem_append,List.mem_singleton] at hy
    rcases hy with hy | rfl
    ·exact a5 y hy
    ·obtain ⟨⟨_,_,hd,_,_⟩,_⟩:=Ab9 hx
     exact hd
   ·simp only [List.mem_append,List.mem_singleton] at hy
    rcases hy with hy | rfl
    ·exact a6 y hy
    ·exact n2
   ·simp only [List.mem_append,List.mem_singleton] at hm
    rcases hm with hm | hm
    ·exact old (fun y h => by simp [h]) _ _ _ _ _ hm
    ·injection hm with q1 q2 q3 q4
     rw [Aqq,List.any_eq_true]
     exact ⟨(D,(ofM D s.ar).2.1),by simp,by rw [q4]; exact Ax6 hch⟩
 ·rename_i k1
  refine ⟨a1,b2,by simp; omega,by simp; omega,a5,a6,fun _ N' S' D' P' L' hm => ?_⟩
  simp only [List.mem_append,List.mem_singleton] at hm
  rcases hm with hm | hm
  ·exact old (fun _ h => h) _ _ _ _ _ hm
  ·injection hm with q; omega
theorem Aua {cs:CsM} {a:ArM} (ha:NiceK cs a):∀ (r l:List Cor),(∀ x ∈ l ++ r,x.fits) → (∀ N S D P L,Cor.mk 1 N S D P L ∈ l ++ r → chk D = 0) → OkN cs l (newN a l) → OkN cs (l ++ r) (newN a (l ++ r))
 | [],l,_,_,h => by simpa using h
 | x :: r,l,h1,h2,h => by
  have e:l ++ x :: r = (l ++ [x]) ++ r:=by simp
  rw [e] at h1 h2 ⊢
  refine Aua ha r (l ++ [x]) h1 h2 ?_
  rw [Amb]
  exact A3a h (h1 x (by simp)) fun N S D P L q => h2 N S D P L (by rw [← q]; simp)
theorem Aq9 {N:Int} {S:List UInt8} {D:Dat} {P:List Int} {L:List Cor} (h:singleM (.mk 1 N S D P L) = true):chk D = 0:=by
 have hc:constM D = true:=by
  simp only [singleM,show hasK 1 = 4 from rfl] at h
  split at h
  ·cases h
  ·split at h
   ·cases h
   ·split at h
    ·cases h
    ·simp at h
     exact h.2.2.2
 unfold constM at hc
 simp at hc
 exact hc.1
noncomputable def csN (c:Cor) (a:ArM):CsM:=⟨(newN a (partsC c)).lam,setV c,(newN a (partsC c)).con⟩
noncomputable def s0K (c:Cor) (a:ArM):CkM:=⟨(newN a (partsC c)).ar,1,0,false,c,[],(0,0),[]⟩
theorem A3b {cs:CsM} {c:Cor} (hc:c.fits) (h:checkM c [] = 0) {a:ArM} (ha:NiceK cs a):OkN cs (preC c) (newN a (preC c)):=by
 have hs:=(Ad0 h).2
 have:=Aua (cs:=cs) ha (preC c) [] (fun x hx => pre_fitC c hc x (by simpa using hx)) (fun N S D P L hm => Aq9 (hs _ (by simpa using hm)))
  ⟨ha,by simp [newN],by simp [newN],by simp [newN],by simp [newN],by simp [newN],fun _ N S D P L hm => by simp at hm⟩
 simpa using this
theorem closedC {c:Cor} (h:checkM c [] = 0) (v:Int):¬ Fv v c:=fun hv => by
 have:=(goes_st c 1 true (freshM []) (fun x hx => hx) h).none rfl
 have:=this.2 v hv
 simp [freshM,addsI] at this
theorem Ayj {c:Cor} (hc:c.fits) (h:checkM c [] = 0) {a:ArM} (ha:∀ cs,NiceK cs a) (he:(newN a (partsC c)).err = 0) (hf:∀ x ∈ preC c,(corL x).length ≤ 300):OkCs (csN c a) c ∧ SafeK (csN c a) c (s0K c a) ∧ (csN c a).lam.length ≤ 8192 ∧ (csN c a).consts.length ≤ 8192:=by
 have hp:=Ap7 h
 have hk:=A3b (cs:=csN c a) hc h (ha _)
 have h8:=(Ad0 h).1
 rw [hp] at he
 have e1:(csN c a).lam = (newN a (preC c)).lam:=by rw [← hp]; rfl
 have e2:(csN c a).consts = (newN a (preC c)).con:=by rw [← hp]; rfl
 have e3:(s0K c a).ar = (newN a (preC c)).ar:=by rw [← hp]; rfl
 refine ⟨⟨hc,h,rfl,fun x hx => hk.lam x (by rw [← e1]; exact hx),fun N S D P L hm => ?_,fun y hy => hk.val y (by rw [← e2]; exact hy),fun y hy => hk.fit y (by rw [← e2]; exact hy),hf⟩,⟨by rw [e3]; exact hk.nice,fun _ => ⟨fun _ => ⟨Ap6 c,fun v hv => absurd hv (closedC h v),Ajw⟩,fun q => (by cases q),by simp [s0K]⟩,by simp [s0K]⟩,by rw [e1]; exact Nat.le_trans hk.ll h8,by rw [e2]; exact Nat.le_trans hk.lc h8⟩
 rw [e2]
 exact Azl (hk.all he _ _ _ _ _ hm)
end Go.Proofs.YthegkphhfleghaaGreat
namespace Go.Proofs.YthegkphhfleghaaGreat
set_option maxRecDepth 4000
set_option maxRecDepth 4000
open Go.V
attribute [local simp] Nat.add_assoc
section
variable {X:Nat → Prop} {A:Nat} {a:ArM} {m:Mem}
theorem q128f (hA:Ar X A a m) {p:Nat} {c:CeM} (hc:a.cells[p]? = some c) (hk:c.k = 4) {i:Nat} (hi:i < c.a.length) {x:Val} (hg:goodM a x = false):wph Tryz.prog ca (.func 70) [.ptr A 0,valA (7,(p:Int)),int i,valA x] m fun v m' => v = int 110 ∧ Up X A a m m':=by
 refine Aaf Tryz.func70 rfl rfl (by simp [Tryz.f70]) (by simp [Tryz.f70]) fun Q hQ => ?_
 simp only [Tryz.f70,show ca.keepRes 70 = false from rfl,show ca.keepArgs 70 = false from rfl] at hQ ⊢
 obtain ⟨M1,hM1⟩:∃ M1,M1 = (m.new [int 7,int p] false).new [int x.1,int x.2] false:=⟨_,rfl⟩
 have k1:Kp m M1:=by rw [hM1]; simp
 have n1:M1.next = m.next + 2:=by rw [hM1]; simp
 have b0:M1.get m.next = some (.cells [int 7,int p] false (m.clock + 1)):=by rw [hM1]; simp
 have b1:M1.get (m.next + 1) = some (.cells [int x.1,int x.2] false (m.clock + 2)):=by rw [hM1]; simp
 have hA1:=hA.kp k1
 have q1:=q34 hA1
 have q2:=q41 hA1 x
 rw [hg] at q2
 obtain ⟨t,M,cs,ns,xs,h,hx'⟩:=id hA1
 have q3:=q77 h hx' (7,(p:Int))
 obtain ⟨C,vc,y,rfl,hC,htC,hgC,hy,hz,hrow⟩:=h.at hc
 have c1:cellP a (.sl C 0 a.cells.length 4 true none) (7,(p:Int)) = .ptr C (p * 4):=by simp [cellP,A10 hc,blk]
 rw [c1] at q3
 obtain ⟨f1,f2⟩:=Acj (Agn a.cells xs) hz
 have part:∀ {k:Nat} {r:AV} (q:Nat) (w:AV),((flat (List.zipWith rowA a.cells xs)).drop (k * 4)).take 4 = r.cells → r.cells[q]? = some w → (flat (List.zipWith rowA a.cells xs))[k * 4 + q]? = some w:=by
  intro k r q w h2 h3
  have hq:q < 4:=by
   have:=(List.getElem?_eq_some_iff.1 h3).1
   rw [← h2] at this
   simp at this
   omega
  rw [← h2,List.getElem?_take_of_lt hq,List.getElem?_drop] at h3
  exact h3
 have px0:=part 0 (int c.k) f2 rfl
 have px2:=part 2 y f2 rfl
 rw [Nat.add_zero] at px0
 obtain ⟨e,_⟩ | ⟨hne,id,w,rfl,hid,htid,hgid⟩:=hrow
 ·have:=congrArg List.length e
  simp at this
  rw [this] at hi
  simp at hi
 have hb:below (i:Int) c.a.length = true:=by simp [below]; omega
 have ln:∀ (R:TypeId) (m:Mem),abuiltin Tryz.prog .len #[62] R [.sl id 0 (vals c.a).length 2 true none] m = some (int c.a.length,m):=fun R m => by rw [Ae0 Tryz.underlying62]; simp
 have hix:=Aak (P:=Tryz.prog) (q:=.i64) (ag:=true) (c:=none) (id:=id) (off:=0) (len:=(vals c.a).length) (i:=i) Tryz.underlying62 Abl (by simpa using hi)
 simp only [Aa8] at hix ln
 have hag:AV.agg [int 7,int p] = valA (7,(p:Int)):=rfl
 simp
 rw [← hM1]
 clear hM1
 simp [q1.go,b0,hag,q3.go]
 simp [eq135,hgC,px0,px2,hk,undefV,undef,ln,(q75 (i:Int) c.a.length).go,hb,b1,Aah,q2.go]
 refine hQ _ _ _ ?_
 rw [Aaq]
 exact ⟨[int 110],by simp [aresult],by simp [oneOf]; exact ⟨X,hA1,.of (.of k1),fun j h => .inl h⟩⟩
end
abbrev Ro:=Nat → Option Nat
abbrev nilA:AV:=.sc (.pointer none)
abbrev strS (s:List UInt8):AV:=.sc (.string ⟨⟨s⟩⟩)
structure ChT (t t':Ro) (m m':Mem):Prop where
 kc:KpC (fun j => t j = some 0 ∨ t j = some 3) m m'
 fix:∀ j,t j = some 1 → t' j = some 1
 top:∀ j,t' j = some 0 ↔ t j = some 0
 ar:∀ j,t' j = some 3 → t j = some 3 ∨ m.next ≤ j
 new:∀ j,t' j ≠ none → t j ≠ none ∨ m.next ≤ j
 bd:∀ j,t' j ≠ none → j < m'.next
structure Kf (t t':Ro) (m m':Mem):Prop where
 kc:KpC (fun j => t j ≠ some 1) m m'
 fix:∀ j,t j = some 1 → t' j = some 1
section
variable {t t' t2 t3:Ro} {m m' m2 m3:Mem}
theorem ChT.kf (h:ChT t t' m m'):Kf t t' m m':=by
 refine ⟨h.kc.mono fun j q e => ?_,h.fix⟩
 rw [e] at q
 exact q.elim (fun q => by cases q) fun q => by cases q
theorem Kf.of {X:Nat → Prop} (k:KpC X m m') (h:∀ j,X j → t j = some 1 → m.next ≤ j):Kf t t m m' :=
 ⟨⟨k.next,fun id hi hx => k.get id hi fun q => by have:=h id q (Classical.not_not.1 hx); omega,fun id hi hx => k.x id hi fun q => by have:=h id q (Classical.not_not.1 hx); omega⟩,fun _ h => h⟩
theorem Kf.kp (k:Kp m m'):Kf t t m m':=.of (X:=fun _ => False) (.of (.of k)) fun _ h => h.elim
theorem ChT.refl (hb:∀ j,t j ≠ none → j < m.next) (k:Kp m m'):ChT t t m m':=⟨.of (.of k),fun _ h => h,fun _ => Iff.rfl,fun _ h => .inl h,fun _ h => .inl h,fun j h => Nat.lt_of_lt_of_le (hb j h) k.next⟩
theorem ChT.trans (h:ChT t t2 m m2) (k:ChT t2 t3 m2 m3):ChT t t3 m m3:=by
 have hn:=h.kc.next
 refine ⟨KpC.cut ((h.kc.mono fun j q => .inl q).trans (k.kc.mono fun j q => ?_)),fun j q => k.fix j (h.fix j q),fun j => (k.top j).trans (h.top j),fun j q => ?_,fun j q => ?_,k.bd⟩
 ·rcases q with q | q
  ·exact .inl (.inl ((h.top j).1 q))
  ·rcases h.ar j q with q | q
   ·exact .inl (.inr q)
   ·exact .inr q
 ·rcases k.ar j q with q | q
  ·exact h.ar j q
  ·exact .inr (by omega)
 ·rcases k.new j q with q | q
  ·exact h.new j q
  ·exact .inr (by omega)
theorem ChT.next (h:ChT t t' m m'):m.next ≤ m'.next:=h.kc.next
theorem ChT.ahead {m0:Mem} (hb:∀ j,t j ≠ none → j < m0.next) (k0:Kp m0 m) (h:ChT t t' m m'):ChT t t' m0 m':=(ChT.refl hb k0).trans h
theorem ChT.loose (h:ChT t t' m m') (k:KpC (fun j => m.next ≤ j ∧ t' j = none) m' m2):ChT t t' m m2 :=
 ⟨KpC.cut ((h.kc.mono fun j q => .inl q).trans (k.mono fun j q => .inr q.1)),h.fix,h.top,h.ar,h.new,fun j q => Nat.lt_of_lt_of_le (h.bd j q) k.next⟩
theorem ChT.nob (h:ChT t t' m m') (hb:∀ j,t j ≠ none → j < m.next) {m0:Mem} (hb0:∀ j,t j ≠ none → j < m0.next) {B:Nat} (h0:m0.next ≤ B) (h1:B < m.next):t' B = none:=by
 cases hq:t' B with
 | none => rfl
 | some r =>
  rcases h.new B (by rw [hq]; simp) with q | q
  ·have:=hb0 B q; omega
  ·omega
theorem ChT.box (h:ChT t t' m m') (hb:∀ j,t j ≠ none → j < m.next) {B:Nat} (h1:B < m.next) (h2:t B = none):m'.get B = m.get B :=
 h.kc.get B h1 fun q => by rw [h2] at q; rcases q with q | q <;> cases q
end
def FixA (t:Ro) (k:Nat) (ag:Bool) (m:Mem) (x:AV) (ys:List AV):Prop:=Has t 1 k ag (.emp 0) m x ys
theorem FixA.keep {t t':Ro} {m m':Mem} {k:Nat} {ag:Bool} {x:AV} {ys:List AV} (h:FixA t k ag m x ys) (c:Kf t t' m m'):FixA t' k ag m' x ys :=
 Has.mono h c.kc.next fun j hj hr => ⟨c.kc.get j hj fun q => q hr,c.fix j hr⟩
theorem FixA.okc {t:Ro} {m:Mem} {k:Nat} {ag:Bool} {x:AV} {ys:List AV} (h:FixA t k ag m x ys):x.okc = true ∧ x.cells = [x]:=by
 rcases h with ⟨_,rfl⟩ | ⟨_,id,v,rfl,_⟩ <;> exact ⟨rfl,rfl⟩
def envA (e:EnvM):List (Int × AV):=e.map fun x => (x.1,valA x.2)
def MpE (t:Ro) (m:Mem) (e:EnvM) (x:AV):Prop:=∃ id,x = .mp id ∧ id < m.next ∧ t id = some 1 ∧ MpI m id (envA e)
theorem MpE.keep {t t':Ro} {m m':Mem} {e:EnvM} {x:AV} (h:MpE t m e x) (c:Kf t t' m m'):MpE t' m' e x:=by
 obtain ⟨id,h1,h2,h3,h4⟩:=h
 exact ⟨id,h1,Nat.lt_of_lt_of_le h2 c.kc.next,c.fix id h3,h4.keep (c.kc.x id h2 fun q => q h3).2⟩
theorem MpE.okc {t:Ro} {m:Mem} {e:EnvM} {x:AV} (h:MpE t m e x):x.okc = true ∧ x.cells = [x]:=by
 obtain ⟨id,rfl,_⟩:=h
 exact ⟨rfl,rfl⟩
theorem Avl (k:Int):∀ e:EnvM,(getI (envA e) k).getD (valA (0,0)) = valA (getE e k)
 | [] => rfl
 | x :: e => by
  have:=Avl k e
  simp only [envA,List.map_cons,getI,getE] at this ⊢
  split
  ·rfl
  ·exact this
theorem Ak7 (k:Int) (v:Val):∀ e:EnvM,putI (envA e) k (valA v) = envA (putE e k v)
 | [] => rfl
 | x :: e => by
  have:=Ak7 k v e
  simp only [envA,List.map_cons,putI,putE] at this ⊢
  split
  ·rfl
  ·rw [this]; rfl
theorem MpE.look {t:Ro} {m:Mem} {e:EnvM} {x:AV} (h:MpE t m e x) (k:Int):alookup Tryz.prog 57 x (int k) false m = some (valA (getE e k)):=by
 obtain ⟨id,rfl,_,_,h4⟩:=h
 have:=h4.look Ajb Tryz.underlying3 As8 k false
 rw [this]
 simp only [Bool.false_eq_true,if_false]
 exact congrArg some (Avl k e)
def WtA (t:Ro) (m:Mem):WtM → AV → Prop
 | .branch c,x => x = .iface 136 (encC c)
 | .seq l,x => x = .iface 144 (.agg [.lst (encCs l)])
 | .set n,x => x = .iface 138 (.agg [int n])
 | .glob o s,x => x = .iface 140 (.agg [int o,strS s])
 | .call l d,x => ∃ y,x = .iface 142 (.agg [.lst (encCs l),y]) ∧ FixA t 2 true m y (vals d)
theorem WtA.keep {t t':Ro} {m m':Mem} {x:AV}:∀ {w:WtM},WtA t m w x → Kf t t' m m' → WtA t' m' w x
 | .branch _,h,_ => h
 | .seq _,h,_ => h
 | .set _,h,_ => h
 | .glob _ _,h,_ => h
 | .call _ _,⟨y,h1,h2⟩,c => ⟨y,h1,h2.keep c⟩
theorem WtA.okc {t:Ro} {m:Mem} {x:AV}:∀ {w:WtM},WtA t m w x → x.okc = true ∧ x.cells = [x] ∧ ∀ m,fzv m x = (x,m)
 | .branch _,h => by rw [h]; exact ⟨rfl,rfl,fun _ => rfl⟩
 | .seq _,h => by rw [h]; exact ⟨rfl,rfl,fun _ => rfl⟩
 | .set _,h => by rw [h]; exact ⟨rfl,rfl,fun _ => rfl⟩
 | .glob _ _,h => by rw [h]; exact ⟨rfl,rfl,fun _ => rfl⟩
 | .call _ _,⟨y,h1,h2⟩ => by rw [h1]; exact ⟨rfl,rfl,fun _ => rfl⟩
def ChK (t:Ro) (m:Mem):List KfM → AV → Prop
 | [],u => u = nilA
 | f :: fs,u => ∃ F w x u',u = .ptr F 0 ∧ t F = some 1 ∧ has m F [w,x,u',int ((fs.length:Int) + 1)] ∧ WtA t m f.w w ∧ MpE t m f.e x ∧ ChK t m fs u'
theorem ChK.keep {t t':Ro} {m m':Mem} (c:Kf t t' m m'):∀ {fs:List KfM} {u:AV},ChK t m fs u → ChK t' m' fs u
 | [],u,h => h
 | f :: fs,u,⟨F,w,x,u',h1,h2,h3,h4,h5,h6⟩ => ⟨F,w,x,u',h1,c.fix F h2,⟨Nat.lt_of_lt_of_le h3.1 c.kc.next,by rw [c.kc.get F h3.1 fun q => q h2]; exact h3.2⟩,h4.keep c,h5.keep c,ChK.keep c h6⟩
theorem ChK.okc {t:Ro} {m:Mem}:∀ {fs:List KfM} {u:AV},ChK t m fs u → u.okc = true ∧ u.cells = [u] ∧ ∀ m,fzv m u = (u,m)
 | [],u,h => by
  have h:u = nilA:=h
  subst h
  exact ⟨rfl,rfl,fun _ => rfl⟩
 | f :: fs,u,⟨F,w,x,u',h,_⟩ => by
  subst h
  exact ⟨rfl,rfl,fun _ => rfl⟩
structure RestK where
 op:Int
 nm:List UInt8
 n:Int
 args:AV
 k:Int
 fv:Val
def conA (x:Dat × Val):AV:=match x.1 with
 | .mk k n s M L T => .agg [int k,int n,strS s,.lst (M.map int),.lst (encs L),.lst (encs T),int x.2.1,int x.2.2]
def tkK (A:Nat) (lx cx:AV) (bx:List Int) (s:CkM) (ex fx:AV) (q:RestK):List AV :=
 match s.c with
 | .mk K N S (.mk k n s0 M L T) P Ls => [.ptr A 0,lx,.lst (bx.map int),cx,.emp 0,int s.status,int s.steps,int K,int N,strS S,int k,int n,strS s0,.lst (M.map int),.lst (encs L),.lst (encs T),.lst (P.map int),.lst (encCs Ls),ex,.sc (.bool s.atv),int s.v.1,int s.v.2,fx,int q.op,strS q.nm,int q.n,q.args,int q.k,int q.fv.1,int q.fv.2]
def ArR (t:Ro) (A:Nat) (a:ArM) (m:Mem):Prop:=Ar (fun j => t j = some 3) A a m
structure TB (t:Ro) (T A:Nat) (lx cx:AV) (cs:CsM) (a:ArM) (m:Mem):Prop where
 bd:∀ j,t j ≠ none → j < m.next
 tT:t T = some 0
 ar:ArR t A a m
 lam:FixA t 11 true m lx (encCs cs.lam)
 con:FixA t 8 true m cx (cs.consts.map conA)
structure TkK (t:Ro) (T A:Nat) (lx cx:AV) (cs:CsM) (s:CkM) (ex fx:AV) (q:RestK) (m:Mem):Prop where
 b:TB t T A lx cx cs s.ar m
 tk:has m T (tkK A lx cx cs.boxed s ex fx q)
 env:MpE t m s.e ex
 ch:ChK t m s.fs fx
section
variable {t t':Ro} {m m':Mem} {T A:Nat} {lx cx ex fx:AV} {cs:CsM} {s s':CkM} {q q':RestK} {a a':ArM}
theorem ArR.kc {X:Nat → Prop} (h:ArR t A a m) (k:KpC X m m') (hx:∀ j,t j = some 3 → X j → m.next ≤ j):ArR t A a m':=Ar.kc h k hx
theorem TB.oth {X:Nat → Prop} (h:TB t T A lx cx cs a m) (k:KpC X m m') (hx:∀ j,t j ≠ none → X j → m.next ≤ j):TB t T A lx cx cs a m':=by
 have kf:Kf t t m m':=.of k fun j q e => hx j (by rw [e]; simp) q
 exact ⟨fun j q => Nat.lt_of_lt_of_le (h.bd j q) k.next,h.tT,h.ar.kc k fun j e q => hx j (by rw [e]; simp) q,h.lam.keep kf,h.con.keep kf⟩
theorem TkK.oth {X:Nat → Prop} (h:TkK t T A lx cx cs s ex fx q m) (k:KpC X m m') (hx:∀ j,t j ≠ none → X j → m.next ≤ j):TkK t T A lx cx cs s ex fx q m':=by
 have kf:Kf t t m m':=.of k fun j q e => hx j (by rw [e]; simp) q
 refine ⟨h.b.oth k hx,?_,h.env.keep kf,h.ch.keep kf⟩
 obtain ⟨hT,w,g⟩:=h.tk
 exact ⟨Nat.lt_of_lt_of_le hT k.next,w,by rw [k.get T hT fun e => by have:=hx T (by rw [h.b.tT]; simp) e; omega]; exact g⟩
theorem TkK.kp (h:TkK t T A lx cx cs s ex fx q m) (k:Kp m m'):TkK t T A lx cx cs s ex fx q m':=h.oth (X:=fun _ => False) (.of (.of k)) fun _ _ h => h.elim
theorem TB.kp (h:TB t T A lx cx cs a m) (k:Kp m m'):TB t T A lx cx cs a m':=h.oth (X:=fun _ => False) (.of (.of k)) fun _ _ h => h.elim
theorem Avw (bd:∀ j,t j ≠ none → j < m.next) (hT:t T = some 0) (l:List AV):ChT t t m (m.set T l) :=
 ⟨(Aal T l m).mono fun j e => .inl (by have e:j = T:=e; rw [e]; exact hT),fun _ h => h,fun _ => Iff.rfl,fun _ h => .inl h,fun _ h => .inl h,fun j h => by simpa using bd j h⟩
theorem TB.set (h:TB t T A lx cx cs a m) (l:List AV):TB t T A lx cx cs a (m.set T l):=by
 have c:=Avw h.bd h.tT l
 refine ⟨c.bd,h.tT,h.ar.kc (Aal T l m) fun j e e2 => ?_,h.lam.keep c.kf,h.con.keep c.kf⟩
 have e2:j = T:=e2
 rw [e2,h.tT] at e
 cases e
theorem TkK.set (h:TkK t T A lx cx cs s ex fx q m) (ha:s'.ar = s.ar) {ex' fx':AV} (he:MpE t m s'.e ex') (hf:ChK t m s'.fs fx'):TkK t T A lx cx cs s' ex' fx' q' (m.set T (tkK A lx cx cs.boxed s' ex' fx' q')) ∧ ChT t t m (m.set T (tkK A lx cx cs.boxed s' ex' fx' q')):=by
 have c:=Avw h.b.bd h.b.tT (tkK A lx cx cs.boxed s' ex' fx' q')
 refine ⟨⟨?_,⟨by simpa using h.tk.1,m.clock + 1,by simp⟩,he.keep c.kf,hf.keep c.kf⟩,c⟩
 rw [ha]
 exact h.b.set _
theorem Ao8 (bd:∀ j,t j ≠ none → j < m.next) (u:Up (fun j => t j = some 3) A a' m m'):∃ t',ArR t' A a' m' ∧ ChT t t' m m':=by
 obtain ⟨X',h1,h2,h3⟩:=u
 obtain ⟨tt,M,cs,ns,xs,g1,g2⟩:=id h1
 have key:∀ j r,t j = some r → r ≠ 3 → tt j = none:=by
  intro j r hj hr
  cases hq:tt j with
  | none => rfl
  | some x =>
   rcases h3 j (g2 j (by rw [hq]; simp)).1 with e | e
   ·rw [hj] at e; cases e; exact absurd rfl hr
   ·have:=bd j (by rw [hj]; simp); omega
 refine ⟨fun j => if tt j ≠ none then some 3 else if t j = some 3 then none else t j,⟨tt,M,cs,ns,xs,g1,fun j hj => ⟨by show (if tt j ≠ none then some 3 else _) = some 3; rw [if_pos hj],(g2 j hj).2⟩⟩,⟨h2.mono fun j hj => .inr hj,fun j hj => ?_,fun j => ?_,fun j hj => ?_,fun j hj => ?_,fun j hj => ?_⟩⟩
 ·simp only [key j 1 hj (by simp),hj]; simp
 ·constructor
  ·intro q
   split at q
   ·cases q
   ·split at q
    ·cases q
    ·exact q
  ·intro q
   simp only [key j 0 q (by simp),q]; simp
 ·split at hj
  ·rename_i e; exact h3 j (g2 j e).1
  ·split at hj
   ·cases hj
   ·exact .inl hj
 ·split at hj
  ·rename_i e
   exact (h3 j (g2 j e).1).imp (fun q => by rw [q]; simp) id
  ·split at hj
   ·exact absurd rfl hj
   ·exact .inl hj
 ·split at hj
  ·rename_i e; exact (g2 j e).2
  ·split at hj
   ·exact absurd rfl hj
   ·exact Nat.lt_of_lt_of_le (bd j hj) h2.next
theorem TB.arena (h:TB t T A lx cx cs a m) (u:Up (fun j => t j = some 3) A a' m m'):∃ t',TB t' T A lx cx cs a' m' ∧ ChT t t' m m':=by
 obtain ⟨t',h1,c⟩:=Ao8 h.bd u
 exact ⟨t',⟨c.bd,(c.top T).2 h.tT,h1,h.lam.keep c.kf,h.con.keep c.kf⟩,c⟩
theorem Alo (a':ArM):tkK A lx cx cs.boxed { s with ar:=a' } ex fx q = tkK A lx cx cs.boxed s ex fx q:=by
 obtain ⟨_,_,_,_,c,_,_,_⟩:=s
 obtain ⟨K,N,S,D,P,L⟩:=c
 cases D
 rfl
theorem TkK.arena (h:TkK t T A lx cx cs s ex fx q m) (u:Up (fun j => t j = some 3) A a' m m'):∃ t',TkK t' T A lx cx cs { s with ar:=a' } ex fx q m' ∧ ChT t t' m m':=by
 have hTa:¬ (t T = some 3):=by rw [h.b.tT]; simp
 have hk:m'.get T = m.get T:=by
  obtain ⟨X',_,h2,_⟩:=id u
  exact h2.get T h.tk.1 hTa
 obtain ⟨t',b,c⟩:=h.b.arena u
 obtain ⟨hT,w,g⟩:=h.tk
 exact ⟨t',⟨b,by rw [Alo]; exact ⟨Nat.lt_of_lt_of_le hT c.next,w,by rw [hk]; exact g⟩,h.env.keep c.kf,h.ch.keep c.kf⟩,c⟩
def upd (t:Ro) (id:Nat):Ro:=fun j => if j = id then some 1 else t j
@[simp] theorem Aki (t:Ro) (id:Nat):upd t id id = some 1:=by simp [upd]
theorem Avv (bd:∀ j,t j ≠ none → j < m.next) (k:Kp m m') {id:Nat} (h1:m.next ≤ id) (h2:id < m'.next):ChT t (upd t id) m m':=by
 have ne:∀ j,t j ≠ none → j ≠ id:=fun j q e => by have:=bd j q; omega
 refine ⟨.of (.of k),fun j q => ?_,fun j => ?_,fun j q => ?_,fun j q => ?_,fun j q => ?_⟩
 ·simp only [upd]; rw [if_neg (ne j (by rw [q]; simp))]; exact q
 ·simp only [upd]
  constructor
  ·intro q; split at q
   ·cases q
   ·exact q
  ·intro q; rw [if_neg (ne j (by rw [q]; simp))]; exact q
 ·simp only [upd] at q
  split at q
  ·cases q
  ·exact .inl q
 ·simp only [upd] at q
  split at q
  ·rename_i e; exact .inr (by omega)
  ·exact .inl q
 ·simp only [upd] at q
  split at q
  ·rename_i e; omega
  ·have:=bd j q; have:=k.next; omega
theorem TB.new (h:TB t T A lx cx cs a m) (k:Kp m m') {id:Nat} (h1:m.next ≤ id) (h2:id < m'.next):TB (upd t id) T A lx cx cs a m':=by
 have c:=Avv h.bd k h1 h2
 refine ⟨c.bd,(c.top T).2 h.tT,?_,h.lam.keep c.kf,h.con.keep c.kf⟩
 refine Ar.mono (Ar.kp h.ar k) fun j _ hj => ?_
 have hne:j ≠ id:=fun e => by have:=h.bd j (by rw [hj]; simp); omega
 simp only [upd]
 rw [if_neg hne]; exact hj
theorem TkK.new (h:TkK t T A lx cx cs s ex fx q m) (k:Kp m m') {id:Nat} (h1:m.next ≤ id) (h2:id < m'.next):TkK (upd t id) T A lx cx cs s ex fx q m' ∧ ChT t (upd t id) m m':=by
 have c:=Avv h.b.bd k h1 h2
 obtain ⟨hT,w,g⟩:=h.tk
 exact ⟨⟨h.b.new k h1 h2,⟨Nat.lt_of_lt_of_le hT k.next,w,by rw [k.get T hT]; exact g⟩,h.env.keep c.kf,h.ch.keep c.kf⟩,c⟩
end
end Go.Proofs.YthegkphhfleghaaGreat
namespace Go.Proofs.YthegkphhfleghaaGreat
set_option maxRecDepth 8000
open Go.V
attribute [local simp] Nat.add_assoc
theorem k69 (m:Mem):EH Tryz.prog ca (.func 69) [] m (valA (2,0)) m:=by
 refine Abd Tryz.func69 rfl rfl rfl rfl (args1:=[]) (m1:=m) (by simp [fzvs]) (by simp) (by simp [Tryz.f69]) (by simp [Tryz.f69]) ?_
 simp [Tryz.f69,show ca.keepRes 69 = false from rfl,abuild,placesOf,fillAt,valA]
section
variable {t:Ro} {T A:Nat} {lx cx ex fx:AV} {cs:CsM} {s:CkM} {q:RestK} {m:Mem}
theorem k110 (h:TkK t T A lx cx cs s ex fx q m) (k:Int):wph Tryz.prog ca (.func 110) [.ptr T 0,int k] m fun r m' => r = .tup [] ∧ ∃ q',TkK t T A lx cx cs (faultK s) ex nilA q' m' ∧ ChT t t m m':=by
 obtain ⟨z1,y1⟩:=h.set (s':={ s with status:=4 }) (q':=q) rfl h.env h.ch
 obtain ⟨z2,y2⟩:=z1.set (s':=faultK s) (fx':=nilA) (q':=q) rfl h.env rfl
 obtain ⟨z3,y3⟩:=z2.set (s':=faultK s) (fx':=nilA) (q':=⟨q.op,q.nm,q.n,q.args,k,(4,0)⟩) rfl h.env rfl
 obtain ⟨hT,w,g⟩:=h.tk
 obtain ⟨ar,st,steps,atv,⟨K,N,S,⟨dk,dn,ds,dM,dL,dT⟩,P,L⟩,e,v,fs⟩:=s
 refine Aaf Tryz.func110 rfl rfl (by simp [Tryz.f110]) (by simp [Tryz.f110]) fun Q hQ => ?_
 simp only [Tryz.f110,show ca.keepRes 110 = false from rfl,show ca.keepArgs 110 = false from rfl] at hQ ⊢
 simp [g,tkK,abuild,placesOf,fillAt]
 exact hQ _ _ _ ⟨.inl rfl,[],rfl,rfl,_,z3,(y1.trans y2).trans y3⟩
theorem k63 (h:TkK t T A lx cx cs s ex fx q m) (v:Val):wph Tryz.prog ca (.func 63) [.ptr T 0,valA v] m fun r m' => r = .tup [] ∧ TkK t T A lx cx cs (valueK v s) ex fx q m' ∧ ChT t t m m':=by
 obtain ⟨hT,w,g⟩:=h.tk
 obtain ⟨M1,hM1⟩:∃ M1,M1 = m.new [int v.1,int v.2] false:=⟨_,rfl⟩
 have k1:Kp m M1:=by rw [hM1]; simp
 have b0:M1.get m.next = some (.cells [int v.1,int v.2] false (m.clock + 1)):=by rw [hM1]; simp
 have h1:=h.kp k1
 obtain ⟨z1,y1⟩:=h1.set (s':={ s with status:=1 }) (q':=q) rfl h1.env h1.ch
 obtain ⟨z2,y2⟩:=z1.set (s':={ s with status:=1,atv:=true }) (q':=q) rfl z1.env z1.ch
 obtain ⟨z3,y3⟩:=z2.set (s':=valueK v s) (q':=q) rfl z2.env z2.ch
 have y:=ChT.ahead h.b.bd k1 ((y1.trans y2).trans y3)
 have nT:T ≠ m.next:=by omega
 obtain ⟨hT1,w1,g1⟩:=h1.tk
 obtain ⟨ar,st,steps,atv,⟨K,N,S,⟨dk,dn,ds,dM,dL,dT⟩,P,L⟩,e,v0,fs⟩:=s
 refine Aaf Tryz.func63 rfl rfl (by simp [Tryz.f63]) (by simp [Tryz.f63]) fun Q hQ => ?_
 simp only [Tryz.f63,show ca.keepRes 63 = false from rfl,show ca.keepArgs 63 = false from rfl] at hQ ⊢
 simp
 rw [← hM1]
 clear hM1
 refine Aau (by kernel_rfl) ?_
 simp [g1,tkK,b0]
 refine Aay (l:=[(3,6),(3,9)]) (by kernel_rfl) (?_:List.all _ _ = true) ?_
 ·simp [metAtD,metOkD,rank,verKeptD,Region.wanted,Mem.ver,g1,b0,nT,Ne.symm nT]
 exact hQ _ _ _ ⟨.inl rfl,[],rfl,rfl,z3,y⟩
theorem k65 {m0 m1:Mem} (h:TkK t T A lx cx cs s ex fx q m1) (bd0:∀ j,t j ≠ none → j < m0.next) {op n:Int} {nm:List UInt8} {x y:AV} (hz:fz1 m x = (y,m1)) (hy:y.okc = true ∧ y.cells = [y]) (k0:Kp m0 m1):wph Tryz.prog ca (.func 65) [.ptr T 0,.agg [int op,strS nm,int n,x]] m fun r m' => r = .tup [] ∧ ∃ q',TkK t T A lx cx cs (wantK s) ex fx q' m' ∧ ChT t t m0 m':=by
 obtain ⟨M1,hM1⟩:∃ M1,M1 = m1.new [int op,strS nm,int n,y] false:=⟨_,rfl⟩
 have k1:Kp m1 M1:=by rw [hM1]; simp
 have b0:M1.get m1.next = some (.cells [int op,strS nm,int n,y] false (m1.clock + 1)):=by rw [hM1]; simp
 have h1:=h.kp k1
 obtain ⟨z1,y1⟩:=h1.set (s':=wantK s) (q':=q) rfl h1.env h1.ch
 obtain ⟨z2,y2⟩:=z1.set (s':=wantK s) (q':=⟨op,nm,n,y,q.k,q.fv⟩) rfl z1.env z1.ch
 have yy:=ChT.ahead bd0 (k0.trans k1) (y1.trans y2)
 have nT:T ≠ m1.next:=by have:=h.tk.1; omega
 obtain ⟨hT1,w1,g1⟩:=h1.tk
 obtain ⟨o1,o2⟩:=hy
 have hzz:fzvs m [.ptr T 0,.agg [int op,strS nm,int n,x]] = ([.ptr T 0,.agg [int op,strS nm,int n,y]],m1):=by simp [fzvs,fzv,fzs,hz]
 obtain ⟨ar,st,steps,atv,⟨K,N,S,⟨dk,dn,ds,dM,dL,dT⟩,P,L⟩,e,v0,fs⟩:=s
 refine Aaf Tryz.func65 rfl rfl (by simp [Tryz.f65]) (by simp [Tryz.f65]) fun Q hQ => ?_
 simp only [Tryz.f65,show ca.keepRes 65 = false from rfl,show ca.keepArgs 65 = false from rfl,hzz,Bool.false_eq_true,if_false] at hQ ⊢
 simp
 rw [← hM1]
 clear hM1
 refine Aau (by kernel_rfl) ?_
 simp [g1,tkK,b0,o1,o2]
 refine Aay (l:=[(2,5)]) (by kernel_rfl) (?_:List.all _ _ = true) ?_
 ·simp [metAtD,metOkD,rank,verKeptD,Region.wanted,Mem.ver,g1,b0,nT,Ne.symm nT]
 exact hQ _ _ _ ⟨.inl rfl,[],rfl,rfl,_,z2,yy⟩
theorem k68 (h:TkK t T A lx cx cs s ex fx q m) (c:Cor) {e':EnvM} {ex':AV} (he:MpE t m e' ex'):wph Tryz.prog ca (.func 68) [.ptr T 0,encC c,ex'] m fun r m' => r = .tup [] ∧ TkK t T A lx cx cs (goK c e' s) ex' fx q m' ∧ ChT t t m m':=by
 obtain ⟨M1,hM1⟩:∃ M1,M1 = m.new (encC c).cells false:=⟨_,rfl⟩
 have k1:Kp m M1:=by rw [hM1]; simp
 have b0:M1.get m.next = some (.cells (encC c).cells false (m.clock + 1)):=by rw [hM1]; simp
 have h1:=h.kp k1
 have he1:=he.keep (Kf.kp k1)
 obtain ⟨z1,y1⟩:=h1.set (s':={ s with status:=1 }) (q':=q) rfl h1.env h1.ch
 obtain ⟨z2,y2⟩:=z1.set (s':={ s with status:=1,atv:=false }) (q':=q) rfl z1.env z1.ch
 obtain ⟨z3,y3⟩:=z2.set (s':={ s with status:=1,atv:=false,c:=c }) (q':=q) rfl z2.env z2.ch
 obtain ⟨z4,y4⟩:=z3.set (s':=goK c e' s) (ex':=ex') (q':=q) rfl (he1.keep ((y1.trans y2).trans y3).kf) z3.ch
 have y:=ChT.ahead h.b.bd k1 (((y1.trans y2).trans y3).trans y4)
 have nT:T ≠ m.next:=by have:=h.tk.1; omega
 obtain ⟨hT1,w1,g1⟩:=h1.tk
 obtain ⟨id,rfl,hid,hti,hme⟩:=he
 obtain ⟨ar,st,steps,atv,⟨K,N,S,⟨dk,dn,ds,dM,dL,dT⟩,P,L⟩,e,v0,fs⟩:=s
 obtain ⟨K',N',S',⟨dk',dn',ds',dM',dL',dT'⟩,P',L'⟩:=c
 refine Aaf Tryz.func68 rfl rfl (by simp [Tryz.f68]) (by simp [Tryz.f68]) fun Q hQ => ?_
 simp only [Tryz.f68,show ca.keepRes 68 = false from rfl,show ca.keepArgs 68 = false from rfl] at hQ ⊢
 simp only [encC,AV.cells] at hM1 b0
 simp [encC]
 rw [← hM1]
 clear hM1
 refine Aau (by kernel_rfl) ?_
 simp [g1,tkK,b0]
 refine Aay (l:=[(4,8),(4,11)]) (by kernel_rfl) (?_:List.all _ _ = true) ?_
 ·simp [metAtD,metOkD,rank,verKeptD,Region.wanted,Mem.ver,g1,b0,nT,Ne.symm nT]
 exact hQ _ _ _ ⟨.inl rfl,[],rfl,rfl,z4,y⟩
theorem nil61 {x y:Operand}:abin Tryz.prog .neq 61 x y nilA (.sc (.pointer none)) = some (.sc (.bool false)):=by kernel_rfl
theorem ptr61 {x y:Operand} {i j:Nat}:abin Tryz.prog .neq 61 x y (.ptr i j) (.sc (.pointer none)) = some (.sc (.bool true)):=by
 have:nilTest Tryz.prog 61 (.ptr i j) (.sc (.pointer none)) = some false:=by unfold nilTest; rw [Tryz.underlying61]
 simp [abin,plain,this]
theorem k67 (h:TkK t T A lx cx cs s ex fx q m) (hd:s.fs.length < 2 ^ 60) {w:WtM} {wx:AV} (hw:WtA t m w wx) {e':EnvM} {ex':AV} (he:MpE t m e' ex'):wph Tryz.prog ca (.func 67) [.ptr T 0,wx,ex'] m fun r m' => r = .tup [] ∧ ∃ t' fx',TkK t' T A lx cx cs (pushK w e' s) ex fx' q m' ∧ ChT t t' m m':=by
 obtain ⟨o1,o2,o3⟩:=hw.okc
 obtain ⟨p1,p2⟩:=he.okc
 obtain ⟨f1,f2,f3⟩:=h.ch.okc
 have fin:∀ M2:Mem,Kp m M2 → M2.next = m.next + 1 → (∃ w,M2.get m.next = some (.cells [wx,ex',fx,int ((s.fs.length:Int) + 1)] false w)) →
   TkK (upd t m.next) T A lx cx cs (pushK w e' s) ex (.ptr m.next 0) q (M2.set T (tkK A lx cx cs.boxed (pushK w e' s) ex (.ptr m.next 0) q)) ∧ ChT t (upd t m.next) m (M2.set T (tkK A lx cx cs.boxed (pushK w e' s) ex (.ptr m.next 0) q)):=by
  intro M2 k2 n2 g2
  obtain ⟨h2,c2⟩:=h.new k2 (Nat.le_refl _) (by omega)
  obtain ⟨z,y⟩:=h2.set (s':=pushK w e' s) (fx':=.ptr m.next 0) (q':=q) rfl h2.env ⟨m.next,wx,ex',fx,rfl,Aki _ _,⟨by omega,g2⟩,hw.keep c2.kf,he.keep c2.kf,h2.ch⟩
  exact ⟨z,c2.trans y⟩
 obtain ⟨hT,wT,gT⟩:=h.tk
 have nT:T ≠ m.next:=by omega
 have hch:=h.ch
 obtain ⟨ie,rfl,hid,hti,hme⟩:=he
 obtain ⟨ar,st,steps,atv,⟨K,N,S,⟨dk,dn,ds,dM,dL,dT⟩,P,L⟩,e,v0,fs⟩:=s
 cases fs with
 | nil =>
  have hch:fx = nilA:=hch
  subst hch
  obtain ⟨M2,hM2⟩:∃ M2,M2 = m.new [wx,.mp ie,nilA,int 1] false:=⟨_,rfl⟩
  obtain ⟨z,y⟩:=fin M2 (by rw [hM2]; simp) (by rw [hM2]; simp) (by rw [hM2]; exact ⟨_,by simp; rfl⟩)
  have gT2:M2.get T = _:=((show Kp m M2 by rw [hM2]; simp).get T hT).trans gT
  have g2:M2.get m.next = some (.cells [wx,.mp ie,nilA,int 1] false (m.clock + 1)):=by rw [hM2]; simp
  refine Aaf Tryz.func67 rfl rfl (by simp [Tryz.f67]) (by simp [Tryz.f67]) fun Q hQ => ?_
  simp only [Tryz.f67,show ca.keepRes 67 = false from rfl,show ca.keepArgs 67 = false from rfl] at hQ ⊢
  simp [o3,gT,tkK,abuild,placesOf,fillAt,o1,o2]
  rw [← hM2]
  clear hM2
  simp [g2,nil61,gT2,tkK]
  exact hQ _ _ _ ⟨.inl rfl,[],rfl,rfl,_,_,z,y⟩
 | cons f fs =>
  obtain ⟨F,w0,x0,u0,rfl,hF1,⟨hF2,wF,gF⟩,_⟩:=hch
  have nF:F ≠ m.next:=by omega
  obtain ⟨M1,hM1⟩:∃ M1,M1 = m.new [wx,.mp ie,.ptr F 0,int 1] false:=⟨_,rfl⟩
  obtain ⟨M2,hM2⟩:∃ M2,M2 = M1.set m.next [wx,.mp ie,.ptr F 0,int ((fs.length:Int) + 1 + 1)]:=⟨_,rfl⟩
  have k1:Kp m M1:=by rw [hM1]; simp
  have g1:M1.get m.next = some (.cells [wx,.mp ie,.ptr F 0,int 1] false (m.clock + 1)):=by rw [hM1]; simp
  have gT1:=(k1.get T hT).trans gT
  have gF1:=(k1.get F hF2).trans gF
  have k2:Kp m M2:=by rw [hM2]; exact k1.set (Nat.le_refl _) _
  have gT2:=(k2.get T hT).trans gT
  have g2:M2.get m.next = some (.cells [wx,.mp ie,.ptr F 0,int ((fs.length:Int) + 1 + 1)] false (M1.clock + 1)):=by rw [hM2]; simp
  obtain ⟨z,y⟩:=fin M2 k2 (by rw [hM2,hM1]; simp) ⟨M1.clock + 1,by rw [g2]; simp⟩
  have hwr:IntKind.i64.wrap ((fs.length:Int) + 1 + 1) = (fs.length:Int) + 1 + 1:=IntWalk.i64_in _ (by simp at hd; omega)
  refine Aaf Tryz.func67 rfl rfl (by simp [Tryz.f67]) (by simp [Tryz.f67]) fun Q hQ => ?_
  simp only [Tryz.f67,show ca.keepRes 67 = false from rfl,show ca.keepArgs 67 = false from rfl] at hQ ⊢
  simp [o3,gT,tkK,abuild,placesOf,fillAt,o1,o2]
  rw [← hM1]
  clear hM1
  simp [g1,ptr61,gF1,hwr,nT,gT1,tkK]
  rw [← hM2]
  exact hQ _ _ _ ⟨.inl rfl,[],rfl,rfl,_,_,z,y⟩
end
theorem Auf {x y:Operand}:abin Tryz.prog .eql 61 x y nilA (.sc (.pointer none)) = some (.sc (.bool true)):=by kernel_rfl
theorem At0 {x y:Operand} {i j:Nat}:abin Tryz.prog .eql 61 x y (.ptr i j) (.sc (.pointer none)) = some (.sc (.bool false)):=by
 have:nilTest Tryz.prog 61 (.ptr i j) (.sc (.pointer none)) = some false:=by unfold nilTest; rw [Tryz.underlying61]
 simp [abin,plain,this]
theorem A48 {x y:Operand} {i j:Nat}:abin Tryz.prog .eql 36 x y (.ptr i j) (.sc (.pointer none)) = some (.sc (.bool false)):=by
 have:nilTest Tryz.prog 36 (.ptr i j) (.sc (.pointer none)) = some false:=by unfold nilTest; rw [Tryz.underlying36]
 simp [abin,plain,this]
def valueOf (s:CkM):Val:=if s.status = 3 then s.v else (0,0)
def depthOf (s:CkM):Int:=if s.status = 1 ∨ s.status = 2 then s.fs.length else 0
section
variable {t:Ro} {T A:Nat} {lx cx ex fx:AV} {cs:CsM} {s:CkM} {q:RestK} {m:Mem} {bx:List Int}
theorem k22 (h:has m T (tkK A lx cx bx s ex fx q)):EH Tryz.prog ca (.func 22) [.ptr T 0] m (.sc (.bool false)) m:=by
 obtain ⟨hT,w,g⟩:=h
 obtain ⟨ar,st,steps,atv,⟨K,N,S,⟨dk,dn,ds,dM,dL,dT⟩,P,L⟩,e,v,fs⟩:=s
 refine Abd Tryz.func22 rfl rfl rfl rfl (args1:=[.ptr T 0]) (m1:=m) (by simp) (by simp) (by simp [Tryz.f22]) (by simp [Tryz.f22]) ?_
 simp [Tryz.f22,show ca.keepRes 22 = false from rfl,g,tkK,A48,Aim]
theorem k9 (h:has m T (tkK A lx cx bx s ex fx q)):EH Tryz.prog ca (.func 9) [.ptr T 0] m (int s.status) m:=by
 have q:=k22 h
 obtain ⟨hT,w,g⟩:=h
 obtain ⟨ar,st,steps,atv,⟨K,N,S,⟨dk,dn,ds,dM,dL,dT⟩,P,L⟩,e,v,fs⟩:=s
 refine Abd Tryz.func9 rfl rfl rfl rfl (args1:=[.ptr T 0]) (m1:=m) (by simp) (by simp) (by simp [Tryz.f9]) (by simp [Tryz.f9]) ?_
 simp [Tryz.f9,show ca.keepRes 9 = false from rfl,g,tkK,q.go]
theorem k10 (h:has m T (tkK A lx cx bx s ex fx q)):EH Tryz.prog ca (.func 10) [.ptr T 0] m (int s.steps) m:=by
 have q:=k22 h
 obtain ⟨hT,w,g⟩:=h
 obtain ⟨ar,st,steps,atv,⟨K,N,S,⟨dk,dn,ds,dM,dL,dT⟩,P,L⟩,e,v,fs⟩:=s
 refine Abd Tryz.func10 rfl rfl rfl rfl (args1:=[.ptr T 0]) (m1:=m) (by simp) (by simp) (by simp [Tryz.f10]) (by simp [Tryz.f10]) ?_
 simp [Tryz.f10,show ca.keepRes 10 = false from rfl,g,tkK,q.go]
theorem k11 (h:has m T (tkK A lx cx bx s ex fx q)) (hc:ChK t m s.fs fx):EH Tryz.prog ca (.func 11) [.ptr T 0] m (int (depthOf s)) m:=by
 have q:=k9 h
 obtain ⟨hT,w,g⟩:=h
 obtain ⟨ar,st,steps,atv,⟨K,N,S,⟨dk,dn,ds,dM,dL,dT⟩,P,L⟩,e,v,fs⟩:=s
 refine Abd Tryz.func11 rfl rfl rfl rfl (args1:=[.ptr T 0]) (m1:=m) (by simp) (by simp) (by simp [Tryz.f11]) (by simp [Tryz.f11]) ?_
 by_cases h1:st = 1
 ·cases fs with
  | nil =>
   have hc:fx = nilA:=hc
   subst hc
   simp [Tryz.f11,show ca.keepRes 11 = false from rfl,g,tkK,q.go,h1,undefV,undef,Auf,depthOf]
  | cons f fs =>
   obtain ⟨F,w0,x0,u0,rfl,hF1,⟨hF2,wF,gF⟩,_⟩:=hc
   simp [Tryz.f11,show ca.keepRes 11 = false from rfl,g,tkK,q.go,h1,undefV,undef,At0,depthOf,gF]
 ·by_cases h2:st = 2
  ·cases fs with
   | nil =>
    have hc:fx = nilA:=hc
    subst hc
    simp [Tryz.f11,show ca.keepRes 11 = false from rfl,g,tkK,q.go,h2,undefV,undef,Auf,depthOf]
   | cons f fs =>
    obtain ⟨F,w0,x0,u0,rfl,hF1,⟨hF2,wF,gF⟩,_⟩:=hc
    simp [Tryz.f11,show ca.keepRes 11 = false from rfl,g,tkK,q.go,h2,undefV,undef,At0,depthOf,gF]
  ·simp [Tryz.f11,show ca.keepRes 11 = false from rfl,g,tkK,q.go,h1,h2,undefV,undef,depthOf]
theorem k12 (h:has m T (tkK A lx cx bx s ex fx q)):EH Tryz.prog ca (.func 12) [.ptr T 0] m (.tup [valA (valueOf s),.sc (.bool (decide (s.status = 3)))]) m:=by
 obtain ⟨hT,w,g⟩:=h
 have nT:T ≠ m.next:=by omega
 obtain ⟨ar,st,steps,atv,⟨K,N,S,⟨dk,dn,ds,dM,dL,dT⟩,P,L⟩,e,v,fs⟩:=s
 refine Abd Tryz.func12 rfl rfl rfl rfl (args1:=[.ptr T 0]) (m1:=m) (by simp) (by simp) (by simp [Tryz.f12]) (by simp [Tryz.f12]) ?_
 have hq:EH Tryz.prog ca (.func 9) [.ptr T 0] (m.new [int 0,int 0] false) (int st) (m.new [int 0,int 0] false):=k9 (bx:=bx) (A:=A) (lx:=lx) (cx:=cx) (ex:=ex) (fx:=fx) (q:=q) (s:=⟨ar,st,steps,atv,⟨K,N,S,⟨dk,dn,ds,dM,dL,dT⟩,P,L⟩,e,v,fs⟩) ⟨by simp; omega,w,by simp [nT,g]⟩
 by_cases h3:st = 3
 ·simp [Tryz.f12,show ca.keepRes 12 = false from rfl,g,tkK,hq.go,h3,nT,valueOf,valA]
 ·simp [Tryz.f12,show ca.keepRes 12 = false from rfl,g,tkK,hq.go,h3,nT,valueOf,valA,abuild,placesOf,fillAt]
theorem A3h (l:List Int) (x:Int):decide (0 ≤ idxM l x) = decide (x ∈ l):=by
 unfold idxM
 cases h:l.findIdx? fun y => decide (y = x) with
 | none =>
  rw [List.findIdx?_eq_none_iff] at h
  have:x ∉ l:=fun q => by have:=h x q; simp at this
  simp [this]
 | some i =>
  rw [List.findIdx?_eq_some_iff_getElem] at h
  obtain ⟨h1,h2,_⟩:=h
  have:x ∈ l:=by
   have e:l[i] = x:=by simpa using h2
   rw [← e]
   exact List.getElem_mem h1
  simp [this]
theorem k98 (l:List Int) (x:Int) (hl:l.length < 2 ^ 21):Gives Tryz.prog ca 98 [.lst (l.map int),int x] (.sc (.bool (decide (x ∈ l)))):=by
 have q:=o125 l x hl
 have e:=A3h l x
 refine Aac Tryz.func98 rfl rfl rfl rfl (by simp [AV.bel]) (by simp [Tryz.f98]) (by simp [Tryz.f98]) fun m => ?_
 simp [Tryz.f98,show ca.keepRes 98 = false from rfl,q.go,e]
end
end Go.Proofs.YthegkphhfleghaaGreat
namespace Go.V
variable {P:Program} {cfg:Cfg}
theorem Avn {f : FuncId} {fn : Func} {c : Code} {args : List AV} {r : AV} {m : Mem} (hf : P.funcs[f]? = some fn) (hb : fn.body = some c) (hk : cfg.hook f = none) (hka : cfg.keepArgs f = true) (hg : cfg.gc f = 1) (hr : r.bel m.next = true) (hn : fn.name ≠ "runtime.NumGoroutine") (hl : args.length ≤ fn.ntmps)
  (h:go P cfg fn.ntmps (leave P (cfg.keepRes f) fn.results.toList (fun v m' => v = r ∧ Kp m m')) [.code c] (Sl.putAll .nil 0 args) m):EH P cfg (.func f) args m r m:=by
 have:wph P cfg (.func f) args m fun v m' => v = r ∧ m' = m:=by
  refine Agz hf hb hk hn hl ?_
  rw [hka,hg]
  simp only [if_true]
  refine Abf h ?_
  rintro e s' m' ⟨h2,vs,h3,h4,h5⟩
  exact ⟨h2,vs,h3,gcK_1 (by rw [h4]; exact hr) h5 ⟨h4,rfl⟩⟩
 obtain ⟨v,m',h1,rfl,rfl⟩:=this
 exact h1
end Go.V
