/- Part of a proof. -/
import Derived.Test.YtnhcmcfgemoehaaGreatDS7
set_option maxHeartbeats 64000000
set_option linter.unusedSimpArgs false
set_option linter.unusedVariables false
set_option linter.unusedSectionVars false
namespace Go.Proofs.YtnhcmcfgemoehaaGreat
set_option maxRecDepth 4000
open Go.V
attribute [local simp] Nat.add_assoc
mutual
def makeM:Dat → ArM → ArM × Val × Int
 | .mk K N S _ L T,a =>
  if K = 1 ∨ K = 2 ∨ K = 3 then (a,(K,N),0) else if K = 5 then symM a S else if K = 4 then allocM a ⟨3,0,[],S⟩ else
  if K = 8 then (if (vecM L a).2.2 ≠ 0 then ((vecM L a).1,(0,0),(vecM L a).2.2) else allocM (vecM L a).1 ⟨2,0,(vecM L a).2.1,[]⟩) else
  if (lstM L (if K = 7 then tailM T a else (a,(4,0),0))).2.2 ≠ 0 then ((lstM L (if K = 7 then tailM T a else (a,(4,0),0))).1,(0,0),(lstM L (if K = 7 then tailM T a else (a,(4,0),0))).2.2) else lstM L (if K = 7 then tailM T a else (a,(4,0),0))
def vecM:List Dat → ArM → ArM × List Val × Int
 | [],a => (a,[],0)
 | d :: l,a => if (makeM d a).2.2 ≠ 0 then ((makeM d a).1,[],(makeM d a).2.2) else ((vecM l (makeM d a).1).1,(makeM d a).2.1 :: (vecM l (makeM d a).1).2.1,(vecM l (makeM d a).1).2.2)
def tailM:List Dat → ArM → ArM × Val × Int
 | [],a => (a,(4,0),0)
 | d :: _,a => makeM d a
def lstM:List Dat → ArM × Val × Int → ArM × Val × Int
 | [],r => r
 | d :: l,r => if (lstM l r).2.2 ≠ 0 then lstM l r else if (makeM d (lstM l r).1).2.2 ≠ 0 then ((makeM d (lstM l r).1).1,(lstM l r).2.1,(makeM d (lstM l r).1).2.2) else allocM (makeM d (lstM l r).1).1 ⟨1,0,[(makeM d (lstM l r).1).2.1,(lstM l r).2.1],[]⟩
end
theorem Afa:∀ (l r:List Dat) (a:ArM),(vecM l a).2.2 = 0 → vecM (l ++ r) a = ((vecM r (vecM l a).1).1,(vecM l a).2.1 ++ (vecM r (vecM l a).1).2.1,(vecM r (vecM l a).1).2.2)
 | [],r,a,_ => by simp [vecM]
 | d :: l,r,a,h => by
  rw [vecM] at h
  split at h
  ·rename_i h1; exact absurd h h1
  ·rename_i h1
   have:=Afa l r (makeM d a).1 h
   simp [vecM,h1,this]
theorem Ar.cut {X:Nat → Prop} {A:Nat} {a:ArM} {m:Mem} (h:Ar X A a m):Ar (fun j => X j ∧ j < m.next) A a m:=h.mono fun j hj hx => ⟨hx,hj⟩
theorem Up.less {X:Nat → Prop} {A:Nat} {a:ArM} {m m':Mem} (h:Up (fun j => X j ∧ j < m.next) A a m m'):Up X A a m m':=by
 obtain ⟨X',h1,h2,h3⟩:=h
 exact ⟨X',h1,h2.mono fun j h => h.1,fun j hj => (h3 j hj).imp (fun h => h.1) id⟩
theorem Up.out {X:Nat → Prop} {A:Nat} {a:ArM} {m m':Mem} (h:Up X A a m m'):∃ X',Ar X' A a m' ∧ KpC X m m' ∧ ∀ j,X' j → (X j ∨ m.next ≤ j) ∧ j < m'.next:=by
 obtain ⟨X',h1,h2,h3⟩:=h
 exact ⟨_,h1.cut,h2,fun j hj => ⟨h3 j hj.1,hj.2⟩⟩
theorem Atr {m0 m:Mem} {A:Nat} {k:Int} {l:List Val} {x:AV} (h:Acc m0 m 2 true (vals l) x):∃ m',fzvs m [.ptr A 0,.agg [int k,int 0,x,.emp 0]] = ([.ptr A 0,ceA ⟨k,0,l,[]⟩],m') ∧ KpC (owns x) m m':=by
 have lv:Lv m0 m 2 true (vals l) x:=by
  rcases h with ⟨h1,h2⟩ | ⟨h,id,w,h1,h2,h3,h4⟩
  ·exact .inl ⟨0,by omega,h1,h2⟩
  ·exact .inr (.inr ⟨id,w,none,h1,h2,h3,h4⟩)
 obtain ⟨m',e1,e2⟩:=lv.fz rfl (Ab0 l) (Aa4 l)
 refine ⟨m',?_,e2⟩
 simp [fzvs,fzv,fzs,e1,ceA]
theorem Ack:∀ {l:List Dat} {x:Dat},goods l = true → x ∈ l → good x = true
 | z :: l,x,h,hx => by
  rw [goods] at h
  simp at h
  rcases List.mem_cons.1 hx with rfl | hx
  ·exact h.1
  ·exact Ack h.2 hx
theorem Ahn {X0 X1:Nat → Prop} {A B:Nat} {a':ArM} {m m4 m5:Mem} (k:Kp m m4) (kc:KpC X0 m4 m5) (hA5:Ar X1 A a' m5) (hX:∀ j,X1 j → X0 j ∨ m4.next ≤ j) (hX0:∀ j,X0 j → j < m.next) (hB:m.next ≤ B) (hB4:B < m4.next) (cs:List AV):Up X0 A a' m (m5.set B cs):=by
 refine ⟨X1,hA5.kc (Aap B cs m5) fun j hj e => ?_,KpC.cut (((KpC.of (.of k)).trans (kc.mono fun j h => .inl h)).trans ((Aap B cs m5).mono fun j h => .inr (by omega))),fun j hj => (hX j hj).imp id fun h => by have:=k.next; omega⟩
 have e:j = B:=e
 subst e
 rcases hX j hj with h | h
 ·have:=hX0 j h; omega
 ·omega
theorem Ah9 (m:Mem) (v:Val) (e:Int):fzr m (.tup [.agg [int v.1,int v.2],int e]) = (.tup [valA v,int e],m):=by
 rw [Aaa]
 simp [fzr,fzvs]
theorem q61 (l:List Dat) (m:Mem):EH Tryz.prog ca (.func 61) [.lst (encs l)] m (.fn (.func 108) [] [.ptr m.next 0]) (m.new [.lst (encs l)] false):=by
 refine eh_of (Aas Tryz.func61 rfl rfl (by simp [Tryz.f61]) (by simp [Tryz.f61]) fun Q hQ => ?_)
 simp only [Tryz.f61,show ca.keepRes 61 = false from rfl,show ca.keepArgs 61 = false from rfl] at hQ ⊢
 simp
 exact hQ _ _ _ ⟨.inr rfl,_,rfl,by simp [oneOf]⟩
def LInv (X:Nat → Prop) (A V E db lo:Nat) (m M5:Mem) (r:ArM × Val × Int) (mm:Mem):Prop :=
 ∃ X1,Ar X1 A r.1 mm ∧ (∀ j,X1 j → ((X j ∧ j < m.next) ∨ M5.next ≤ j) ∧ j < mm.next ∧ j ≠ db ∧ j ≠ lo) ∧ KpC (fun j => (X j ∧ j < m.next) ∨ M5.next ≤ j ∨ j = V ∨ j = E) M5 mm ∧ (∃ w,mm.get V = some (.cells [int r.2.1.1,int r.2.1.2] false w)) ∧ ∃ w,mm.get E = some (.cells [int r.2.2] false w)
theorem Apo {m:Mem} {A id w:Nat} {k:Int} {x y:Val} (h:m.get id = some (.cells [int x.1,int x.2,int y.1,int y.2] false w)):fzvs m [.ptr A 0,.agg [int k,int 0,.sl id 0 2 2 true (some 2),.emp 0]] = ([.ptr A 0,ceA ⟨k,0,[x,y],[]⟩],m.mark id (flat (vals [x,y])) w):=by
 have e:=Ady (m:=m) (id:=id) (k:=2) (ag:=true) (cap:=some 2) (ys:=vals [x,y]) (v:=w) (f:=false) rfl (by simpa [vals,Aa2,Ahf] using h) (Ab0 _) (Aa4 _)
 rw [Aav] at e
 simp at e
 simp [fzvs,fzv,fzs,e,ceA]
theorem Ace (lo:Nat) (st:LoopState) (p:Option Code) (c:LCode) (m:Mem):KpC (fun j => j = lo) m (m.setLoop lo st p c):=⟨by simp,fun id hi hx => by simp,fun id hi hx => by
 have:id ≠ lo:=hx
 simp [this]⟩
theorem Agn (i w:Nat) (cs:List AV) (m:Mem):KpC (fun j => j = i) m (m.mark i cs w):=⟨by simp,fun id hi hx => by
 have:id ≠ i:=hx
 simp [this],fun id hi hx => by simp⟩
theorem Ah3 {X X2 X3:Nat → Prop} {A V E db lo:Nat} {m M5 mm mf:Mem} {r:ArM × Val × Int} {l:AV} (hX2:∀ j,X2 j → ((X j ∧ j < m.next) ∨ M5.next ≤ j) ∧ j < mm.next ∧ j ≠ db ∧ j ≠ lo) (kc:KpC (fun j => (X j ∧ j < m.next) ∨ M5.next ≤ j ∨ j = V ∨ j = E) M5 mm) (hdb:has mm db [l])
  (hM:M5.next ≤ mm.next) (hlt:lo < mm.next) (hlo:M5.next ≤ lo) (h1:db < lo) (h2:db ≠ V) (h3:db ≠ E) (km:KpC (fun j => X2 j ∨ j = V ∨ j = E ∨ j = lo) mm mf) (hA:Ar X3 A r.1 mf) (hX3:∀ j,X3 j → (X2 j ∨ mm.next ≤ j) ∧ j < mf.next) (gV:∃ w,mf.get V = some (.cells [int r.2.1.1,int r.2.1.2] false w)) (gE:∃ w,mf.get E = some (.cells [int r.2.2] false w)):LInv X A V E db lo m M5 r mf ∧ has mf db [l]:=by
 refine ⟨⟨X3,hA,fun j h => ?_,kc.trans (km.mono fun j h => ?_),gV,gE⟩,hdb.kc km ?_⟩
 ·obtain ⟨q1,q2⟩:=hX3 j h
  rcases q1 with q1 | q1
  ·exact ⟨(hX2 j q1).1,q2,(hX2 j q1).2.2⟩
  ·exact ⟨.inr (by omega),q2,by omega,by omega⟩
 ·rcases h with h | h | h | h
  ·exact (hX2 j h).1.imp id .inl
  ·exact .inr (.inr (.inl h))
  ·exact .inr (.inr (.inr h))
  ·exact .inr (.inl (by omega))
 ·rintro (h | h | h | h)
  ·exact (hX2 db h).2.2.1 rfl
  ·exact h2 h
  ·exact h3 h
  ·omega
def MakeK (X:Nat → Prop) (A:Nat) (d:Dat) (a:ArM) (m:Mem) (v:AV) (m':Mem):Prop:=v = .tup [valA (makeM d a).2.1,int (makeM d a).2.2] ∧ Up X A (makeM d a).1 m m'
theorem q36 {A:Nat}:∀ (n:Nat) (d:Dat),d.size ≤ n → d.fits → good d = true → ∀ (X:Nat → Prop) (a:ArM) (m:Mem),Ar X A a m → wph Tryz.prog ca (.func 36) [.ptr A 0,enc d] m (MakeK X A d a m)
 | 0,d,hs,_,_ => by cases d; simp [Dat.size] at hs
 | n + 1,d,hs,hf,hg => by
  intro X a m hA
  have ih:=q36 (A:=A) n
  refine Aas Tryz.func36 rfl rfl (by simp [Tryz.f36]) (by simp [Tryz.f36]) fun Q hQ => ?_
  simp only [Tryz.f36,show ca.keepRes 36 = false from rfl,show ca.keepArgs 36 = false from rfl] at hQ ⊢
  obtain ⟨K,N,S,M,L,T⟩:=d
  have ft:=Ach hf
  obtain ⟨hal,hgL,hgT⟩:=An0 hg
  rw [Dat.fits] at hf
  rw [Dat.size] at hs
  have hAlt:=hA.lt
  obtain ⟨m1,hm1⟩:∃ m1,m1 = (((m.new [.ptr A 0] false).new [int K,int N,.sc (.string ⟨⟨S⟩⟩),.lst (M.map int),.lst (encs L),.lst (encs T)] false).new [int 0,int 0] false).newMap:=⟨_,rfl⟩
  obtain ⟨v1,hmp⟩:∃ v,m1.map (m.next + 3) = some ⟨[],0,v⟩:=⟨_,by rw [hm1]; simp; rfl⟩
  have hu1:=Aaw (P:=Tryz.prog) Abr Tryz.underlying3 hmp (ks:=[]) rfl (k:=1) rfl (int 1)
  obtain ⟨m2,hm2⟩:∃ m2,m2 = m1.setMap (m.next + 3) ([] ++ [(.int .i64 1,int 1,0)]) (0 + 1):=⟨_,rfl⟩
  obtain ⟨v2,hmp2⟩:∃ v,m2.map (m.next + 3) = some ⟨[(.int .i64 1,int 1,0)],1,v⟩:=⟨_,by rw [hm2]; simp; rfl⟩
  have hu2:=Aaw (P:=Tryz.prog) Abr Tryz.underlying3 hmp2 (ks:=[1]) rfl (k:=2) rfl (int 2)
  obtain ⟨m3,hm3⟩:∃ m3,m3 = m2.setMap (m.next + 3) ([(.int .i64 1,int 1,0)] ++ [(.int .i64 2,int 2,1)]) (1 + 1):=⟨_,rfl⟩
  obtain ⟨v3,hmp3⟩:∃ v,m3.map (m.next + 3) = some ⟨[(.int .i64 1,int 1,0),(.int .i64 2,int 2,1)],2,v⟩:=⟨_,by rw [hm3]; simp; rfl⟩
  have hu3:=Aaw (P:=Tryz.prog) Abr Tryz.underlying3 hmp3 (ks:=[1,2]) rfl (k:=3) rfl (int 3)
  obtain ⟨m4,hm4⟩:∃ m4,m4 = m3.setMap (m.next + 3) ([(.int .i64 1,int 1,0),(.int .i64 2,int 2,1)] ++ [(.int .i64 3,int 3,2)]) (2 + 1):=⟨_,rfl⟩
  obtain ⟨v4,hmp4⟩:∃ v,m4.map (m.next + 3) = some ⟨[(.int .i64 1,int 1,0),(.int .i64 2,int 2,1),(.int .i64 3,int 3,2)],3,v⟩:=⟨_,by rw [hm4]; simp; rfl⟩
  have hl:=Ae3 (P:=Tryz.prog) (ok:=true) Abr Tryz.underlying3 hmp4 (ks:=[1,2,3]) rfl K
  rw [← hm2] at hu1
  rw [← hm3] at hu2
  rw [← hm4] at hu3
  have k4:Kp m m4:=by
   rw [hm4,hm3,hm2,hm1]
   simp
  have g4:∀ j,m4.get j = m1.get j:=fun j => by rw [hm4,hm3,hm2]; simp
  have n4:m4.next = m.next + 4:=by rw [hm4,hm3,hm2,hm1]; simp
  have b0:has m4 m.next [.ptr A 0]:=⟨by omega,m.clock + 1,by rw [g4,hm1]; simp⟩
  have b1:has m4 (m.next + 1) [int K,int N,.sc (.string ⟨⟨S⟩⟩),.lst (M.map int),.lst (encs L),.lst (encs T)]:=⟨by omega,m.clock + 2,by rw [g4,hm1]; simp⟩
  have b2:has m4 (m.next + 2) [int 0,int 0]:=⟨by omega,m.clock + 3,by rw [g4,hm1]; simp⟩
  clear hm2 hm3 hm4 hmp hmp2 hmp3
  simp [enc,Acr Abr]
  rw [← hm1]
  clear hm1
  obtain ⟨_,x0,e0⟩:=b0
  obtain ⟨_,x1,e1⟩:=b1
  obtain ⟨_,x2,e2⟩:=b2
  have fin:∀ (s':Sl) (m':Mem) (v:Val) (e:Int) (a':ArM),s'.at 4 = .ptr (m.next + 2) 0 → s'.at 5 = int e → (∃ w,m'.get (m.next + 2) = some (.cells [int v.1,int v.2] false w)) → makeM (.mk K N S M L T) a = (a',v,e) → Up X A a' m m' → Q .ret s' m':=by
   intro s' m' v e a' h4 h5 ⟨w,hg⟩ hm hu
   refine hQ _ _ _ ?_
   rw [Aaf]
   refine ⟨_,by simp [aresult,h4,h5,hg,aload,partOf]; rfl,?_⟩
   unfold MakeK
   rw [hm]
   simp only [Bool.false_eq_true,if_false,oneOf,Ah9]
   exact ⟨trivial,hu⟩
  have hA4:=hA.cut.kp k4
  have hlt2:m.next + 2 < m4.next:=by omega
  simp [hu1,hu2,hu3,e1]
  by_cases k123:K = 1 ∨ K = 2 ∨ K = 3
  ·have hl':alookup Tryz.prog 119 (.mp (m.next + 3)) (int K) true m4 = some (.tup [int K,.sc (.bool true)]):=by
    rcases k123 with rfl | rfl | rfl <;> (rw [hl]; rfl)
   simp [hl',e1,e2,Ada]
   refine fin _ _ (K,N) 0 a (by simp) (by simp) ⟨_,by simp; rfl⟩ (by rw [makeM,if_pos k123]) (Up.kp hA (k4.set (by omega) _))
  ·have hl':alookup Tryz.prog 119 (.mp (m.next + 3)) (int K) true m4 = some (.tup [int 0,.sc (.bool false)]):=by
    have hfi:([1,2,3]:List Int).findIdx? (fun x => decide (x = K)) = none:=by
     rw [List.findIdx?_eq_none_iff]
     intro x hx
     simp at hx
     simp
     omega
    rw [hl,hfi]
    simp
   simp [hl',e1]
   by_cases k5:K = 5
   ·simp [k5,e0,e1]
    refine Aae (q59 hA4 S (by have:=ft.s; omega)) ?_
    rintro _ m5 ⟨rfl,X1,hA5,kc5,hX5⟩
    have e5:=(kc5.get (m.next + 2) hlt2 (fun h => by omega)).trans e2
    simp [e5]
    refine fin _ _ (symM a S).2.1 (symM a S).2.2 (symM a S).1 (by simp) (by simp) ⟨_,by simp; rfl⟩ (by rw [makeM,if_neg k123,if_pos k5]) ?_
    exact (Ahn k4 kc5 hA5 hX5 (fun j h => h.2) (by omega) hlt2 _).less
   by_cases k4':K = 4
   ·simp [k5,k4',e0,e1,abuild,placesOf,fillAt]
    refine Aae (Acz (args:=[.ptr A 0,ceA ⟨3,0,[],S⟩]) (m:=m4) Tryz.func60 rfl rfl rfl (by simp [fzvs,fzs,fz1,ceA,byts]) (by simp [fzvs]) (q60 hA4 ⟨3,0,[],S⟩ (by simp) (by have:=ft.s; simpa using this))) ?_
    rintro _ m5 ⟨rfl,X1,hA5,kc5,hX5⟩
    have e5:=(kc5.get (m.next + 2) hlt2 (fun h => by omega)).trans e2
    simp [e5]
    refine fin _ _ (allocM a ⟨3,0,[],S⟩).2.1 (allocM a ⟨3,0,[],S⟩).2.2 (allocM a ⟨3,0,[],S⟩).1 (by simp) (by simp) ⟨_,by simp; rfl⟩ (by rw [makeM,if_neg k123,if_neg k5,if_pos k4']) ?_
    exact (Ahn k4 kc5 hA5 hX5 (fun j h => h.2) (by omega) hlt2 _).less
   by_cases k8:K = 8
   ·simp [k5,k4',k8,e0,e1]
    have hmk:makeM (.mk K N S M L T) a = (if (vecM L a).2.2 ≠ 0 then ((vecM L a).1,(0,0),(vecM L a).2.2) else allocM (vecM L a).1 ⟨2,0,(vecM L a).2.1,[]⟩):=by rw [makeM,if_neg k123,if_neg k5,if_neg k4',if_pos k8]
    refine Aar 58 L.length (fun i s' m' => ∃ a' vs X1,vecM (L.take i) a = (a',vs,0) ∧ Ar X1 A a' m' ∧ (∀ j,X1 j → ((X j ∧ j < m.next) ∨ m4.next ≤ j) ∧ j < m'.next) ∧ KpC (fun j => (X j ∧ j < m.next) ∨ m4.next ≤ j) m4 m' ∧ Acc m4 m' 2 true (vals vs) (s'.at 9) ∧ vs.length ≤ i ∧ ∀ j,owns (s'.at 9) j → ¬ X1 j) (by simp) (by have:=ft.l; omega) ⟨a,[],_,by simp [vecM],hA4,fun j h => ⟨.inl h,by omega⟩,.refl _ _,.inl ⟨rfl,by simp⟩,by simp,fun j hj => by simp at hj; exact (Ape.1 hj).elim⟩ ?_
    rintro i s' m' hi e58 ⟨a',vs,X1,hvec,hA',hX1,kc',hacc,hvl,hdis⟩ hsame hw Q' hn he
    have d2:s'.at 2 = .ptr m.next 0:=(hsame 2 (by kernel_rfl)).trans (by simp)
    have d4:s'.at 4 = .ptr (m.next + 2) 0:=(hsame 4 (by kernel_rfl)).trans (by simp)
    have d56:s'.at 56 = .lst (encs L):=(hsame 56 (by kernel_rfl)).trans (by simp)
    have d57:s'.at 57 = int L.length:=(hsame 57 (by kernel_rfl)).trans (by simp)
    clear hsame
    have n':=kc'.next
    have g0:=(kc'.get m.next (by omega) (fun h => by omega)).trans e0
    have g2:=(kc'.get (m.next + 2) (by omega) (fun h => by omega)).trans e2
    simp [e58,d57]
    refine Aad (fun h => ?_) fun h => ?_
    ·have hlt:i < L.length:=by simpa using h
     obtain ⟨x,hx⟩:∃ x,L[i]? = some x:=⟨_,List.getElem?_eq_getElem hlt⟩
     have hx':(encs L)[i]? = some (enc x):=by rw [Acq,hx]; rfl
     have hxL:=List.mem_of_getElem? hx
     have hsz:=Abt hxL
     have hix:=Aam (P:=Tryz.prog) (q:=.i64) Tryz.underlying43 Abp hx' (Aa1 x)
     have zd:List.drop 6 zeroCells = []:=rfl
     have n0:m.next ≠ m'.next:=by omega
     simp [e58,d56,hix,d2,g0,n0,zd]
     obtain ⟨M2,hM2⟩:∃ M2,M2 = (m'.new zeroCells false).set m'.next (enc x).cells:=⟨_,rfl⟩
     have kM:Kp m' M2:=by rw [hM2]; simp
     have nM:M2.next = m'.next + 1:=by rw [hM2]; simp
     rw [← hM2]
     refine Aae (ih x (by omega) (Acl hf.2.1 hxL) (Ack hgL hxL) X1 a' M2 (hA'.kp kM)) ?_
     rintro _ m5 ⟨rfl,hup⟩
     obtain ⟨X2,hA5,kc5,hX5⟩:=hup.out
     have n5:=kc5.next
     have g05:=(kc5.get m.next (by omega) (fun h => by have:=hX1 _ h; omega)).trans ((kM.get m.next (by omega)).trans g0)
     have g25:=(kc5.get (m.next + 2) (by omega) (fun h => by have:=hX1 _ h; omega)).trans ((kM.get (m.next + 2) (by omega)).trans g2)
     have kct:KpC (fun j => (X j ∧ j < m.next) ∨ m4.next ≤ j) m4 m5:=(kc'.trans (.of (.of kM))).trans (kc5.mono fun j h => (hX1 j h).1)
     have htk:vecM (L.take (i + 1)) a = vecM (L.take i ++ [x]) a:=by
      obtain ⟨h1,h2⟩:=List.getElem?_eq_some_iff.1 hx
      rw [List.take_succ_eq_append_getElem h1,h2]
     rw [Afa _ _ _ (by rw [hvec])] at htk
     simp only [hvec] at htk
     have hall:L = L.take i ++ x :: L.drop (i + 1):=by
      obtain ⟨h1,h2⟩:=List.getElem?_eq_some_iff.1 hx
      rw [← h2,List.getElem_cons_drop,List.take_append_drop]
     have hvA:=Afa (L.take i) (x :: L.drop (i + 1)) a (by rw [hvec])
     rw [← hall] at hvA
     simp only [hvec] at hvA
     by_cases hz:(makeM x a').2.2 = 0
     ·have hmx:makeM x a' = ((makeM x a').1,(makeM x a').2.1,0):=by rw [← hz]
      obtain ⟨M5,hM5⟩:∃ M5,M5 = (m5.new [int 0,int 0] false).set m5.next [int (makeM x a').2.1.1,int (makeM x a').2.1.2]:=⟨_,rfl⟩
      have k5':Kp m5 M5:=by rw [hM5]; simp
      have n6:M5.next = m5.next + 1:=by rw [hM5]; simp
      have hac5:Acc m4 M5 2 true (vals vs) (s'.at 9):=(Aa9 (hacc.kp kM) kc5 hdis).kp k5'
      have hsrc:=Abv (m:=M5.new (valA (makeM x a').2.1).cells false) (id:=M5.next) (c:=some 1) (k:=2) (ag:=true) (x:=valA (makeM x a').2.1) (w:=M5.clock + 1) (f:=false) rfl (by simp) (by simp) (by simp [valA])
      obtain ⟨v3,m6,p1,p2,p3,p4⟩:=Adh (T:=66) (m:=M5.new (valA (makeM x a').2.1).cells false) (zs:=[valA (makeM x a').2.1]) (hac5.kp (.new _ _ _)) (by simp; omega) (Aa4 _) el66 (by simp [Aao,Aba]) (by simp [fzx,fzvs]) (by have:=ft.l; simp; omega)
      have n7:=p3.next
      simp at n7
      simp only [Acv] at hsrc p1 p3 p4
      simp [hz]
      rw [← hM5]
      simp [abuildSlice,zeros,fillAt,abuiltin,hsrc,p1,e58,hw]
      have hX2l:∀ j,X2 j → j < m5.next:=fun j h => (hX5 j h).2
      have own9:∀ j,owns (s'.at 9) j → j < m'.next:=fun j h => (Aa7 hacc j h).2
      have dis2:∀ j,owns (s'.at 9) j → ¬ X2 j:=fun j h h2 => by
       rcases (hX5 j h2).1 with h3 | h3
       ·exact hdis j h h3
       ·have:=own9 j h; omega
      refine hn _ _ hlt (by simp) ⟨(makeM x a').1,vs ++ [(makeM x a').2.1],X2,by rw [htk]; simp [vecM,hz],?_,fun j h => ⟨?_,?_⟩,?_,?_,by simp; omega,fun j hj h2 => ?_⟩
      ·refine (hA5.kp (k5'.trans (.new _ _ _))).kc p3 fun j h h2 => absurd h (dis2 j h2)
      ·rcases (hX5 j h).1 with h3 | h3
       ·exact (hX1 j h3).1
       ·exact .inr (by omega)
      ·have:=hX2l j h; omega
      ·refine (kct.trans (.of (.of (k5'.trans (.new _ _ _))))).trans (p3.mono fun j h => .inr ?_)
       exact (Aa7 hacc j h).1
      ·rw [Ab8,Aay,Aef]
       simpa using p2
      ·simp at hj
       rcases p4 j hj with h3 | h3
       ·exact dis2 j h3 h2
       ·have:=hX2l j h2; simp at h3; omega
     ·have hvz:vecM L a = ((makeM x a').1,vs,(makeM x a').2.2):=by rw [hvA]; simp [vecM,hz]
      have n25:m.next + 2 ≠ m5.next:=by omega
      have d13:∀ e:Int,int e = int e:=fun _ => rfl
      simp [hz,Aan,d4,g25,n25]
      refine he _ _ _ (by simp) ?_
      simp
      refine fin _ _ (0,0) (makeM x a').2.2 (makeM x a').1 (by simp [d4]) (by simp) ⟨_,by simp; rfl⟩ (by rw [hmk,hvz]; simp [hz]) ?_
      refine (Ahn (m5:=(m5.new [int 0,int 0] false).set m5.next [int (makeM x a').2.1.1,int (makeM x a').2.1.2]) k4 (kct.cut.trans (.of (.of (by simp)))) (hA5.kp (by simp)) (fun j h => ?_) (fun j h => h.2) (by omega) hlt2 _).less
      rcases (hX5 j h).1 with h3 | h3
      ·exact (hX1 j h3).1
      ·exact .inr (by omega)
    ·have hge:i = L.length:=by have:=of_decide_eq_false h; omega
     subst hge
     simp
     refine he _ _ _ (by simp) ?_
     rw [List.take_length] at hvec
     obtain ⟨x9,hx9⟩:∃ x9,x9 = s'.at 9:=⟨_,rfl⟩
     rw [← hx9] at hacc hdis
     have hxc:x9.okc = true ∧ x9.cells = [x9]:=by
      rcases hacc with ⟨_,rfl⟩ | ⟨_,id,w,rfl,_⟩ <;> exact ⟨rfl,rfl⟩
     obtain ⟨m6,hz6,kc6⟩:=Atr (A:=A) (k:=2) hacc
     have hA6:Ar X1 A a' m6:=hA'.kc kc6 fun j h h2 => absurd h (hdis j h2)
     have n6:=kc6.next
     simp [d2,g0,← hx9,abuild,placesOf,fillAt,hxc]
     refine Aae (Acz Tryz.func60 rfl rfl rfl hz6 (by simp [fzvs]) (q60 hA6 ⟨2,0,vs,[]⟩ (by have:=ft.l; simp; omega) (by simp))) ?_
     rintro _ m7 ⟨rfl,hup⟩
     obtain ⟨X2,hA7,kc7,hX7⟩:=hup.out
     have g26:=(kc6.get (m.next + 2) (by omega) (fun h => by have:=(Aa7 hacc _ h).1; omega)).trans g2
     have g27:=(kc7.get (m.next + 2) (by omega) (fun h => by have:=hX1 _ h; omega)).trans g26
     simp [d4,g27]
     refine fin _ _ (allocM a' ⟨2,0,vs,[]⟩).2.1 (allocM a' ⟨2,0,vs,[]⟩).2.2 (allocM a' ⟨2,0,vs,[]⟩).1 (by simp [d4]) (by simp) ⟨_,by simp; rfl⟩ (by rw [hmk,hvec]; simp) ?_
     have kall:KpC (fun j => (X j ∧ j < m.next) ∨ m4.next ≤ j) m4 m7:=(kc'.trans (kc6.mono fun j h => .inr (Aa7 hacc j h).1)).trans (kc7.mono fun j h => (hX1 j h).1)
     refine (Ahn k4 kall.cut hA7 (fun j h => ?_) (fun j h => h.2) (by omega) hlt2 _).less
     rcases (hX7 j h).1 with h3 | h3
     ·exact (hX1 j h3).1
     ·exact .inr (by omega)
   have hmk:makeM (.mk K N S M L T) a = (if (lstM L (if K = 7 then tailM T a else (a,(4,0),0))).2.2 ≠ 0 then ((lstM L (if K = 7 then tailM T a else (a,(4,0),0))).1,(0,0),(lstM L (if K = 7 then tailM T a else (a,(4,0),0))).2.2) else lstM L (if K = 7 then tailM T a else (a,(4,0),0))):=by rw [makeM,if_neg k123,if_neg k5,if_neg k4',if_neg k8]
   have q1:m.next ≠ m4.next:=by omega
   have q2:m.next + 1 ≠ m4.next:=by omega
   have q3:m.next ≠ m4.next + 1:=by omega
   simp [k5,k4',k8,e0,e1,abuild,placesOf,fillAt,q1,q2,q3]
   obtain ⟨M5,hM5⟩:∃ M5,M5 = (((m4.new [int 0,int 0] false).new [int 0] false).set m4.next [int 4,int 0]).set (m4.next + 1) [int 0]:=⟨_,rfl⟩
   have kM5:Kp m4 M5:=by rw [hM5]; simp
   have nM5:M5.next = m4.next + 2:=by rw [hM5]; simp
   have gV:M5.get m4.next = some (.cells [int 4,int 0] false (m4.clock + 3)):=by rw [hM5]; simp
   have gE:M5.get (m4.next + 1) = some (.cells [int 0] false (m4.clock + 4)):=by rw [hM5]; simp
   have f0:=(kM5.get m.next (by omega)).trans e0
   have f1:=(kM5.get (m.next + 1) (by omega)).trans e1
   have f2:=(kM5.get (m.next + 2) (by omega)).trans e2
   have hA5:=hA4.kp kM5
   rw [← hM5]
   obtain ⟨r0,hr0⟩:∃ r0,r0 = (if K = 7 then tailM T a else (a,(4,0),0)):=⟨_,rfl⟩
   rw [← hr0] at hmk
   refine Aex (fun s2 m2 => s2.at 2 = .ptr m.next 0 ∧ s2.at 3 = .ptr (m.next + 1) 0 ∧ s2.at 4 = .ptr (m.next + 2) 0 ∧ s2.at 14 = .ptr m4.next 0 ∧ s2.at 15 = .ptr (m4.next + 1) 0 ∧ LInv X A m4.next (m4.next + 1) m2.next m2.next m M5 r0 m2) (fun hk7 k' hk' => ?_) (fun hk7 k' hk' => ?_) ?_
   ·have h7:K = 7:=of_decide_eq_true hk7
    subst h7
    rw [if_pos rfl] at hr0
    obtain ⟨t,rfl⟩:∃ t,T = [t]:=by
     rcases T with _ | ⟨t,_ | ⟨t2,T2⟩⟩
     ·simp [alone] at hal
     ·exact ⟨t,rfl⟩
     ·simp [alone] at hal
    rw [tailM] at hr0
    have hszt:=Abt (by simp:t ∈ [t])
    have hix:=Abe (P:=Tryz.prog) (T:=43) (q:=.i64) (x:=enc t) (l:=[]) Tryz.underlying43 Abp (by simp)
    simp only [encs] at f1
    refine Aah (by kernel_rfl) (by kernel_rfl) ?_
    simp [f0,f1,encs,hix]
    refine Aae (ih t (by simp [sizes] at hszt hs; omega) (Acl hf.2.2 (by simp)) (Ack hgT (by simp)) _ a M5 hA5) ?_
    rintro _ m6 ⟨rfl,hup⟩
    obtain ⟨X1,hA6,kc6,hX6⟩:=hup.out
    have n6:=kc6.next
    have gV6:=(kc6.get m4.next (by omega) (fun h => by omega)).trans gV
    have gE6:=(kc6.get (m4.next + 1) (by omega) (fun h => by omega)).trans gE
    have q4:m4.next + 1 ≠ m4.next:=by omega
    simp [gV6,gE6]
    refine hk' _ _ ⟨by simp,by simp,by simp,by simp,by simp,?_⟩
    rw [hr0]
    have hB:∀ j,X1 j → j ≠ m4.next ∧ j ≠ m4.next + 1 ∧ ((X j ∧ j < m.next) ∨ M5.next ≤ j) ∧ j < m6.next:=fun j h => by
     rcases (hX6 j h).1 with h3 | h3
     ·exact ⟨by omega,by omega,.inl h3,(hX6 j h).2⟩
     ·exact ⟨by omega,by omega,.inr h3,(hX6 j h).2⟩
    refine ⟨X1,(hA6.kc (Aap m4.next _ _) fun j h e => absurd e (hB j h).1).kc (Aap (m4.next + 1) _ _) fun j h e => absurd e (hB j h).2.1,fun j h => ⟨(hB j h).2.2.1,by simpa using (hB j h).2.2.2,?_,?_⟩,?_,⟨m6.clock + 1,by simp⟩,⟨m6.clock + 2,by simp⟩⟩
    ·have:=(hB j h).2.2.2; simp; omega
    ·have:=(hB j h).2.2.2; simp; omega
    ·exact ((kc6.mono fun j h => .inl h).trans ((Aap m4.next _ _).mono fun j h => .inr (.inr (.inl h)))).trans ((Aap (m4.next + 1) _ _).mono fun j h => .inr (.inr (.inr h)))
   ·have h7:¬ K = 7:=of_decide_eq_false hk7
    rw [if_neg h7] at hr0
    simp
    refine hk' _ _ ⟨by simp,by simp,by simp,by simp,by simp,?_⟩
    rw [hr0]
    exact ⟨_,hA5,fun j h => ⟨.inl h,by omega,by omega,by omega⟩,.refl _ _,⟨_,gV⟩,⟨_,gE⟩⟩
   ·rintro s2 m2 ⟨d2,d3,d4,d14,d15,X1,hA2,hX1,kc2,⟨wV,gV2⟩,⟨wE,gE2⟩⟩
    have n2:=kc2.next
    have own:∀ j,m.next ≤ j → j < m4.next → ¬ ((X j ∧ j < m.next) ∨ M5.next ≤ j ∨ j = m4.next ∨ j = m4.next + 1):=fun j h1 h2 h => by omega
    have h0:=(kc2.get m.next (by omega) (own _ (by omega) (by omega))).trans f0
    have h1:=(kc2.get (m.next + 1) (by omega) (own _ (by omega) (by omega))).trans f1
    have h2:=(kc2.get (m.next + 2) (by omega) (own _ (by omega) (by omega))).trans f2
    simp [d3,h1,(q61 L m2).go]
    refine Akn (f:=108) (a:=[]) (b:=[.ptr m2.next 0]) (by simp) (by kernel_rfl) ?_
    simp only [List.nil_append,List.singleton_append]
    generalize hcd:LCode.mk _ _ _ _ _ = c
    refine Ae8 (A1e (J:=fun k mm => LInv X A m4.next (m4.next + 1) m2.next (m2.next + 1) m M5 (lstM (L.drop k) r0) mm ∧ has mm m2.next [.lst (encs L)] ∧ ∃ ver,mm.loop (m2.next + 1) = some ⟨.ready,none,c,ver⟩ ∧ m2.next + 1 < mm.next) L ft.l ?_ (fun k mm h => h.2.1) _ ?_) ?_
    ·rintro k x mm hx ⟨⟨X2,hA7,hX2,kc7,⟨uV,hV⟩,⟨uE,hE⟩⟩,⟨dbl,dbv,dbe⟩,ver,hloop,hlt⟩
     have hid:(m2.new [AV.lst (encs L)] false).next = m2.next + 1:=by simp
     rw [hid]
     refine Ahm hloop (by rw [← hcd]; rfl) ?_
     have c1:=congrArg LCode.assign hcd
     have c2:=congrArg LCode.body hcd
     have c3:=congrArg LCode.N hcd
     have c4:=congrArg LCode.s hcd
     have c5:=congrArg LCode.ps hcd
     dsimp only at c1 c2 c3 c4 c5
     simp only [← c1,← c2,← c3,← c4,← c5]
     have nn:=kc7.next
     have h0':=(kc7.get m.next (by omega) (own _ (by omega) (by omega))).trans f0
     have zd:List.drop 6 zeroCells = []:=rfl
     have w1:m4.next + 1 ≠ mm.next:=by omega
     have w2:m4.next + 1 ≠ mm.next + 1:=by omega
     have w3:m.next ≠ mm.next:=by omega
     have w4:m.next ≠ mm.next + 1:=by omega
     have w5:m4.next ≠ mm.next:=by omega
     have w6:m4.next ≠ mm.next + 1:=by omega
     have hstep:lstM (L.drop k) r0 = lstM (x :: L.drop (k + 1)) r0:=by
      obtain ⟨h1,h2⟩:=List.getElem?_eq_some_iff.1 hx
      rw [← h2,List.getElem_cons_drop]
     rw [hstep,lstM]
     generalize lstM (L.drop (k + 1)) r0 = r at hA7 hV hE ⊢
     simp [Sl.puts,hloop,d2,d14,d15,hE,w1,w2,w5,zd]
     by_cases hr:r.2.2 = 0
     rotate_left
     ·simp [hr,hE,w1,w2,w5,d15]
      have km0:KpC (fun j => j = m2.next + 1) mm (((((mm.new zeroCells false).set mm.next (enc x).cells).setLoop (m2.next + 1) .busy none c).new [int 0,int 0] false).setLoop (m2.next + 1) .ready none c):=⟨by simp,fun id hi hx => by
       have a1:id ≠ mm.next:=by omega
       have a2:id ≠ mm.next + 1:=by omega
       simp [a1,a2],fun id hi hx => by
       have a1:id ≠ m2.next + 1:=hx
       simp [a1]⟩
      obtain ⟨r1,r2⟩:=Ah3 (r:=r) (V:=m4.next) (E:=m4.next + 1) hX2 kc7 ⟨dbl,dbv,dbe⟩ (by omega) hlt (by omega) (by omega) (by omega) (by omega) (km0.mono fun j h => .inr (.inr (.inr h))) (hA7.kc km0 fun j h e => absurd e (hX2 j h).2.2.2) (fun j h => ⟨.inl h,by have:=(hX2 j h).2.1; simp; omega⟩) ⟨uV,by simp [w5,w6,hV]⟩ ⟨uE,by simp [w1,w2,w5,hE]⟩
      exact ⟨r1,r2,by omega⟩
     ·simp [hr,d2,h0',w3,w4]
      obtain ⟨Mb,hMb⟩:∃ Mb,Mb = (((mm.new zeroCells false).set mm.next (enc x).cells).setLoop (m2.next + 1) .busy none c).new [int 0,int 0] false:=⟨_,rfl⟩
      have kb:KpC (fun j => j = m2.next + 1) mm Mb:=by
       rw [hMb]
       exact ⟨by simp,fun id hi hx => by
        have a1:id ≠ mm.next:=by omega
        have a2:id ≠ mm.next + 1:=by omega
        simp [a1,a2],fun id hi hx => by
        have a1:id ≠ m2.next + 1:=hx
        simp [a1]⟩
      have nb:Mb.next = mm.next + 2:=by rw [hMb]; simp
      have hAb:Ar X2 A r.1 Mb:=hA7.kc kb fun j h e => absurd e (hX2 j h).2.2.2
      have gbE:Mb.get (m4.next + 1) = some (.cells [int r.2.2] false uE):=by rw [hMb]; simp [w1,w2,w5,hE]
      have gbV:Mb.get m4.next = some (.cells [int r.2.1.1,int r.2.1.2] false uV):=by rw [hMb]; simp [w5,w6,hV]
      obtain ⟨uF,gbF⟩:∃ w,Mb.get (mm.next + 1) = some (.cells [int 0,int 0] false w):=⟨_,by rw [hMb]; simp; rfl⟩
      obtain ⟨uL,lbL⟩:∃ w,Mb.loop (m2.next + 1) = some ⟨.busy,none,c,w⟩:=⟨_,by rw [hMb]; simp; rfl⟩
      rw [← hMb]
      clear hMb
      have hxL:=List.mem_of_getElem? hx
      have hszx:=Abt hxL
      have nX2:∀ j,m.next ≤ j → j < M5.next → ¬ X2 j:=fun j q1 q2 h => by have:=(hX2 j h).1; omega
      refine Aae (ih x (by omega) (Acl hf.2.1 hxL) (Ack hgL hxL) X2 r.1 Mb hAb) ?_
      rintro _ m6 ⟨rfl,hup⟩
      obtain ⟨X3,hA6,kc6,hX6⟩:=hup.out
      have n6:=kc6.next
      have g6E:=(kc6.get (m4.next + 1) (by omega) (nX2 _ (by omega) (by omega))).trans gbE
      have g6V:=(kc6.get m4.next (by omega) (nX2 _ (by omega) (by omega))).trans gbV
      have g6F:=(kc6.get (mm.next + 1) (by omega) (fun h => by have:=(hX2 _ h).2.1; omega)).trans gbF
      have l6:=(kc6.x (m2.next + 1) (by omega) (fun h => (hX2 _ h).2.2.2 rfl)).1.trans lbL
      have z1:m4.next ≠ mm.next:=by omega
      have z2:mm.next ≠ m4.next:=by omega
      have z3:m4.next ≠ mm.next + 1:=by omega
      have z4:mm.next + 1 ≠ m4.next:=by omega
      simp [g6F,g6E,z1,z2,z3,z4,d15]
      by_cases hz:(makeM x r.1).2.2 = 0
      rotate_left
      ·simp [hz,l6]
       have hX3:∀ j,X3 j → (X2 j ∨ mm.next + 2 ≤ j) ∧ j < m6.next:=fun j h => ⟨(hX6 j h).1.imp id fun h => by omega,(hX6 j h).2⟩
       have hne:∀ j,X3 j → j ≠ mm.next + 1 ∧ j ≠ m4.next + 1 ∧ j ≠ m2.next + 1:=fun j h => by
        rcases (hX3 j h).1 with q | q
        ·have q1:=hX2 j q
         exact ⟨by omega,fun e => nX2 _ (by omega) (by omega) (e ▸ q),q1.2.2.2⟩
        ·omega
       have ks:KpC (fun j => (X2 j ∨ j = m4.next ∨ j = m4.next + 1 ∨ j = m2.next + 1) ∨ mm.next ≤ j) mm (((m6.set (mm.next + 1) [int (makeM x r.1).2.1.1,int (makeM x r.1).2.1.2]).set (m4.next + 1) [int (makeM x r.1).2.2]).setLoop (m2.next + 1) .ready none c) :=
        ((((kb.mono fun j h => .inl (.inr (.inr (.inr h)))).trans (kc6.mono fun j h => .inl (.inl h))).trans ((Aap (mm.next + 1) _ _).mono fun j h => .inr (by omega))).trans ((Aap (m4.next + 1) _ _).mono fun j h => .inl (.inr (.inr (.inl h))))).trans ((Ace (m2.next + 1) _ _ _ _).mono fun j h => .inl (.inr (.inr (.inr h))))
       obtain ⟨r1,r2⟩:=Ah3 (r:=((makeM x r.1).1,r.2.1,(makeM x r.1).2.2)) (V:=m4.next) (E:=m4.next + 1) hX2 kc7 ⟨dbl,dbv,dbe⟩ (by omega) hlt (by omega) (by omega) (by omega) (by omega) ks.cut (((hA6.kc (Aap (mm.next + 1) _ _) fun j h e => absurd e (hne j h).1).kc (Aap (m4.next + 1) _ _) fun j h e => absurd e (hne j h).2.1).kc (Ace (m2.next + 1) _ _ _ _) fun j h e => absurd e (hne j h).2.2) (fun j h => ⟨(hX3 j h).1.imp id fun h => by omega,by have:=(hX3 j h).2; simp; omega⟩) ⟨uV,by simp [z1,z2,z3,z4,g6V]⟩ ⟨m6.clock + 2,by simp⟩
       exact ⟨r1,r2,by omega⟩
      ·have z5:m.next ≠ m4.next + 1:=by omega
       have g60:=(kc6.get m.next (by omega) (nX2 _ (by omega) (by omega))).trans ((kb.get m.next (by omega) (by omega)).trans h0')
       simp [hz,d2,d14,g60,w4,z5,z1,z2,z3,z4,g6V,abuildSlice,zeros,fillAt,abuild,placesOf]
       have hX3:∀ j,X3 j → (X2 j ∨ mm.next + 2 ≤ j) ∧ j < m6.next:=fun j h => ⟨(hX6 j h).1.imp id fun h => by omega,(hX6 j h).2⟩
       have hne:∀ j,X3 j → j ≠ mm.next + 1 ∧ j ≠ m4.next + 1 ∧ j ≠ m2.next + 1 ∧ j ≠ m4.next:=fun j h => by
        rcases (hX3 j h).1 with q | q
        ·have q1:=hX2 j q
         exact ⟨by omega,fun e => nX2 _ (by omega) (by omega) (e ▸ q),q1.2.2.2,fun e => nX2 _ (by omega) (by omega) (e ▸ q)⟩
        ·omega
       obtain ⟨M7,hM7⟩:∃ M7,M7 = (((m6.set (mm.next + 1) [int (makeM x r.1).2.1.1,int (makeM x r.1).2.1.2]).set (m4.next + 1) [int 0]).new [int (makeM x r.1).2.1.1,int (makeM x r.1).2.1.2,int r.2.1.1,int r.2.1.2] false):=⟨_,rfl⟩
       have ks7:KpC (fun j => j = mm.next + 1 ∨ j = m4.next + 1) m6 M7:=by
        rw [hM7]
        exact (((Aap (mm.next + 1) _ _).mono fun j h => .inl h).trans ((Aap (m4.next + 1) _ _).mono fun j h => .inr h)).trans (.of (.of (.new _ _ _)))
       have n7:M7.next = m6.next + 1:=by rw [hM7]; simp
       have hA7':Ar X3 A (makeM x r.1).1 M7:=hA6.kc ks7 fun j h e => by have:=hne j h; omega
       obtain ⟨w7,g7⟩:∃ w,M7.get m6.next = some (.cells [int (makeM x r.1).2.1.1,int (makeM x r.1).2.1.2,int r.2.1.1,int r.2.1.2] false w):=⟨_,by rw [hM7]; simp; rfl⟩
       obtain ⟨u7E,g7E⟩:∃ w,M7.get (m4.next + 1) = some (.cells [int 0] false w):=⟨m6.clock + 2,by
        have a1:m4.next + 1 ≠ m6.next:=by omega
        rw [hM7]; simp [a1]⟩
       have l7:M7.loop (m2.next + 1) = some ⟨.busy,none,c,uL⟩:=by rw [hM7]; simp; exact l6
       rw [← hM7]
       clear hM7
       have hA8:Ar X3 A (makeM x r.1).1 (M7.mark m6.next (flat (vals [(makeM x r.1).2.1,r.2.1])) w7):=hA7'.kc (Agn m6.next _ _ _) fun j h e => by have:=(hX3 j h).2; omega
       refine Aae (Acz Tryz.func60 rfl rfl rfl (Apo (x:=(makeM x r.1).2.1) (y:=r.2.1) g7) (by simp [fzvs]) (q60 hA8 ⟨1,0,[(makeM x r.1).2.1,r.2.1],[]⟩ (by simp) (by simp))) ?_
       rintro _ m9 ⟨rfl,hup⟩
       obtain ⟨X4,hA9,kc9,hX9⟩:=hup.out
       have n9:=kc9.next
       simp [n7] at n9
       have nX3:∀ j,m.next ≤ j → j < M5.next → ¬ X3 j:=fun j q1 q2 h => by
        rcases (hX3 j h).1 with q | q
        ·exact nX2 j q1 q2 q
        ·omega
       have kall:KpC (fun j => (X2 j ∨ j = m4.next ∨ j = m4.next + 1 ∨ j = m2.next + 1) ∨ mm.next ≤ j) mm m9 :=
        ((((kb.mono fun j h => .inl (.inr (.inr (.inr h)))).trans (kc6.mono fun j h => .inl (.inl h))).trans (ks7.mono fun j h => h.elim (fun h => .inr (by omega)) fun h => .inl (.inr (.inr (.inl h))))).trans ((Agn m6.next _ _ _).mono fun j h => .inr (by omega))).trans (kc9.mono fun j h => (hX3 j h).1.imp .inl fun h => by omega)
       have g9V:m9.get m4.next = some (.cells [int r.2.1.1,int r.2.1.2] false uV):=by
        rw [kc9.get m4.next (by simp; omega) (nX3 _ (by omega) (by omega))]
        have a1:m4.next ≠ m6.next:=by omega
        simp [a1]
        rw [ks7.get m4.next (by omega) (by omega)]
        exact g6V
       have g9E:m9.get (m4.next + 1) = some (.cells [int 0] false u7E):=by
        rw [kc9.get (m4.next + 1) (by simp; omega) (nX3 _ (by omega) (by omega))]
        have a1:m4.next + 1 ≠ m6.next:=by omega
        simp [a1]
        exact g7E
       have l9:m9.loop (m2.next + 1) = some ⟨.busy,none,c,uL⟩:=by
        rw [(kc9.x (m2.next + 1) (by simp; omega) (fun h => (hne _ h).2.2.1 rfl)).1]
        simp
        exact l7
       simp [d14,d15,g9V,g9E,l9]
       have hX4:∀ j,X4 j → (X2 j ∨ mm.next + 2 ≤ j) ∧ j < m9.next:=fun j h => by
        refine ⟨?_,(hX9 j h).2⟩
        rcases (hX9 j h).1 with q | q
        ·exact (hX3 j q).1
        ·simp at q; exact .inr (by omega)
       have hne4:∀ j,X4 j → j ≠ m4.next + 1 ∧ j ≠ m2.next + 1 ∧ j ≠ m4.next:=fun j h => by
        rcases (hX4 j h).1 with q | q
        ·exact ⟨fun e => nX2 _ (by omega) (by omega) (e ▸ q),(hX2 j q).2.2.2,fun e => nX2 _ (by omega) (by omega) (e ▸ q)⟩
        ·omega
       obtain ⟨al,hal2⟩:∃ al,al = allocM (makeM x r.1).1 ⟨1,0,[(makeM x r.1).2.1,r.2.1],[]⟩:=⟨_,rfl⟩
       rw [← hal2] at hA9 ⊢
       have ks:KpC (fun j => (X2 j ∨ j = m4.next ∨ j = m4.next + 1 ∨ j = m2.next + 1) ∨ mm.next ≤ j) mm (((m9.set m4.next [int al.2.1.1,int al.2.1.2]).set (m4.next + 1) [int al.2.2]).setLoop (m2.next + 1) .ready none c) :=
        ((kall.trans ((Aap m4.next _ _).mono fun j h => .inl (.inr (.inl h)))).trans ((Aap (m4.next + 1) _ _).mono fun j h => .inl (.inr (.inr (.inl h))))).trans ((Ace (m2.next + 1) _ _ _ _).mono fun j h => .inl (.inr (.inr (.inr h))))
       obtain ⟨r1,r2⟩:=Ah3 (r:=al) (V:=m4.next) (E:=m4.next + 1) hX2 kc7 ⟨dbl,dbv,dbe⟩ (by omega) hlt (by omega) (by omega) (by omega) (by omega) ks.cut (((hA9.kc (Aap m4.next _ _) fun j h e => absurd e (hne4 j h).2.2).kc (Aap (m4.next + 1) _ _) fun j h e => absurd e (hne4 j h).1).kc (Ace (m2.next + 1) _ _ _ _) fun j h e => absurd e (hne4 j h).2.1) (fun j h => ⟨(hX4 j h).1.imp id fun h => by omega,by have:=(hX4 j h).2; simp; omega⟩) ⟨m9.clock + 1,by simp⟩ ⟨m9.clock + 2,by simp⟩
       exact ⟨r1,r2,by omega⟩
    ·rw [List.drop_length,lstM]
     have w5:m4.next ≠ m2.next:=by omega
     have w6:m4.next + 1 ≠ m2.next:=by omega
     refine ⟨⟨X1,hA2.kp (by simp),fun j h => ⟨(hX1 j h).1,?_,(hX1 j h).2.2.1,?_⟩,kc2.trans (.of (.of (by simp))),⟨wV,by simp [w5,gV2]⟩,⟨wE,by simp [w6,gE2]⟩⟩,⟨by simp,_,by simp; rfl⟩,_,by simp; rfl,by simp⟩
     ·have:=(hX1 j h).2.1; simp; omega
     ·have:=(hX1 j h).2.1; omega
    ·rintro v mm ⟨rfl,⟨X2,hA7,hX2,kc7,⟨uV,hV⟩,⟨uE,hE⟩⟩,_,ver,hloop,hlt⟩
     rw [List.drop_zero] at hA7 hV hE
     have nn:=kc7.next
     have h2':=(kc7.get (m.next + 2) (by omega) (own _ (by omega) (by omega))).trans f2
     have kfin:KpC (fun j => X j ∧ j < m.next) m4 (mm.killLoop (m2.next + 1)):=by
      have a1:KpC (fun j => (X j ∧ j < m.next) ∨ m4.next ≤ j) m4 mm:=(KpC.of (.of kM5)).trans (kc7.mono fun j h => h.imp id fun h => by omega)
      have a2:KpC (fun j => (X j ∧ j < m.next) ∨ m4.next ≤ j) mm (mm.killLoop (m2.next + 1)):=⟨by simp,fun id hi hx => by simp,fun id hi hx => by
       have:id ≠ m2.next + 1:=fun e => hx (.inr (by omega))
       simp [this]⟩
      exact (a1.trans a2).cut
     have hA8:Ar X2 A (lstM L r0).1 (mm.killLoop (m2.next + 1)):=hA7.kc (Y:=fun j => j = m2.next + 1) ⟨by simp,fun id hi hx => by simp,fun id hi hx => by
      have:id ≠ m2.next + 1:=hx
      simp [this]⟩ fun j h e => absurd e (hX2 j h).2.2.2
     have hX8:∀ j,X2 j → (X j ∧ j < m.next) ∨ m4.next ≤ j:=fun j h => (hX2 j h).1.imp id fun h => by omega
     refine ⟨_,.normal,by simpa using hloop,by simp,rfl,?_⟩
     by_cases hz:(lstM L r0).2.2 = 0
     ·simp [d15,d14,d4,hE,hV,hz,h2']
      refine fin _ _ (lstM L r0).2.1 0 (lstM L r0).1 (by simp [d4]) (by simp) ⟨_,by simp; rfl⟩ (by rw [hmk,if_neg (by simp [hz]),← hz]) ?_
      exact (Ahn k4 kfin hA8 hX8 (fun j h => h.2) (by omega) hlt2 _).less
     ·simp [d15,d14,d4,hE,hV,hz]
      refine Aax (by kernel_rfl) ?_
      simp [d15,d14,d4,hE,hV,hz,h2',Aan]
      have w7:m4.next + 1 ≠ m.next + 2:=by omega
      have w8:m4.next ≠ m.next + 1:=by omega
      refine Abh (l:=[(1,2)]) (by kernel_rfl) (?_:List.all _ _ = true) ?_
      ·simp [metAtD,metOkD,rank,verKeptD,Region.wanted,Mem.ver,hE,w7,Ne.symm w7,w8]
      simp [d4]
      refine fin _ _ (0,0) (lstM L r0).2.2 (lstM L r0).1 (by simp [d4]) (by simp) ⟨_,by simp; rfl⟩ (by rw [hmk,if_pos hz]) ?_
      exact (Ahn k4 kfin hA8 hX8 (fun j h => h.2) (by omega) hlt2 _).less
def ofM (d:Dat) (a:ArM):ArM × Val × Int:=if chk d = 0 then makeM d a else (a,(0,0),chk d)
theorem q21 {X:Nat → Prop} {A:Nat} {a:ArM} {m:Mem} (hA:Ar X A a m) (d:Dat) (hd:d.fits):wph Tryz.prog ca (.func 21) [.ptr A 0,enc d] m fun v m' => v = .tup [valA (ofM d a).2.1,int (ofM d a).2.2] ∧ Up X A (ofM d a).1 m m':=by
 refine Aas Tryz.func21 rfl rfl (by simp [Tryz.f21]) (by simp [Tryz.f21]) fun Q hQ => ?_
 simp only [Tryz.f21,show ca.keepRes 21 = false from rfl,show ca.keepArgs 21 = false from rfl] at hQ ⊢
 have k1:Kp m ((m.new (enc d).cells false).new [int 0,int 0] false):=by simp
 have q1:=q34 (hA.kp k1)
 have fin:∀ (s':Sl) (m':Mem) (v:Val) (e:Int) (a':ArM),s'.at 4 = .ptr (m.next + 1) 0 → s'.at 5 = int e → (∃ w,m'.get (m.next + 1) = some (.cells [int v.1,int v.2] false w)) → ofM d a = (a',v,e) → Up X A a' m m' → Q .ret s' m':=by
  intro s' m' v e a' h4 h5 ⟨w,hg⟩ hm hu
  refine hQ _ _ _ ?_
  rw [Aaf]
  refine ⟨_,by simp [aresult,h4,h5,hg,aload,partOf]; rfl,?_⟩
  rw [hm]
  simp only [Bool.false_eq_true,if_false,oneOf,Ah9]
  exact ⟨trivial,hu⟩
 simp [q1.go,(Ad2 (g14 d hd)).go]
 by_cases hc:chk d = 0
 ·simp [hc]
  refine Aae (q36 d.size d (Nat.le_refl _) hd (Aps hc).1 _ a _ (hA.cut.kp k1)) ?_
  rintro _ m5 ⟨rfl,hup⟩
  obtain ⟨X1,hA5,kc5,hX5⟩:=hup.out
  have g5:m5.get (m.next + 1) = some (.cells [int 0,int 0] false (m.clock + 2)):=by
   rw [kc5.get (m.next + 1) (by simp) (fun h => by omega)]
   simp
  simp [g5]
  refine fin _ _ (makeM d a).2.1 (makeM d a).2.2 (makeM d a).1 (by simp) (by simp) ⟨_,by simp; rfl⟩ (by rw [ofM,if_pos hc]) ?_
  exact (Ahn k1 kc5 hA5 (fun j h => (hX5 j h).1) (fun j h => h.2) (by omega) (by simp) _).less
 ·simp [hc,Aan]
  refine fin _ _ (0,0) (chk d) a (by simp) (by simp) ⟨_,by simp; rfl⟩ (by rw [ofM,if_neg hc]) (Up.kp hA (by simp))
theorem q55 {X:Nat → Prop} {A:Nat} {a:ArM} {m:Mem} (hA:Ar X A a m):EH Tryz.prog ca (.func 55) [.ptr A 0] m (.tup [int a.cells.length,int a.names.length]) m:=by
 refine Abj Tryz.func55 rfl rfl rfl rfl (args1:=[.ptr A 0]) (m1:=m) (by simp [fzvs]) (by simp [AV.bel,AV.bels]) (by simp [Tryz.f55]) (by simp [Tryz.f55]) ?_
 have q1:=q34 hA
 obtain ⟨t,M,cs,ns,xs,h,hx⟩:=hA
 obtain ⟨w,hv⟩:=h.get
 have lc:=fun m' R => Acd (T:=74) (R:=R) (m':=m') h.cells Tryz.underlying74
 have ln:=fun m' R => Acd (T:=85) (R:=R) (m':=m') h.names Tryz.underlying85
 simp only [List.length_zipWith,h.len,Nat.min_self,List.length_map] at lc ln
 simp only [Tryz.f55,show ca.keepRes 55 = false from rfl]
 simp [q1.go]
 refine Aah (by kernel_rfl) (by kernel_rfl) ?_
 simp [hv,lc,ln]
theorem two51:Two Tryz.prog 51 3 2:=⟨⟨_,_,Tryz.underlying51,by decide,by decide,rfl,rfl,rfl,rfl⟩,tagg3,tagg2,by kernel_rfl,by kernel_rfl⟩
theorem Ajb {xo yo:Operand} (v w:Val):abin Tryz.prog .eql 51 xo yo (valA v) (valA w) = some (.sc (.bool (decide (v = w)))):=by
 have:=(Ap2 (xo:=xo) (yo:=yo) two51 (x1:=.int .i64 v.1) (y1:=.int .i64 w.1) (x2:=.int .i64 v.2) (y2:=.int .i64 w.2) (b1:=decide (v.1 = w.1)) (b2:=decide (v.2 = w.2)) (fun d => by rw [Adz Tryz.underlying3]) (fun d => by rw [Adz Tryz.underlying2])).1
 have e:decide (v = w) = (decide (v.1 = w.1) && decide (v.2 = w.2)):=by
  obtain ⟨a,b⟩:=v
  obtain ⟨c,d⟩:=w
  simp [Prod.ext_iff]
 rw [e]
 exact this
mutual
def eqM (a:ArM):Nat → Int → Val → Val → Bool × Int
 | 0,left,_,_ => (false,left)
 | n + 1,left,x,y =>
  if left - 1 < 0 then (false,left - 1) else if x = y then (true,left - 1) else
  match ixM a x,ixM a y with
  | some i,some j => if (a.cells.getD i zeroC).k ≠ (a.cells.getD j zeroC).k ∨ 3 < (a.cells.getD i zeroC).k ∨ (a.cells.getD i zeroC).s ≠ (a.cells.getD j zeroC).s then (false,left - 1) else
   if (a.cells.getD i zeroC).a.length ≠ (a.cells.getD j zeroC).a.length then (false,left - 1) else eqsM a n (left - 1) (a.cells.getD i zeroC).a (a.cells.getD j zeroC).a
  | _,_ => (false,left - 1)
def eqsM (a:ArM):Nat → Int → List Val → List Val → Bool × Int
 | n,left,x :: xs,y :: ys => if (eqM a n left x y).1 = true then eqsM a n (eqM a n left x y).2 xs ys else (false,(eqM a n left x y).2)
 | _,left,_,_ => (true,left)
end
theorem Atw {a:ArM} {n:Nat} (ih:∀ left x y,0 ≤ left → (eqM a n left x y).2 ≤ left ∧ -1 ≤ (eqM a n left x y).2 ∧ ((eqM a n left x y).1 = true → 0 ≤ (eqM a n left x y).2)):∀ (xs ys:List Val) (left:Int),0 ≤ left → (eqsM a n left xs ys).2 ≤ left ∧ -1 ≤ (eqsM a n left xs ys).2 ∧ ((eqsM a n left xs ys).1 = true → 0 ≤ (eqsM a n left xs ys).2)
 | [],ys,left,h => by rw [eqsM]; exact ⟨Int.le_refl _,by omega,fun _ => h⟩; simp
 | x :: xs,[],left,h => by rw [eqsM]; exact ⟨Int.le_refl _,by omega,fun _ => h⟩; simp
 | x :: xs,y :: ys,left,h => by
  obtain ⟨h1,h2,h3⟩:=ih left x y h
  rw [eqsM]
  split
  ·rename_i hc
   have:=Atw ih xs ys (eqM a n left x y).2 (h3 hc)
   exact ⟨by omega,this.2⟩
  ·exact ⟨h1,h2,by simp⟩
theorem eq_le (a:ArM):∀ (n:Nat) (left:Int) (x y:Val),0 ≤ left → (eqM a n left x y).2 ≤ left ∧ -1 ≤ (eqM a n left x y).2 ∧ ((eqM a n left x y).1 = true → 0 ≤ (eqM a n left x y).2)
 | 0,left,x,y,h => by rw [eqM]; exact ⟨Int.le_refl _,by omega,by simp⟩
 | n + 1,left,x,y,h => by
  rw [eqM]
  split
  ·exact ⟨by dsimp only; omega,by dsimp only; omega,by simp⟩
  split
  ·exact ⟨by dsimp only; omega,by dsimp only; omega,fun _ => by dsimp only; omega⟩
  split
  ·split
   ·exact ⟨by dsimp only; omega,by dsimp only; omega,by simp⟩
   split
   ·exact ⟨by dsimp only; omega,by dsimp only; omega,by simp⟩
   have:=Atw (n:=n) (fun l x y h => eq_le a n l x y h) (a.cells.getD ‹_› zeroC).a (a.cells.getD ‹_› zeroC).a (left - 1) (by omega)
   rename_i i j _ _ _ _
   have:=Atw (n:=n) (fun l x y h => eq_le a n l x y h) (a.cells.getD i zeroC).a (a.cells.getD j zeroC).a (left - 1) (by omega)
   exact ⟨by omega,this.2⟩
  ·exact ⟨by dsimp only; omega,by dsimp only; omega,by simp⟩
theorem q76 {A L v:Nat} {left:Int} {m:Mem} (h:m.get L = some (.cells [.ptr A 0,int left] false v)) (h1:0 ≤ left) (h2:left ≤ 1024):EH Tryz.prog ca (.func 76) [.ptr L 0] m (.sc (.bool (decide (0 ≤ left - 1)))) (m.set L [.ptr A 0,int (left - 1)]):=by
 refine eh_of ?_
 refine Aas Tryz.func76 rfl rfl (by simp [Tryz.f76]) (by simp [Tryz.f76]) fun Q hQ => ?_
 simp only [Tryz.f76,show ca.keepRes 76 = false from rfl,show ca.keepArgs 76 = false from rfl] at hQ ⊢
 have hw:IntKind.i64.wrap (left - 1) = left - 1:=IntWalk.i64_in _ (by omega)
 simp [h,hw]
 refine hQ _ _ _ ?_
 simp
theorem El.kc {m m':Mem} {x:AV} {l:List Val} {Y:Nat → Prop} (h:El m x l) (k:KpC Y m m') (hY:∀ j,owns x j → ¬ Y j):El m' x l:=by
 rcases h with rfl | ⟨rfl,rfl⟩ | ⟨h,id,v,f,rfl,h1,h2⟩
 ·exact .inl rfl
 ·exact .inr (.inl ⟨rfl,rfl⟩)
 ·exact .inr (.inr ⟨h,id,v,f,rfl,Nat.lt_of_lt_of_le h1 k.next,by rw [k.get id h1 (hY id rfl)]; exact h2⟩)
theorem El.len {m m':Mem} {x:AV} {l:List Val} {R:TypeId} (h:El m x l):abuiltin Tryz.prog .len #[66] R [x] m' = some (int l.length,m'):=by
 rcases h with rfl | ⟨rfl,rfl⟩ | ⟨_,id,v,f,rfl,_⟩
 ·rw [Aat Tryz.underlying66,Aav]
 ·exact Adb Tryz.underlying66
 ·rw [Abw Tryz.underlying66]
theorem El.at {m:Mem} {x:AV} {l:List Val} (h:El m x l) {i:Nat} {v:Val} (hv:l[i]? = some v):∃ p,aindexAddr Tryz.prog 66 x (int i) = some p ∧ ∀ m',(∀ j,owns x j → m'.get j = m.get j) → aload Tryz.prog 51 p m' = some (valA v):=by
 have hi:=(List.getElem?_eq_some_iff.1 hv).1
 rcases h with rfl | ⟨rfl,rfl⟩ | ⟨_,id,w,f,rfl,h1,h2⟩
 ·refine ⟨_,Aak hv,fun m' _ => ?_⟩
  simp [aload,Afh Ao7 Abf,Aaa]
 ·simp at hv
 ·have hv':(vals l)[i]? = some (valA v):=by rw [Aeg,hv]; rfl
  obtain ⟨q1,q2⟩:=Abq (Aa4 l) hv'
  refine ⟨_,Aaj Tryz.underlying66 Abf hi,fun m' hm => ?_⟩
  have hg:=(hm id rfl).trans h2
  simp only [aload,hg,Nat.zero_add]
  rw [Afh Ao7 Abf,if_pos q1,q2]
  rfl
theorem El.okc {m:Mem} {x:AV} {l:List Val} (h:El m x l):x.okc = true ∧ x.cells = [x]:=by
 rcases h with rfl | ⟨_,rfl⟩ | ⟨_,id,v,f,rfl,_⟩ <;> exact ⟨rfl,rfl⟩
theorem Afx:∀ s:List UInt8,(byts s).mapM V.byteOf = some s
 | [] => rfl
 | b :: s => by
  have ih:=Afx s
  have hb:V.byteOf (.sc (.int .u8 b.toNat)) = some b:=by simp [V.byteOf]
  simp only [byts,List.map_cons,List.mapM_cons,hb] at ih ⊢
  rw [ih]
  rfl
def EqK (A L:Nat) (r:Bool × Int) (m:Mem) (v:AV) (m':Mem):Prop:=v = .sc (.bool r.1) ∧ has m' L [.ptr A 0,int r.2] ∧ KpC (fun j => j = L) m m'
theorem q78 {X:Nat → Prop} {A L:Nat} {a:ArM} {n:Nat} (ih:∀ (left:Int) (x y:Val) (m:Mem),Ar X A a m → has m L [.ptr A 0,int left] → 0 ≤ left → left ≤ 1024 → left < n → wph Tryz.prog ca (.func 42) [.ptr L 0,valA x,valA y] m (EqK A L (eqM a n left x y) m))
  (hXL:¬ X L) {x1 x2:AV} {l1 l2:List Val} {left:Int} {m:Mem} (hA:Ar X A a m) (hL:has m L [.ptr A 0,int left]) (h0:0 ≤ left) (h1:left ≤ 1024) (hn0:left < n) (e1:El m x1 l1) (e2:El m x2 l2) (o1:∀ j,owns x1 j → X j) (o2:∀ j,owns x2 j → X j) (hl:l1.length ≤ 4096) :
  wph Tryz.prog ca (.func 78) [x1,x2,.fn (.func 42) [.ptr L 0] []] m (EqK A L (if l1.length ≠ l2.length then (false,left) else eqsM a n left l1 l2) m):=by
 refine Aas Tryz.func78 rfl rfl (by simp [Tryz.f78]) (by simp [Tryz.f78]) fun Q hQ => ?_
 simp only [Tryz.f78,show ca.keepRes 78 = false from rfl,show ca.keepArgs 78 = true from rfl] at hQ ⊢
 have fin:∀ (e:Ex) (s':Sl) (m':Mem) (r:Bool × Int),(e = .normal ∨ e = .ret) → s'.at 6 = .sc (.bool r.1) → has m' L [.ptr A 0,int r.2] → KpC (fun j => j = L) m m' → (if l1.length ≠ l2.length then (false,left) else eqsM a n left l1 l2) = r → Q e s' m':=by
  intro e s' m' r he h6 hL' kc hr
  rw [hr] at hQ
  exact hQ _ _ _ (Aac he h6 ⟨rfl,hL',kc⟩)
 simp [e1.len,e2.len]
 by_cases hln:l1.length = l2.length
 rotate_left
 ·have hln':¬ (l1.length:Int) = l2.length:=by omega
  simp [hln']
  exact fin _ _ _ (false,left) (.inr rfl) (by simp) hL (.refl _ _) (if_pos hln)
 simp [hln,e1.len]
 refine Aar 17 l2.length (fun i s' m' => ∃ lf,eqsM a n left l1 l2 = eqsM a n lf (l1.drop i) (l2.drop i) ∧ 0 ≤ lf ∧ lf ≤ 1024 ∧ lf < n ∧ has m' L [.ptr A 0,int lf] ∧ KpC (fun j => j = L) m m') (by simp) (by omega) ⟨left,by simp,h0,h1,hn0,hL,.refl _ _⟩ ?_
 rintro i s' m' hi e17 ⟨lf,heq,hf0,hf1,hf2,hL',kc⟩ hsame hw Q' hn he
 have d1:s'.at 1 = x2:=(hsame 1 (by kernel_rfl)).trans (by simp)
 have d2:s'.at 2 = .fn (.func 42) [.ptr L 0] []:=(hsame 2 (by kernel_rfl)).trans (by simp)
 have d15:s'.at 15 = x1:=(hsame 15 (by kernel_rfl)).trans (by simp)
 have d16:s'.at 16 = int l2.length:=(hsame 16 (by kernel_rfl)).trans (by simp)
 clear hsame
 simp [e17,d16]
 refine Aad (fun h => ?_) fun h => ?_
 ·have hlt:i < l2.length:=by simpa using h
  obtain ⟨v1,hv1⟩:∃ v,l1[i]? = some v:=⟨_,List.getElem?_eq_getElem (by omega)⟩
  obtain ⟨v2,hv2⟩:∃ v,l2[i]? = some v:=⟨_,List.getElem?_eq_getElem hlt⟩
  obtain ⟨p1,a1,b1⟩:=(e1.kc kc fun j hj e => hXL (e ▸ o1 j hj)).at hv1
  obtain ⟨p2,a2,b2⟩:=(e2.kc kc fun j hj e => hXL (e ▸ o2 j hj)).at hv2
  have na1:∀ cs,aload Tryz.prog 51 p2 ((m'.new [int 0,int 0] false).set m'.next cs) = some (valA v2):=fun cs => b2 _ fun j hj => by
   have:j < m'.next:=by
    rcases e2 with rfl | ⟨_,rfl⟩ | ⟨_,id,w,f,rfl,q,_⟩
    ·exact hj.elim
    ·exact hj.elim
    ·have e:id = j:=hj
     have:=kc.next
     omega
   have hne:j ≠ m'.next:=by omega
   simp [hne]
  simp [e17,d15,d1,a1,b1 m' (fun _ _ => rfl),a2,na1,d2,Aaa]
  obtain ⟨Mc,hMc⟩:∃ Mc,Mc = (((m'.new [int 0,int 0] false).set m'.next [int v1.1,int v1.2]).new [int 0,int 0] false).set (m'.next + 1) [int v2.1,int v2.2]:=⟨_,rfl⟩
  have kMc:Kp m' Mc:=by rw [hMc]; simp
  rw [← hMc]
  have hAc:Ar X A a Mc:=(hA.kc kc fun j hj e => absurd hj (e ▸ hXL)).kp kMc
  refine Aae (ih lf v1 v2 Mc hAc (hL'.kp kMc) hf0 hf1 hf2) ?_
  rintro _ m5 ⟨rfl,hL5,kc5⟩
  obtain ⟨b1,b2,b3⟩:=eq_le a n lf v1 v2 hf0
  have hd1:l1.drop i = v1 :: l1.drop (i + 1):=by
   obtain ⟨h1,h2⟩:=List.getElem?_eq_some_iff.1 hv1
   rw [← h2,List.getElem_cons_drop]
  have hd2:l2.drop i = v2 :: l2.drop (i + 1):=by
   obtain ⟨h1,h2⟩:=List.getElem?_eq_some_iff.1 hv2
   rw [← h2,List.getElem_cons_drop]
  rw [hd1,hd2,eqsM] at heq
  have kall:KpC (fun j => j = L) m m5:=(kc.trans (.of (.of kMc))).trans kc5
  cases hq:(eqM a n lf v1 v2).1 with
  | true =>
   rw [if_pos hq] at heq
   simp [e17,hw]
   exact hn _ _ hlt (by simp) ⟨_,heq,b3 hq,by omega,by omega,hL5,kall⟩
  | false =>
   rw [if_neg (by simp [hq])] at heq
   simp
   refine he _ _ _ (by simp) ?_
   simp
   exact fin _ _ _ (false,(eqM a n lf v1 v2).2) (.inr rfl) (by simp) hL5 kall (by rw [if_neg (by simp [hln]),heq])
 ·have hge:i = l2.length:=by have:=of_decide_eq_false h; omega
  subst hge
  simp
  refine he _ _ _ (by simp) ?_
  simp
  refine fin _ _ _ (true,lf) (.inr rfl) (by simp) hL' kc ?_
  rw [if_neg (by simp [hln]),heq,List.drop_eq_nil_of_le (Nat.le_of_eq hln),eqsM]
  simp
theorem q42 {X:Nat → Prop} {A L:Nat} {a:ArM} (hsm:Small a) (hXL:¬ X L):∀ (n:Nat) (left:Int) (x y:Val) (m:Mem),Ar X A a m → has m L [.ptr A 0,int left] → 0 ≤ left → left ≤ 1024 → left < n → wph Tryz.prog ca (.func 42) [.ptr L 0,valA x,valA y] m (EqK A L (eqM a n left x y) m)
 | 0,left,x,y,m,_,_,h0,_,h2 => by omega
 | n + 1,left,x,y,m,hA,hL,h0,h1,h2 => by
  have ih:=q42 (X:=X) (A:=A) (L:=L) hsm hXL n
  refine Aas Tryz.func42 rfl rfl (by simp [Tryz.f42]) (by simp [Tryz.f42]) fun Q hQ => ?_
  simp only [Tryz.f42,show ca.keepRes 42 = false from rfl,show ca.keepArgs 42 = false from rfl] at hQ ⊢
  obtain ⟨hLl,wL,gL⟩:=hL
  have nL:m.next ≠ L:=by omega
  have nL1:m.next + 1 ≠ L:=by omega
  have nL':L ≠ m.next:=by omega
  have nL1':L ≠ m.next + 1:=by omega
  have k1:Kp m ((m.new [int x.1,int x.2] false).new [int y.1,int y.2] false):=by simp
  obtain ⟨M1,hM1⟩:∃ M1,M1 = ((m.new [int x.1,int x.2] false).new [int y.1,int y.2] false).set L [.ptr A 0,int (left - 1)]:=⟨_,rfl⟩
  have kc1:KpC (fun j => j = L) m M1:=by
   rw [hM1]
   exact (KpC.of (.of k1)).trans (Aap L _ _)
  have hA1:Ar X A a M1:=hA.kc kc1 fun j hj e => absurd hj (e ▸ hXL)
  have hL1:has M1 L [.ptr A 0,int (left - 1)]:=by rw [hM1]; exact ⟨by simp; omega,m.clock + 3,by simp⟩
  have gx:M1.get m.next = some (.cells [int x.1,int x.2] false (m.clock + 1)):=by rw [hM1]; simp [nL]
  have gy:M1.get (m.next + 1) = some (.cells [int y.1,int y.2] false (m.clock + 2)):=by rw [hM1]; simp [nL1]
  have qp:=q76 (A:=A) (L:=L) (v:=wL) (left:=left) (m:=(m.new [int x.1,int x.2] false).new [int y.1,int y.2] false) (by simp [nL',nL1',gL]) h0 h1
  rw [← hM1] at qp
  clear hM1
  have fin:∀ (e:Ex) (s':Sl) (m':Mem) (r:Bool × Int),(e = .normal ∨ e = .ret) → s'.at 6 = .sc (.bool r.1) → has m' L [.ptr A 0,int r.2] → KpC (fun j => j = L) M1 m' → eqM a (n + 1) left x y = r → Q e s' m':=by
   intro e s' m' r he h6 hL' kc hr
   rw [hr] at hQ
   exact hQ _ _ _ (Aac he h6 ⟨rfl,hL',kc1.trans kc⟩)
  simp [qp.go]
  by_cases hl:left - 1 < 0
  ·have hl':¬ 0 ≤ left - 1:=by omega
   have hl1:¬ 1 ≤ left:=by omega
   simp [hl1]
   exact fin _ _ _ (false,left - 1) (.inr rfl) (by simp) hL1 (.refl _ _) (by rw [eqM,if_pos hl])
  have hl1:1 ≤ left:=by omega
  simp [hl1,gx,gy,Aaa,Ajb]
  by_cases hxy:x = y
  ·simp [hxy]
   exact fin _ _ _ (true,left - 1) (.inr rfl) (by simp) hL1 (.refl _ _) (by rw [eqM,if_neg hl,if_pos hxy])
  simp [hxy]
  obtain ⟨t,M,cs,ns,xs,h,hx⟩:=id hA1
  have hcx:=q77 h hx x
  have hcy:=q77 h hx y
  have hL1':=hL1
  obtain ⟨_,wL1,gL1⟩:=hL1
  refine Aax (by kernel_rfl) ?_
  simp [gL1,gx,gy,Aaa,hcx.go,hcy.go]
  refine Abh (l:=[(5,9),(5,10)]) (by kernel_rfl) (?_:List.all _ _ = true) ?_
  ·simp [metAtD,metOkD,rank,verKeptD,Region.wanted,Mem.ver,gL1,gx,gy]
  simp
  have hfalse:∀ (s':Sl),s'.at 6 = .sc (.bool false) → eqM a (n + 1) left x y = (false,left - 1) → Q .ret s' M1:=fun s' q1 q2 => fin _ _ _ (false,left - 1) (.inr rfl) q1 hL1' (.refl _ _) q2
  cases hix:ixM a x with
  | none =>
   have c1:cellP a cs x = .sc (.pointer none):=by simp [cellP,hix]
   refine Aah (by kernel_rfl) (by kernel_rfl) ?_
   simp [c1,Ass,undefV,undef]
   exact hfalse _ (by simp) (by rw [eqM,if_neg hl,if_neg hxy,hix])
  | some i =>
  obtain ⟨hxi,c,hc⟩:=Ab6 hix
  obtain ⟨C,vc,x1,rfl,hC,htC,hgC,hxi1,hzi,hrow⟩:=h.at hc
  have c1:cellP a (.sl C 0 a.cells.length 4 true none) x = .ptr C (i * 4):=by simp [cellP,hix,blk]
  cases hiy:ixM a y with
  | none =>
   have c2:cellP a (.sl C 0 a.cells.length 4 true none) y = .sc (.pointer none):=by simp [cellP,hiy]
   refine Aah (by kernel_rfl) (by kernel_rfl) ?_
   simp [c1,c2,Ass,eq135,undefV,undef]
   exact hfalse _ (by simp) (by rw [eqM,if_neg hl,if_neg hxy,hix,hiy])
  | some j =>
  obtain ⟨hyj,d,hd⟩:=Ab6 hiy
  obtain ⟨C',vc',y1,hC',_,_,_,hyj1,hzj,hrow2⟩:=h.at hd
  obtain rfl:C = C':=by cases hC'; rfl
  have c2:cellP a (.sl C 0 a.cells.length 4 true none) y = .ptr C (j * 4):=by simp [cellP,hiy,blk]
  obtain ⟨f1,f2⟩:=Abq (Ahj a.cells xs) hzi
  obtain ⟨g1,g2⟩:=Abq (Ahj a.cells xs) hzj
  have hgi:a.cells.getD i zeroC = c:=by simp [List.getD_eq_getElem?_getD,hc]
  have hgj:a.cells.getD j zeroC = d:=by simp [List.getD_eq_getElem?_getD,hd]
  have part:∀ {k:Nat} {r:AV} (q:Nat) (T:TypeId) (w:AV),k * 4 + 4 ≤ (flat (List.zipWith rowA a.cells xs)).length → ((flat (List.zipWith rowA a.cells xs)).drop (k * 4)).take 4 = r.cells → r.cells[q]? = some w → (flat (List.zipWith rowA a.cells xs))[k * 4 + q]? = some w:=by
   intro k r q T w h1 h2 h3
   have hq:q < 4:=by
    have:=(List.getElem?_eq_some_iff.1 h3).1
    rw [← h2] at this
    simp at this
    omega
   rw [← h2,List.getElem?_take_of_lt hq,List.getElem?_drop] at h3
   exact h3
  have px0:=part 0 3 (int c.k) f1 f2 rfl
  have px2:=part 2 3 x1 f1 f2 rfl
  have px3:=part 3 3 (.lst (byts c.s)) f1 f2 rfl
  have py0:=part 0 3 (int d.k) g1 g2 rfl
  have py2:=part 2 3 y1 g1 g2 rfl
  have py3:=part 3 3 (.lst (byts d.s)) g1 g2 rfl
  simp only [Nat.add_zero] at px0 py0
  have heqM:eqM a (n + 1) left x y = (if c.k ≠ d.k ∨ 3 < c.k ∨ c.s ≠ d.s then (false,left - 1) else if c.a.length ≠ d.a.length then (false,left - 1) else eqsM a n (left - 1) c.a d.a):=by rw [eqM,if_neg hl,if_neg hxy,hix,hiy]; simp only [hgi,hgj]
  refine Aah (by kernel_rfl) (by kernel_rfl) ?_
  by_cases hk:c.k = d.k
  rotate_left
  ·simp [c1,c2,eq135,hgC,px0,py0,px3,py3,hk,undefV,undef]
   exact hfalse _ (by simp) (by rw [heqM,if_pos (.inl hk)])
  by_cases hk3:3 < c.k
  ·have hk3':3 < d.k:=by omega
   simp [c1,c2,eq135,hgC,px0,py0,px3,py3,hk,hk3',undefV,undef]
   exact hfalse _ (by simp) (by rw [heqM,if_pos (.inr (.inl hk3))])
  have hk3':¬ 3 < d.k:=by omega
  have hby:∀ s:List UInt8,aconvert Tryz.prog 76 9 (.lst (byts s)) = some (.sc (.string ⟨⟨s⟩⟩)):=fun s => Air Tryz.underlying76 Tryz.underlying9 Tryz.underlying5 (Afx s)
  by_cases hs:c.s = d.s
  rotate_left
  ·simp [c1,c2,eq135,hgC,px0,py0,px3,py3,hk,hk3',hby,hs]
   exact hfalse _ (by simp) (by rw [heqM,if_pos (.inr (.inr hs))])
  ·simp [c1,c2,eq135,hgC,px0,py0,px3,py3,hk,hk3',hby,hs]
   refine Aah (by kernel_rfl) (by kernel_rfl) ?_
   have ox:=(El.of hrow).okc
   have oy:=(El.of hrow2).okc
   have ownX:∀ {z:AV} {k:Nat} {l:List Val},Has t (4 + k) 2 true (.emp 1) M1 z (vals l) → ∀ j,owns z j → X j:=by
    intro z k l hh j hj
    rcases hh with ⟨_,rfl⟩ | ⟨_,id,w,rfl,_,ht,_⟩
    ·exact hj.elim
    ·have e:id = j:=hj
     subst e
     exact (hx _ (by rw [ht]; simp)).1
   simp [hgC,px2,py2]
   refine Aae (q78 (n:=n) (fun left x y m => ih left x y m) hXL hA1 hL1' (by omega) (by omega) (by omega) (.of hrow) (.of hrow2) (ownX hrow) (ownX hrow2) (hsm c (List.mem_of_getElem? hc)).1) ?_
   rintro _ m5 ⟨rfl,hL5,kc5⟩
   simp
   exact fin _ _ _ _ (.inr rfl) (by simp) hL5 kc5 (by rw [heqM,if_neg (by simp [hk,hk3',hs])])
def equalM (a:ArM) (x y:Val):Bool:=goodM a x && (goodM a y && (eqM a 1025 1024 x y).1)
theorem q24 {X:Nat → Prop} {A:Nat} {a:ArM} {m:Mem} (hA:Ar X A a m) (hsm:Small a) (x y:Val):EH Tryz.prog ca (.func 24) [.ptr A 0,valA x,valA y] m (.sc (.bool (equalM a x y))) m:=by
 refine Abj Tryz.func24 rfl rfl rfl rfl (args1:=[.ptr A 0,valA x,valA y]) (m1:=m) (by simp [fzvs]) (by simp) (by simp [Tryz.f24]) (by simp [Tryz.f24]) ?_
 have k1:Kp m ((m.new [int x.1,int x.2] false).new [int y.1,int y.2] false):=by simp
 have q1:=q34 (hA.kp k1)
 have q2:=q41 (hA.kp k1) x
 have q3:=q41 (hA.kp k1) y
 simp only [Tryz.f24,show ca.keepRes 24 = false from rfl]
 unfold equalM
 cases hgx:goodM a x with
 | false =>
  rw [hgx] at q2
  simp [q1.go,Aaa,q2.go,undefV,undef]
 | true =>
 rw [hgx] at q2
 cases hgy:goodM a y with
 | false =>
  rw [hgy] at q3
  simp [q1.go,Aaa,q2.go,q3.go]
 | true =>
 rw [hgy] at q3
 simp [q1.go,Aaa,q2.go,q3.go,abuild,placesOf,fillAt]
 refine Aae (q42 (X:=fun j => X j ∧ j < m.next) (A:=A) (L:=m.next + 2) (a:=a) hsm (fun h => by omega) 1025 1024 x y _ (hA.cut.kp (by simp)) ⟨by simp,m.clock + 3,by simp⟩ (by omega) (by omega) (by omega)) ?_
 rintro _ m5 ⟨rfl,hL5,kc5⟩
 simp
 exact Aco kc5 (by simp) fun j h => by omega
theorem Has.elems {t:Nat → Option Nat} {n:Nat} {m:Mem} {x:AV} {l:List (List UInt8)} (h:Has t n 1 false (.emp 0) m x (l.map strA)):elemsOf m x = some (l.map strA):=by
 rcases h with ⟨h,rfl⟩ | ⟨h,id,v,rfl,h1,_,h2⟩
 ·rw [h]; rfl
 ·simp only [elemsOf,h2]
  have:=Adr (k:=1) (ag:=false) rfl (l.map strA) (fun y hy => by obtain ⟨s,_,rfl⟩:=List.mem_map.1 hy; simp)
  rw [if_pos ⟨by rw [Aa6 (Ah0 l)]; simp,rfl⟩,List.drop_zero,this]
theorem Ahr (m:Mem):∀ l:List (List UInt8),fzvs m (l.map strA) = (l.map strA,m)
 | [] => rfl
 | s :: l => by simp [fzvs,Ahr m l]
theorem q62 {t:Nat → Option Nat} {n:Nat} {m:Mem} {x:AV} {l:List (List UInt8)} (h:Has t n 1 false (.emp 0) m x (l.map strA)) (hl:l.length ≤ 65536):wph Tryz.prog ca (.func 62) [x] m fun v m' => Kp m m' ∧ v.okc = true ∧ v.cells = [v]:=by
 have he:=h.elems
 cases l with
 | nil =>
  have e:cloneL Tryz.prog 62 [x] m = some (.emp 1,m.skip):=by
   simp only [cloneL,he,List.map_nil]
  exact ⟨_,_,Ad0 rfl e,As0 (.refl m),rfl,rfl⟩
 | cons s l =>
  have run:EH Tryz.prog cf0 (.func 62) [x] m (.sl (m.next + 1) 0 (l.length + 1) 1 false none) ((m.new [] false).new (flat ((s :: l).map strA)) false):=by
   refine eh_of ?_
   refine Aas Tryz.func62 rfl rfl (by simp [Tryz.f62]) (by simp [Tryz.f62]) fun Q hQ => ?_
   simp only [Tryz.f62,show cf0.keepRes 62 = true from rfl,show cf0.keepArgs 62 = true from rfl] at hQ ⊢
   rcases h with ⟨h,_⟩ | ⟨_,id,w,rfl,h1,_,h2⟩
   ·cases h
   have hs:srcOf (m.new [] false) (.sl id 0 ((s :: l).map strA).length 1 false none) = some ((s :: l).map strA):=by
    have hne:id ≠ m.next:=by omega
    have e1:srcOf (m.new [] false) (.sl id 0 ((s :: l).map strA).length 1 false none) = elemsOf (m.new [] false) (.sl id 0 ((s :: l).map strA).length 1 false none):=rfl
    rw [e1,← he]
    simp only [elemsOf,Mem.get_new,if_neg hne]
   have q:=Aiu (P:=Tryz.prog) (T:=85) (k:=1) (ag:=false) (ag':=false) (id:=m.next) (ys:=(s :: l).map strA) (ys':=(s :: l).map strA) (m:=m.new [] false) (m':=m.new [] false) (v:=m.clock + 1) el85 (by simp) (Ah0 _) (by first | exact Ahr _ _ | simp [fzx,Ahr]) (by simp) (by simp at hl ⊢; omega)
   have nn:∀ {xo yo:Operand} {N:Nat},abin Tryz.prog .eql 85 xo yo (.sl id 0 N 1 false none) (.emp 0) = some (.sc (.bool false)):=by
    intro xo yo N
    have:nilTest Tryz.prog 85 (.sl id 0 N 1 false none) (.emp 0) = some false:=by simp [nilTest,Tryz.underlying85]
    simp [abin,plain,this]
   simp at hs q
   simp [nn,abuildSlice,fillAt,zeros,hs,q]
   refine hQ _ _ _ ⟨.inr rfl,_,rfl,?_⟩
   simp [oneOf]
  have e:cloneL Tryz.prog 62 [x] m = some (.sl (m.next + 1) 0 (l.length + 1) 1 false none,(m.new [] false).new (flat ((s :: l).map strA)) false):=by
   simp only [cloneL,he,List.map_cons]
   exact Ah4 run
  exact ⟨_,_,Ad0 rfl e,by simp,rfl,rfl⟩
theorem A2e {x y:Operand} {i:Nat}:abin Tryz.prog .eql 89 x y (.mp i) (ofConst (.map none)) = some (.sc (.bool false)):=by
 show abin Tryz.prog .eql 89 x y (.mp i) (.sc (.map none)) = _
 have:nilTest Tryz.prog 89 (.mp i) (.sc (.map none)) = some false:=by
  unfold nilTest
  rw [Tryz.underlying89]
 simp [abin,plain,this]
theorem Az6 {x:AV}:amakeIface Tryz.prog 89 x = some (.iface 89 x):=by unfold amakeIface; rw [Tryz.underlying89]
theorem Ax5 {x:AV}:aassert Tryz.prog 89 false (.iface 89 x) = some x:=by unfold aassert; rw [Tryz.underlying89]; simp
theorem q63 {i:Nat} {M:AMap} {m:Mem} (h:m.map i = some M):wph Tryz.prog ca (.func 63) [.mp i] m fun v m' => Kp m m' ∧ ∃ j,v = .mp j:=by
 obtain ⟨v',m',e,k,j,hj⟩:∃ v' m',EH Tryz.prog ca (.func 109) [.iface 89 (.mp i)] m v' m' ∧ Kp m m' ∧ ∃ j,v' = .iface 89 (.mp j):=by
  have hk:ca.hook 109 = some mcloneH:=rfl
  refine ⟨.iface 89 (.mp m.next),_,Ad0 hk (by unfold mcloneH; simp only [h,Option.map_some]; rfl),by simp,_,rfl⟩
 refine Aas Tryz.func63 rfl rfl (by simp [Tryz.f63]) (by simp [Tryz.f63]) fun Q hQ => ?_
 simp only [Tryz.f63,show ca.keepRes 63 = false from rfl,show ca.keepArgs 63 = false from rfl] at hQ ⊢
 subst hj
 simp [A2e,Az6,e.go,Ax5]
 refine hQ _ _ _ ?_
 simp
 exact k
theorem q37 {X:Nat → Prop} {A:Nat} {a:ArM} {m:Mem} (hA:Ar X A a m) (hsm:Small a):wph Tryz.prog ca (.func 37) [.ptr A 0] m fun v m' => (∃ i,v = .ptr i 0) ∧ Kp m m':=by
 refine Aas Tryz.func37 rfl rfl (by simp [Tryz.f37]) (by simp [Tryz.f37]) fun Q hQ => ?_
 simp only [Tryz.f37,show ca.keepRes 37 = false from rfl,show ca.keepArgs 37 = false from rfl] at hQ ⊢
 have q1:=q34 hA
 obtain ⟨t,M,cs,ns,xs,h,hx⟩:=hA
 obtain ⟨w,hv⟩:=h.get
 obtain ⟨w2,hmap⟩:=h.map
 have hAl:=h.lt
 have hMl:=h.ml
 have hsane:=h.sane
 simp [q1.go]
 refine Aax (by kernel_rfl) ?_
 simp [hv]
 refine Aae (q62 h.names hsane.2.2.2) ?_
 rintro vn m1 ⟨k1,on1,on2⟩
 have hv1:=(k1.get A hAl).trans hv
 have hmap1:=(k1.x M hMl).2.trans hmap
 simp [hv1]
 refine Aae (q63 hmap1) ?_
 rintro _ m2 ⟨k2,jm,rfl⟩
 have k12:=k1.trans k2
 have hv2:=(k12.get A hAl).trans hv
 have n2:=k12.next
 simp [abuild,placesOf,fillAt,on1,on2]
 refine Abh (l:=[(3,8),(8,12),(3,13)]) (by kernel_rfl) (?_:List.all _ _ = true) ?_
 ·simp [metAtD,metOkD,rank,verKeptD,Region.wanted,Mem.ver,hv,hv1,hv2]
 have nA:A ≠ m2.next:=by omega
 have lc:=fun m' R => Acd (T:=74) (R:=R) (m':=m') h.cells Tryz.underlying74
 simp only [List.length_zipWith,h.len,Nat.min_self] at lc
 simp [hv2,nA,lc]
 refine Aar 29 a.cells.length (fun i s' m' => Kp m m' ∧ m2.next < m'.next ∧ ∃ z ys w9,m'.get m2.next = some (.cells [int a.room,z,vn,.mp jm] false w9) ∧ Acc m m' 4 true ys z ∧ ys.length = i ∧ okAll 4 ys = true ∧ ¬ owns z m2.next) (by simp) (by omega) ⟨k12.trans (by simp),by simp,.emp 0,[],_,by simp; rfl,.inl ⟨rfl,rfl⟩,rfl,rfl,fun h => h⟩ ?_
 rintro i s' m' hi e29 ⟨hkp,hlt,z,ys,w9,hN,hacc,hyl,hok,hzN⟩ hsame hw Q' hn he
 have d3:s'.at 3 = .ptr m2.next 0:=(hsame 3 (by kernel_rfl)).trans (by simp)
 have d27:s'.at 27 = cs:=(hsame 27 (by kernel_rfl)).trans (by simp)
 have d28:s'.at 28 = int a.cells.length:=(hsame 28 (by kernel_rfl)).trans (by simp)
 clear hsame
 simp [e29,d28]
 refine Aad (fun hc => ?_) fun hc => ?_
 ·have hlt2:i < a.cells.length:=by simpa using hc
  obtain ⟨c,hci⟩:∃ c,a.cells[i]? = some c:=⟨_,List.getElem?_eq_getElem hlt2⟩
  have h':=h.kc (Y:=fun _ => False) (.of (.of hkp)) fun _ _ _ _ h => h
  obtain ⟨C,vc,x,rfl,hC,htC,hgC,hxi,hzi,hrow⟩:=h'.at hci
  have hix:=Aaj (P:=Tryz.prog) (q:=.i64) (ag:=true) (c:=none) (id:=C) (off:=0) (len:=a.cells.length) (i:=i) Tryz.underlying74 Ab1 hlt2
  obtain ⟨f1,f2⟩:=Abq (Ahj a.cells xs) hzi
  have hnx:=hkp.next
  have nC:C ≠ m'.next:=by omega
  have nN:m2.next ≠ m'.next:=by omega
  have hcs:=hsm c (List.mem_of_getElem? hci)
  simp [e29,d27,hix,hgC,f1,f2]
  obtain ⟨M3,hM3⟩:∃ M3,M3 = (m'.new [int 0,int 0,.emp 0,.emp 0] false).set m'.next [int c.k,int c.n,x,.lst (byts c.s)]:=⟨_,rfl⟩
  have k3:Kp m' M3:=by rw [hM3]; simp
  have n3:M3.next = m'.next + 1:=by rw [hM3]; simp
  have hN3:=(k3.get m2.next hlt).trans hN
  have g5:M3.get m'.next = some (.cells [int c.k,int c.n,x,.lst (byts c.s)] false (m'.clock + 2)):=by rw [hM3]; simp
  rw [← hM3]
  clear hM3
  refine Aax (by kernel_rfl) ?_
  simp [d3,hN3,g5]
  refine Aae (q64 (c:=c) (x0:=x) ((El.of hrow).kp k3) hcs.1 hcs.2) ?_
  rintro _ m4 ⟨k4,x2,rfl,hf⟩
  have n4:=k4.next
  have hN4:=(k4.get m2.next (by omega)).trans hN3
  have hsrc:=Abv (m:=m4.new (rowA c x2).cells false) (id:=m4.next) (c:=some 1) (k:=4) (ag:=true) (x:=rowA c x2) (w:=m4.clock + 1) (f:=false) rfl (by simp) (by simp) (Apa c x2)
  obtain ⟨m5,p1,p2,⟨w5,p3⟩,p4,p5⟩:=Acs (T:=74) ((hacc.kp (k3.trans k4)).kp (.new m4 (rowA c x2).cells false)) hok el74 (zs:=[rowA c x2]) (zs':=[rowA c x2]) (List.cons_ne_nil _ _) (by simp [Aao,Aba]) (by simp) (.refl _) (by simp; omega)
  have hN5:m5.get m2.next = some (.cells [int a.room,z,vn,.mp jm] false w9):=by
   rw [p4 m2.next (by simp; omega) hzN]
   have:m2.next ≠ m4.next:=by omega
   simp [this]
   exact hN4
  have nn4:m2.next ≠ m4.next:=by omega
  simp only [Ajj] at hsrc p1 p3
  simp [rowA,abuildSlice,zeros,fillAt]
  simp [rowA] at hsrc p1
  simp [abuiltin,hsrc,p1,d3,hN5]
  refine Abh (l:=[(4,6),(4,7)]) (by kernel_rfl) (?_:List.all _ _ = true) ?_
  ·simp [metAtD,metOkD,rank,verKeptD,Region.wanted,Mem.ver,d3,hN3,hN4,nn4]
  simp [e29,hw]
  have k34:=(hkp.trans k3).trans k4
  have kp5:Kp m m5:=by
   refine ⟨by rw [p2]; simp; omega,fun j hj => ?_,fun j hj => ?_⟩
   ·have a1:j ≠ m4.next:=by omega
    have:=p4 j (by simp; omega) (fun hh => by have:=(Aa7 hacc j hh).1; omega)
    simp [a1] at this
    rw [this]
    exact k34.get j hj
   ·have b1:=p5 j (by simp; omega)
    have b2:=k34.x j hj
    simp at b1
    exact ⟨b1.1.trans b2.1,b1.2.trans b2.2⟩
  refine hn _ _ hlt2 (by simp) ⟨kp5.set n2 _,by simp [p2]; omega,_,ys ++ [rowA c x2],m5.clock + 1,by simp; rfl,.inr ⟨by simp,m4.next + 1,w5,by simp,by omega,by simp [p2],?_⟩,by simp [hyl],?_,fun hh => ?_⟩
  ·have a1:m4.next + 1 ≠ m2.next:=by omega
   simp [a1]
   simpa using p3
  ·have:okAll 4 (ys ++ [rowA c x2]) = (okAll 4 ys && okAll 4 [rowA c x2]):=by simp [okAll]
   rw [this,hok]
   simp [Aao,Aba]
  ·have e:m4.next + 1 = m2.next:=hh
   omega
 ·simp
  refine he _ _ _ (by simp) ?_
  simp [d3]
  refine hQ _ _ _ ?_
  simp
  exact hkp
abbrev clC (A:Nat) (n:Int) (l:List Val) (k:Int):List AV:=[.ptr A 0,int n,.lst (vals l),int k]
def Cs (X:Nat → Prop) (A C:Nat) (n:Int) (l:List Val) (a:ArM) (k:Int) (m m':Mem):Prop :=
 ∃ X',Ar X' A a m' ∧ (∀ j,X' j → (X j ∨ m.next ≤ j) ∧ j < m'.next) ∧ KpC (fun j => X j ∨ j = C) m m' ∧ has m' C (clC A n l k)
section
variable {X:Nat → Prop} {A C:Nat} {n:Int} {l:List Val} {a:ArM} {k:Int} {m:Mem}
theorem Cs.refl (hA:Ar X A a m) (hX:∀ j,X j → j < m.next) (hC:has m C (clC A n l k)):Cs X A C n l a k m m:=⟨X,hA,fun j h => ⟨.inl h,hX j h⟩,.refl _ _,hC⟩
theorem Cs.kp {m':Mem} (hA:Ar X A a m) (hX:∀ j,X j → j < m.next) (hC:has m C (clC A n l k)) (q:Kp m m'):Cs X A C n l a k m m':=⟨X,hA.kp q,fun j h => ⟨.inl h,Nat.lt_of_lt_of_le (hX j h) q.next⟩,.of (.of q),hC.kp q⟩
theorem Cs.box {m1 m5:Mem} {B:Nat} (k1:Kp m m1) (hX:∀ j,X j → j < m.next) (hCl:C < m.next) (h:Cs X A C n l a k m1 m5) (hB:m.next ≤ B) (hB1:B < m1.next) (cs:List AV):Cs X A C n l a k m (m5.set B cs):=by
 obtain ⟨X',h1,h2,h3,h4⟩:=h
 have n1:=k1.next
 refine ⟨X',h1.kc (Aap B cs m5) fun j hj e => ?_,fun j hj => ?_,KpC.cut (((KpC.of (.of k1)).trans (h3.mono fun j h => .inl h)).trans ((Aap B cs m5).mono fun j h => .inr (by omega))),h4.kc (Aap B cs m5) (by omega)⟩
 ·have e:j = B:=e
  subst e
  rcases (h2 j hj).1 with h | h
  ·have:=hX j h; omega
  ·omega
 ·refine ⟨(h2 j hj).1.imp id fun h => by omega,by simpa using (h2 j hj).2⟩
theorem q112 (hA:Ar X A a m) (hsm:Small a) (hC:has m C (clC A n l k)) (v:Val):EH Tryz.prog ca (.func 112) [.ptr C 0,valA v] m (ceA (getM a v).1) m:=by
 obtain ⟨hl,w,hg⟩:=hC
 have n0:C ≠ m.next:=by omega
 have n1:C ≠ m.next + 1:=by omega
 have n2:C ≠ m.next + 2:=by omega
 have q:=q57 (hA.kp (m':=(m.new [int v.1,int v.2] false).new [int 0,int 0,.emp 0,.emp 0] false) (by simp)) hsm v
 refine Abj Tryz.func112 rfl rfl rfl rfl (args1:=[.ptr C 0,valA v]) (m1:=m) (by simp [fzvs]) (by simp) (by simp [Tryz.f112]) (by simp [Tryz.f112]) ?_
 simp only [Tryz.f112,show ca.keepRes 112 = false from rfl]
 simp
 refine Aax (by kernel_rfl) ?_
 simp [hg,n0,n1,Aaa,q.go]
 refine Abh (l:=[(3,9),(4,9)]) (by kernel_rfl) (?_:List.all _ _ = true) ?_
 ·simp [metAtD,metOkD,rank,verKeptD,Region.wanted,Mem.ver,hg,n0,n1,n2]
 simp [fzs,ceA]
theorem A0x (c:CeM):afield Tryz.prog 78 (ceA c) 0 = some (int c.k):=by
 have h1:(tfield Tryz.prog 78 0).map (fun fd => (fd.type,fd.offset)) = some (3,0):=by kernel_rfl
 obtain ⟨fd,h1,h2⟩:=Option.map_eq_some_iff.1 h1
 have h3:=congrArg Prod.fst h2
 have h4:=congrArg Prod.snd h2
 dsimp only at h3 h4
 simp only [afield,h1,ceA,h3,h4]
 rw [Afg tagg3]
 rfl
theorem q65 (hA:Ar X A a m) (hsm:Small a) (hC:has m C (clC A n l k)) (v:Val) (kd:Int):EH Tryz.prog ca (.func 65) [.ptr C 0,valA v,int kd] m (.sc (.bool (decide ((getM a v).1.k = kd)))) m:=by
 have k1:Kp m (m.new [int v.1,int v.2] false):=by simp
 have q:=q112 (hA.kp k1) hsm (hC.kp k1) v
 refine Abj Tryz.func65 rfl rfl rfl rfl (args1:=[.ptr C 0,valA v,int kd]) (m1:=m) (by simp [fzvs]) (by simp) (by simp [Tryz.f65]) (by simp [Tryz.f65]) ?_
 simp [Tryz.f65,show ca.keepRes 65 = false from rfl,Aaa,q.go,A0x]
theorem q126 (n:Int):Gives Tryz.prog ca 126 [int n] (valA (1,n)):=by
 refine Aag Tryz.func126 rfl rfl rfl rfl (by simp) (by simp [Tryz.f126]) (by simp [Tryz.f126]) fun m => ?_
 simp [Tryz.f126,show ca.keepRes 126 = false from rfl,abuild,placesOf,fillAt]
 rfl
def failK (k kd:Int):Int:=if k = 0 then kd else k
theorem q134 (hC:has m C (clC A n l k)) (kd:Int):wph Tryz.prog ca (.func 134) [.ptr C 0,int kd] m fun v m' => v = valA (0,0) ∧ KpC (fun j => j = C) m m' ∧ has m' C (clC A n l (failK k kd)):=by
 obtain ⟨hl,w,hg⟩:=hC
 have n0:C ≠ m.next:=by omega
 have n0':m.next ≠ C:=by omega
 refine Aas Tryz.func134 rfl rfl (by simp [Tryz.f134]) (by simp [Tryz.f134]) fun Q hQ => ?_
 simp only [Tryz.f134,show ca.keepRes 134 = false from rfl,show ca.keepArgs 134 = false from rfl] at hQ ⊢
 by_cases h:k = 0
 ·simp [hg,n0,n0',h,Aan]
  refine hQ _ _ _ ?_
  rw [Aaf]
  simp [aresult,oneOf,n0,n0',failK,h]
  refine ⟨rfl,KpC.cut (((KpC.of (.of (.new _ _ _))).trans ((Aap C _ _).mono fun j h => .inl h)).trans ((Aap m.next _ _).mono fun j h => .inr (by omega))),by simp; omega,m.clock + 2,by simp [n0]⟩
 ·simp [hg,n0,n0',h,Aan]
  refine hQ _ _ _ ?_
  rw [Aaf]
  simp [aresult,oneOf,n0,n0',failK,h]
  exact ⟨rfl,(KpC.of (.of (by simp))),by simp; omega,w,by simp [n0,hg]⟩
theorem Aa5 (m:Mem) (v:Val):fzr m (valA v) = (valA v,m):=by
 have:=Au9 v m
 unfold valA at *
 exact this
def allocC (a:ArM) (k:Int) (c:CeM):Val × ArM × Int:=if k ≠ 0 then ((0,0),a,k) else if (allocM a c).2.2 ≠ 0 then ((0,0),(allocM a c).1,8) else ((allocM a c).2.1,(allocM a c).1,0)
theorem q127 (hA:Ar X A a m) (hX:∀ j,X j → j < m.next) (hXC:¬ X C) (hC:has m C (clC A n l k)) (c:CeM) (h1:c.a.length < 2 ^ 21) (h2:c.s.length < 2 ^ 21):wph Tryz.prog ca (.func 127) [.ptr C 0,ceA c] m fun v m' => v = valA (allocC a k c).1 ∧ Cs X A C n l (allocC a k c).2.1 (allocC a k c).2.2 m m':=by
 have hC0:=hC
 obtain ⟨hl,w,hg⟩:=hC
 have n0:C ≠ m.next:=by omega
 have n1:C ≠ m.next + 1:=by omega
 have n2:C ≠ m.next + 2:=by omega
 refine Aas Tryz.func127 rfl rfl (by simp [Tryz.f127]) (by simp [Tryz.f127]) fun Q hQ => ?_
 simp only [Tryz.f127,show ca.keepRes 127 = false from rfl,show ca.keepArgs 127 = false from rfl] at hQ ⊢
 have fin:∀ (s':Sl) (m':Mem) (v:Val) (a':ArM) (k':Int),s'.at 4 = .ptr (m.next + 1) 0 → (∃ w,m'.get (m.next + 1) = some (.cells [int v.1,int v.2] false w)) → allocC a k c = (v,a',k') → Cs X A C n l a' k' m m' → Q .ret s' m':=by
  intro s' m' v a' k' h4 ⟨w,hg⟩ hm hu
  refine hQ _ _ _ ?_
  rw [Aaf]
  refine ⟨_,by simp [aresult,h4,hg,aload,partOf]; rfl,?_⟩
  rw [hm]
  simp only [Bool.false_eq_true,if_false,oneOf,Aaa,Aa5]
  exact ⟨trivial,hu⟩
 by_cases hk:k = 0
 rotate_left
 ·simp [hg,n0,n1,hk,Aan]
  exact fin _ _ (0,0) a k (by simp) ⟨_,by simp; rfl⟩ (by rw [allocC,if_pos hk]) (Cs.kp hA hX hC0 (by simp))
 subst hk
 obtain ⟨M1,hM1⟩:∃ M1,M1 = ((m.new (ceA c).cells false).new [int 0,int 0] false):=⟨_,rfl⟩
 have k1:Kp m M1:=by rw [hM1]; simp
 have nM:M1.next = m.next + 2:=by rw [hM1]; simp
 have gc:M1.get m.next = some (.cells [int c.k,int c.n,.lst (vals c.a),.lst (byts c.s)] false (m.clock + 1)):=by rw [hM1]; simp
 have gB:M1.get (m.next + 1) = some (.cells [int 0,int 0] false (m.clock + 2)):=by rw [hM1]; simp
 have gC:=(k1.get C hl).trans hg
 have ecA:AV.agg [int c.k,int c.n,.lst (vals c.a),.lst (byts c.s)] = ceA c:=rfl
 simp [hg,n0,n1]
 simp at hM1
 rw [← hM1]
 clear hM1
 refine Aax (by kernel_rfl) ?_
 simp [gC,gc,ecA]
 refine Aae (q60 (hA.kp k1) c h1 h2) ?_
 rintro _ m5 ⟨rfl,hup⟩
 obtain ⟨X',hA5,kc5,hX5⟩:=hup.out
 have n5:=kc5.next
 have g5C:=(kc5.get C (by omega) hXC).trans gC
 have g5B:=(kc5.get (m.next + 1) (by omega) (fun h => by have:=hX _ h; omega)).trans gB
 have nC5:C ≠ m5.next:=by omega
 have nB5:m.next + 1 ≠ m5.next:=by omega
 have g5c:=(kc5.get m.next (by omega) (fun h => by have:=hX _ h; omega)).trans gc
 have nc5:m.next ≠ m5.next:=by omega
 simp
 refine Abh (l:=[(3,9),(4,9)]) (by kernel_rfl) (?_:List.all _ _ = true) ?_
 ·simp [metAtD,metOkD,rank,verKeptD,Region.wanted,Mem.ver,gC,gc,g5C,g5c,nC5,nc5,hg,n0,n1,n2]
 have hX1:∀ j,X' j → X j ∨ M1.next ≤ j:=fun j h => (hX5 j h).1
 by_cases he:(allocM a c).2.2 = 0
 ·simp [he,g5B,nB5,Aaa]
  refine fin _ _ (allocM a c).2.1 (allocM a c).1 0 (by simp) ⟨_,by simp [nB5]; rfl⟩ (by rw [allocC,if_neg (by simp),if_neg (by simp [he])]) ?_
  have k5:Kp m5 ((m5.new [int 0,int 0] false).set m5.next [int (allocM a c).2.1.1,int (allocM a c).2.1.2]):=by simp
  refine Cs.box k1 hX hl ⟨X',hA5.kp k5,fun j hj => ⟨(hX1 j hj).imp id fun h => by omega,?_⟩,?_,?_⟩ (by omega) (by omega) _
  ·have:=(hX5 j hj).2
   simp; omega
  ·exact (kc5.mono fun j h => .inl h).trans (.of (.of k5))
  ·exact ⟨by simp; omega,w,by simp [nC5,g5C]⟩
 ·simp [he]
  have k5:Kp m5 ((m5.new [int 0,int 0] false).set m5.next [int (allocM a c).2.1.1,int (allocM a c).2.1.2]):=by simp
  refine Aae (q134 (A:=A) (n:=n) (l:=l) (k:=0) (m:=(m5.new [int 0,int 0] false).set m5.next [int (allocM a c).2.1.1,int (allocM a c).2.1.2]) ⟨by simp; omega,w,by simp [nC5,g5C]⟩ 8) ?_
  rintro _ m7 ⟨rfl,kc7,hC7⟩
  have n7:=kc7.next
  simp at n7
  have g7B:=kc7.get (m.next + 1) (by simp; omega) (by omega)
  simp [nB5,g5B] at g7B
  simp [g7B,Aaa]
  refine fin _ _ (0,0) (allocM a c).1 8 (by simp) ⟨_,by simp; rfl⟩ (by rw [allocC,if_neg (by simp),if_pos he]) ?_
  refine Cs.box k1 hX hl ⟨X',(hA5.kp k5).kc kc7 fun j hj e => ?_,fun j hj => ⟨(hX1 j hj).imp id fun h => by omega,?_⟩,?_,hC7⟩ (by omega) (by omega) _
  ·have e:j = C:=e
   subst e
   rcases hX1 j hj with h | h
   ·exact absurd h hXC
   ·omega
  ·have:=(hX5 j hj).2
   omega
  ·exact ((kc5.mono fun j h => .inl h).trans (.of (.of k5))).trans (kc7.mono fun j h => Or.inr h)
end
section
variable {P:Program} {t:TypeId} {x y:Operand} {q k:IntKind} {a b:Int}
theorem Add:abin P .mul t x y (.sc (.int q a)) (.sc (.int q b)) = some (.sc (.int q (q.wrap (a * b)))):=by
 simp only [abin,plain,eqGuard,binOp,Op.intArith]; simp; rfl
theorem Aep (h:b ≠ 0):abin P .quo t x y (.sc (.int q a)) (.sc (.int q b)) = some (.sc (.int q (q.wrap (a.tdiv b)))):=by
 simp only [abin,plain,eqGuard,binOp,Op.intDiv]; simp [h]; rfl
theorem Acu (h:b ≠ 0):abin P .rem t x y (.sc (.int q a)) (.sc (.int q b)) = some (.sc (.int q (a.tmod b))):=by
 simp only [abin,plain,eqGuard,binOp,Op.intDiv]; simp [h]; rfl
theorem Arf:abin P .shr t x y (.sc (.int .u64 a)) (.sc (.int k 32)) = some (.sc (.int .u64 (a.fdiv (2 ^ 32)))):=by
 simp only [abin,plain,eqGuard,binOp,Op.shift]; simp; rfl
theorem Arg {n:Nat} (h:n < 2 ^ 64):abin P .and t x y (.sc (.int .u64 n)) (.sc (.int .u64 4294967295)) = some (.sc (.int .u64 ((n % 2 ^ 32:Nat):Int))):=by
 have e:abin P .and t x y (.sc (.int .u64 n)) (.sc (.int .u64 4294967295)) = some (.sc (.int .u64 (IntKind.u64.wrap ((BitVec.ofInt 64 n &&& BitVec.ofInt 64 4294967295).toNat)))):=rfl
 rw [e]
 have h2:(BitVec.ofInt 64 (n:Int) &&& BitVec.ofInt 64 4294967295).toNat = n % 2 ^ 32:=by
  rw [BitVec.toNat_and]
  have h3:(BitVec.ofInt 64 4294967295).toNat = 2 ^ 32 - 1:=rfl
  have h4:(BitVec.ofInt 64 (n:Int)).toNat = n:=by
   rw [BitVec.toNat_ofInt]
   omega
  rw [h3,h4,Nat.and_two_pow_sub_one_eq_mod]
 rw [h2,IntWalk.u64_in _ (by omega)]
end
theorem Ajc {P:Program} {a:Int}:pureRun P (Op.unary .neg (.int .i64 a)) = some (.int .i64 (IntKind.i64.wrap (-a))):=by
 rw [← Int.zero_sub]; rfl
theorem amin2 {t u T:TypeId} {a b:Int} {m:Mem}:abuiltin Tryz.prog .min #[t,u] T [int a,int b] m = some (int (min a b),m):=by
 show Option.map (·,m) (Option.map AV.sc (pureRun Tryz.prog (Builtin.min_ #[t,u] T [Value.int .i64 a,Value.int .i64 b].toArray))) = _
 have:pureRun Tryz.prog (Builtin.min_ #[t,u] T [Value.int .i64 a,Value.int .i64 b].toArray) = some (.int .i64 (if b < a then b else a)):=rfl
 rw [this]
 have:(if b < a then b else a) = min a b:=by simp only [Int.min_def]; split <;> split <;> omega
 rw [this]
 rfl
theorem Aa0 {n:Int}:isIn n = true ↔ -1152921504606846976 ≤ n ∧ n ≤ 1152921504606846975:=by unfold isIn; simp
def allIn (l:List Int):Int:=if l.all isIn then 0 else 1
theorem q165 (l:List Int) (hl:l.length ≤ 1000):Gives Tryz.prog ca 165 [.lst (l.map int)] (int (allIn l)):=by
 refine Aag Tryz.func165 rfl rfl rfl rfl (by simp) (by simp [Tryz.f165]) (by simp [Tryz.f165]) fun m => ?_
 simp [Tryz.f165,show ca.keepRes 165 = false from rfl]
 refine Aar 7 l.length (fun i s' m' => Kp m m' ∧ s'.at 5 = .lst (l.map int) ∧ s'.at 6 = int l.length ∧ ∀ j n,j < i → l[j]? = some n → isIn n = true) (by simp) (by omega) ⟨by simp,by simp,by simp,fun j p hj => absurd hj (Nat.not_lt_zero j)⟩ ?_
 rintro i s' m' hi e7 ⟨hkp,e5,e6,hno⟩ hsame hw Q' hn he
 simp [e7,e6]
 refine Aad (fun h => ?_) fun h => ?_
 ·have hlt:i < l.length:=by have:=of_decide_eq_true h; omega
  obtain ⟨p,hp⟩:∃ p,l[i]? = some p:=⟨_,List.getElem?_eq_getElem hlt⟩
  have hx:=Aam (q:=.i64) (x:=int p) (l:=l.map int) (i:=i) Tryz.underlying211 A1o (by rw [List.getElem?_map,hp]; rfl) (by simp)
  simp [e7,e5,hx,(q74 p).go]
  cases e:isIn p with
  | false =>
   have:allIn l = 1:=by
    unfold allIn
    rw [List.all_eq_false.2 ⟨p,List.mem_of_getElem? hp,by simp [e]⟩]
    rfl
   simp
   refine he _ _ _ (by simp) ?_
   simp [this]
   exact hkp
  | true =>
   simp [e7,hw]
   refine hn _ _ hlt (by simp) ⟨hkp,by simp [e5],by simp [e6],fun j n hj hp' => ?_⟩
   by_cases ej:j = i
   ·subst ej; rw [hp] at hp'; cases hp'; exact e
   ·exact hno j n (by omega) hp'
 ·have hge:i = l.length:=by have:=of_decide_eq_false h; omega
  subst hge
  have:allIn l = 0:=by
   unfold allIn
   rw [List.all_eq_true.2]
   ·rfl
   intro p hp
   obtain ⟨j,hj,rfl⟩:=List.mem_iff_getElem.1 hp
   exact hno j _ hj (List.getElem?_eq_getElem hj)
  simp
  refine he _ _ _ (by simp) ?_
  simp [this]
  exact hkp
theorem q165' (a b:Int):Gives Tryz.prog ca 165 [.lst [int a,int b]] (int (if isIn a && isIn b then 0 else 1)):=by
 have:=q165 [a,b] (by simp)
 have e:allIn [a,b] = if isIn a && isIn b then 0 else 1:=by simp [allIn]
 rw [e] at this
 exact this
def fitR (n:Int):Int × Int:=if isIn n then (n,0) else (0,10)
theorem q166 (n:Int):Gives Tryz.prog ca 166 [int n] (.tup [int (fitR n).1,int (fitR n).2]):=by
 refine Aag Tryz.func166 rfl rfl rfl rfl (by simp) (by simp [Tryz.f166]) (by simp [Tryz.f166]) fun m => ?_
 simp [Tryz.f166,show ca.keepRes 166 = false from rfl,(q74 n).go]
 unfold fitR
 cases isIn n <;> simp
theorem Aif {a b:Int} (h:¬ (isIn a = true ∧ isIn b = true)):(isIn a && isIn b) = false:=by
 rw [← Bool.not_eq_true,Bool.and_eq_true]; exact h
def prtR (a b:Int):Int:=if isIn a && isIn b then (if b = 0 then 11 else 0) else 1
theorem q170 (a b:Int):Gives Tryz.prog ca 170 [int a,int b] (int (prtR a b)):=by
 refine Aag Tryz.func170 rfl rfl rfl rfl (by simp) (by simp [Tryz.f170]) (by simp [Tryz.f170]) fun m => ?_
 simp [Tryz.f170,show ca.keepRes 170 = false from rfl,abuildSlice,placesOf,fillAt,zeros]
 have hz:∀ M:Mem,∀ v,M.get m.next = some (.cells [int a,int b] false v) → fzvs M [.sl m.next 0 2 1 false (some 2)] = ([.lst [int a,int b]],M.mark m.next [int a,int b] v):=by
  intro M v h
  simp [fzvs,fz1,h,chunk]
 rw [(q165' a b).goF (hz _ _ (by simp; rfl))]
 unfold prtR
 generalize hb:isIn b = y
 cases isIn a <;> cases y <;> simp
 by_cases h2:b = 0
 ·simp [h2]
 ·simp [h2]
def quoR (a b:Int):Int × Int:=if prtR a b = 0 then fitR (a.tdiv b) else (0,prtR a b)
def remR (a b:Int):Int × Int:=if prtR a b = 0 then (a.tmod b,0) else (0,prtR a b)
theorem Ag8 {a b:Int} (h:prtR a b = 0):isIn a = true ∧ isIn b = true ∧ b ≠ 0:=by
 unfold prtR at h
 split at h
 ·split at h
  ·cases h
  ·rename_i h1 h2
   simp only [Bool.and_eq_true] at h1
   exact ⟨h1.1,h1.2,h2⟩
 ·cases h
theorem Ao5 (a b:Int):(a.tdiv b).natAbs ≤ a.natAbs:=by
 rw [Int.natAbs_tdiv]; exact Nat.div_le_self _ _
theorem q122 (a b:Int):Gives Tryz.prog ca 122 [int a,int b] (.tup [int (quoR a b).1,int (quoR a b).2]):=by
 refine Aag Tryz.func122 rfl rfl rfl rfl (by simp) (by simp [Tryz.f122]) (by simp [Tryz.f122]) fun m => ?_
 simp [Tryz.f122,show ca.keepRes 122 = false from rfl,(q170 a b).go]
 by_cases h:prtR a b = 0
 ·obtain ⟨h1,h2,h3⟩:=Ag8 h
  rw [Aa0] at h1
  have h4:=Ao5 a b
  have hw:IntKind.i64.wrap (a.tdiv b) = a.tdiv b:=IntWalk.i64_in _ (by omega)
  simp [h,Aep h3,hw,(q166 _).go,quoR]
 ·simp [h,quoR]
theorem q123 (a b:Int):Gives Tryz.prog ca 123 [int a,int b] (.tup [int (remR a b).1,int (remR a b).2]):=by
 refine Aag Tryz.func123 rfl rfl rfl rfl (by simp) (by simp [Tryz.f123]) (by simp [Tryz.f123]) fun m => ?_
 simp [Tryz.f123,show ca.keepRes 123 = false from rfl,(q170 a b).go]
 by_cases h:prtR a b = 0
 ·obtain ⟨h1,h2,h3⟩:=Ag8 h
  simp [h,Acu h3,remR]
 ·simp [h,remR]
def addR (a b:Int):Int × Int:=if isIn a && isIn b then fitR (a + b) else (0,1)
theorem q114 (a b:Int):Gives Tryz.prog ca 114 [int a,int b] (.tup [int (addR a b).1,int (addR a b).2]):=by
 refine Aag Tryz.func114 rfl rfl rfl rfl (by simp) (by simp [Tryz.f114]) (by simp [Tryz.f114]) fun m => ?_
 simp [Tryz.f114,show ca.keepRes 114 = false from rfl,abuildSlice,placesOf,fillAt,zeros]
 have hz:∀ M:Mem,∀ v,M.get m.next = some (.cells [int a,int b] false v) → fzvs M [.sl m.next 0 2 1 false (some 2)] = ([.lst [int a,int b]],M.mark m.next [int a,int b] v):=by
  intro M v h
  simp [fzvs,fz1,h,chunk]
 rw [(q165' a b).goF (hz _ _ (by simp; rfl))]
 unfold addR
 by_cases h:isIn a = true ∧ isIn b = true
 ·have h1:=Aa0.1 h.1
  have h2:=Aa0.1 h.2
  have hw:IntKind.i64.wrap (a + b) = a + b:=IntWalk.i64_in _ (by omega)
  simp [h.1,h.2,hw,(q166 _).go]
 ·have e:=Aif h
  simp [e]
def subR (a b:Int):Int × Int:=if isIn a && isIn b then fitR (a - b) else (0,1)
theorem q117 (a b:Int):Gives Tryz.prog ca 117 [int a,int b] (.tup [int (subR a b).1,int (subR a b).2]):=by
 refine Aag Tryz.func117 rfl rfl rfl rfl (by simp) (by simp [Tryz.f117]) (by simp [Tryz.f117]) fun m => ?_
 simp [Tryz.f117,show ca.keepRes 117 = false from rfl,abuildSlice,placesOf,fillAt,zeros]
 have hz:∀ M:Mem,∀ v,M.get m.next = some (.cells [int a,int b] false v) → fzvs M [.sl m.next 0 2 1 false (some 2)] = ([.lst [int a,int b]],M.mark m.next [int a,int b] v):=by
  intro M v h
  simp [fzvs,fz1,h,chunk]
 rw [(q165' a b).goF (hz _ _ (by simp; rfl))]
 unfold subR
 by_cases h:isIn a = true ∧ isIn b = true
 ·have h1:=Aa0.1 h.1
  have h2:=Aa0.1 h.2
  have hw:IntKind.i64.wrap (a - b) = a - b:=IntWalk.i64_in _ (by omega)
  simp [h.1,h.2,hw,(q166 _).go]
 ·have e:=Aif h
  simp [e]
def negR (a:Int):Int × Int:=subR 0 a
theorem q119 (a:Int):Gives Tryz.prog ca 119 [int a] (.tup [int (negR a).1,int (negR a).2]):=by
 refine Aag Tryz.func119 rfl rfl rfl rfl (by simp) (by simp [Tryz.f119]) (by simp [Tryz.f119]) fun m => ?_
 simp [Tryz.f119,show ca.keepRes 119 = false from rfl,(q117 0 a).go,negR]
def modR (a b:Int):Int × Int:=if prtR a b = 0 then ((a.tmod b + b).tmod b,0) else (0,prtR a b)
theorem Arw (a b:Int) (h:b ≠ 0):(a.tmod b).natAbs < b.natAbs:=by
 rw [Int.natAbs_tmod]; exact Nat.mod_lt _ (by omega)
theorem q124 (a b:Int):Gives Tryz.prog ca 124 [int a,int b] (.tup [int (modR a b).1,int (modR a b).2]):=by
 refine Aag Tryz.func124 rfl rfl rfl rfl (by simp) (by simp [Tryz.f124]) (by simp [Tryz.f124]) fun m => ?_
 simp [Tryz.f124,show ca.keepRes 124 = false from rfl,(q170 a b).go]
 by_cases h:prtR a b = 0
 ·obtain ⟨h1,h2,h3⟩:=Ag8 h
  rw [Aa0] at h1 h2
  have h4:=Arw a b h3
  have hw:IntKind.i64.wrap (a.tmod b + b) = a.tmod b + b:=IntWalk.i64_in _ (by omega)
  simp [h,Acu h3,hw,modR]
 ·simp [h,modR]
theorem q168 {a:Int} (h:isIn a = true):Gives Tryz.prog ca 168 [int a] (.sc (.int .u64 (a.natAbs:Int))):=by
 refine Aag Tryz.func168 rfl rfl rfl rfl (by simp) (by simp [Tryz.f168]) (by simp [Tryz.f168]) fun m => ?_
 have h4:=Aa0.1 h
 have hw:IntKind.i64.wrap (-a) = -a:=IntWalk.i64_in _ (by omega)
 have hm:max a (-a) = (a.natAbs:Int):=by omega
 have hw2:IntKind.u64.wrap (a.natAbs:Int) = a.natAbs:=IntWalk.u64_in _ (by omega)
 simp [Tryz.f168,show ca.keepRes 168 = false from rfl,amax2,Ajc,hw,hm,hw2]
def sgnR (hi lo:Nat) (neg:Bool):Int × Int:=if hi ≠ 0 then (0,10) else if 1152921504606846976 < lo then (0,10) else fitR (if neg then -(lo:Int) else lo)
theorem q169 (hi lo:Nat) (neg:Bool):Gives Tryz.prog ca 169 [.sc (.int .u64 hi),.sc (.int .u64 lo),.sc (.bool neg)] (.tup [int (sgnR hi lo neg).1,int (sgnR hi lo neg).2]):=by
 refine Aag Tryz.func169 rfl rfl rfl rfl (by simp) (by simp [Tryz.f169]) (by simp [Tryz.f169]) fun m => ?_
 unfold sgnR
 by_cases c1:hi = 0
 ·subst c1
  by_cases c2:1152921504606846976 < lo
  ·have h5:(1152921504606846976:Int) < lo:=by omega
   simp [Tryz.f169,show ca.keepRes 169 = false from rfl,c2,h5]
  ·have h5:¬ (1152921504606846976:Int) < lo:=by omega
   have hw:IntKind.i64.wrap (lo:Int) = lo:=IntWalk.i64_in _ (by omega)
   have hw2:IntKind.i64.wrap (-(lo:Int)) = -lo:=IntWalk.i64_in _ (by omega)
   cases neg
   ·simp [Tryz.f169,show ca.keepRes 169 = false from rfl,c2,h5,hw,(q166 _).go]
   ·simp [Tryz.f169,show ca.keepRes 169 = false from rfl,c2,h5,hw,Ajc,hw2,(q166 _).go]
 ·have c1':¬ (hi:Int) = 0:=by omega
  simp [Tryz.f169,show ca.keepRes 169 = false from rfl,c1,c1',undefV,undef]
theorem q120 (a b:Int):Gives Tryz.prog ca 120 [int a,int b] (.tup [int (min a b),int 0]):=by
 refine Aag Tryz.func120 rfl rfl rfl rfl (by simp) (by simp [Tryz.f120]) (by simp [Tryz.f120]) fun m => ?_
 simp [Tryz.f120,show ca.keepRes 120 = false from rfl,amin2]
theorem q121 (a b:Int):Gives Tryz.prog ca 121 [int a,int b] (.tup [int (max a b),int 0]):=by
 refine Aag Tryz.func121 rfl rfl rfl rfl (by simp) (by simp [Tryz.f121]) (by simp [Tryz.f121]) fun m => ?_
 simp [Tryz.f121,show ca.keepRes 121 = false from rfl,amax2]
theorem Ays (n:Nat):∃ c,n = c:=⟨n,rfl⟩
theorem Aed {P:Program} {t:TypeId} {xo yo:Operand} {k:IntKind} {n r:Nat} (h:n / 4294967296 = r):abin P .shr t xo yo (.sc (.int .u64 n)) (.sc (.int k 32)) = some (.sc (.int .u64 (r:Int))):=by
 rw [Arf,Int.fdiv_eq_ediv_of_nonneg _ (by omega)]
 have:(n:Int) / 2 ^ 32 = (r:Int):=by omega
 rw [this]
theorem Ait {P:Program} {t:TypeId} {xo yo:Operand} {n r:Nat} (h0:n < 18446744073709551616) (h:n % 4294967296 = r):abin P .and t xo yo (.sc (.int .u64 n)) (.sc (.int .u64 4294967295)) = some (.sc (.int .u64 (r:Int))):=by
 rw [Arg h0]
 subst h
 rfl
theorem wrapMul {a b c:Nat} (h:a * b = c) (hc:c < 18446744073709551616):IntKind.u64.wrap ((a:Int) * b) = c:=by
 rw [show (a:Int) * b = ((a * b:Nat):Int) from by simp,h]
 exact IntWalk.u64_in _ (by omega)
theorem wrapAdd {a b c:Nat} (h:a + b = c) (hc:c < 18446744073709551616):IntKind.u64.wrap ((a:Int) + b) = c:=by
 rw [show (a:Int) + b = ((a + b:Nat):Int) from by simp,h]
 exact IntWalk.u64_in _ (by omega)
theorem q167c (x y lo hi x0 x1 y0 y1 w0 p u v vw r t w1 w2 w3 w:Nat)
  (hlo:IntKind.u64.wrap ((x:Int) * y) = (lo:Int))
  (hx0:x % 4294967296 = x0) (hx1:x / 4294967296 = x1) (hy0:y % 4294967296 = y0) (hy1:y / 4294967296 = y1) (hw0:x0 * y0 = w0) (hp:x1 * y0 = p) (hu:x0 * y1 = u) (hv:x1 * y1 = v)
  (hr:w0 / 4294967296 = r) (ht:p + r = t) (hw1:t % 4294967296 = w1) (hw2:t / 4294967296 = w2) (hw:w1 + u = w) (hw3:w / 4294967296 = w3) (hvw:v + w2 = vw) (hhi:vw + w3 = hi) (b1:w0 < 18446744073709551616) (b2:p < 18446744073709551616) (b3:u < 18446744073709551616) (b4:t < 18446744073709551616) (b5:w < 18446744073709551616) (b6:x < 18446744073709551616) (b7:y < 18446744073709551616) (b9:v < 18446744073709551616) (b10:vw < 18446744073709551616) (b11:hi < 18446744073709551616) :
  Gives Tryz.prog ca 167 [.sc (.int .u64 x),.sc (.int .u64 y)] (.tup [.sc (.int .u64 hi),.sc (.int .u64 lo)]):=by
 refine Aag Tryz.func167 rfl rfl rfl rfl (by simp) (by simp [Tryz.f167]) (by simp [Tryz.f167]) fun m => ?_
 have A1:=fun {t:TypeId} {xo yo:Operand} => Ait (P:=Tryz.prog) (t:=t) (xo:=xo) (yo:=yo) b6 hx0
 have A2:=fun {t:TypeId} {xo yo:Operand} => Ait (P:=Tryz.prog) (t:=t) (xo:=xo) (yo:=yo) b7 hy0
 have A3:=fun {t:TypeId} {xo yo:Operand} => Ait (P:=Tryz.prog) (t:=t) (xo:=xo) (yo:=yo) b4 hw1
 have S1:=fun {t:TypeId} {xo yo:Operand} {k:IntKind} => Aed (P:=Tryz.prog) (t:=t) (xo:=xo) (yo:=yo) (k:=k) hx1
 have S2:=fun {t:TypeId} {xo yo:Operand} {k:IntKind} => Aed (P:=Tryz.prog) (t:=t) (xo:=xo) (yo:=yo) (k:=k) hy1
 have S3:=fun {t:TypeId} {xo yo:Operand} {k:IntKind} => Aed (P:=Tryz.prog) (t:=t) (xo:=xo) (yo:=yo) (k:=k) hr
 have S4:=fun {t:TypeId} {xo yo:Operand} {k:IntKind} => Aed (P:=Tryz.prog) (t:=t) (xo:=xo) (yo:=yo) (k:=k) hw2
 have S5:=fun {t:TypeId} {xo yo:Operand} {k:IntKind} => Aed (P:=Tryz.prog) (t:=t) (xo:=xo) (yo:=yo) (k:=k) hw3
 have P1:=wrapMul hw0 b1
 have P2:=wrapMul hp b2
 have P3:=wrapMul hu b3
 have P4:=wrapMul hv b9
 have D1:=wrapAdd ht b4
 have D2:=wrapAdd hw b5
 have D3:=wrapAdd hvw b10
 have D4:=wrapAdd hhi b11
 clear hx0 hx1 hy0 hy1 hr hw1 hw2 hw3
 simp [Tryz.f167,show ca.keepRes 167 = false from rfl,Add,A1,A2,A3,S1,S2,S3,S4,S5,P1,P2,P3,P4,hlo,D1,D2,D3,D4]
theorem Azx (x1 x0 y1 y0:Nat):(x1 * 4294967296 + x0) * (y1 * 4294967296 + y0) = x1 * y1 * 18446744073709551616 + (x1 * y0 + x0 * y1) * 4294967296 + x0 * y0:=by
 have q1:x1 * 4294967296 * (y1 * 4294967296) = x1 * y1 * 18446744073709551616:=by rw [Nat.mul_mul_mul_comm]
 have q2:x1 * 4294967296 * y0 = x1 * y0 * 4294967296:=Nat.mul_right_comm _ _ _
 have q3:x0 * (y1 * 4294967296) = x0 * y1 * 4294967296:=(Nat.mul_assoc _ _ _).symm
 rw [Nat.add_mul,Nat.mul_add,Nat.mul_add,q1,q2,q3,Nat.add_mul]
 omega
theorem Av1 (V Pp U W Z:Nat) (h:V * 18446744073709551616 + (Pp + U) * 4294967296 + W = Z) :
  V + (Pp + W / 4294967296) / 4294967296 + ((Pp + W / 4294967296) % 4294967296 + U) / 4294967296 = Z / 18446744073709551616:=by
 omega
theorem Azy (V P U W:Nat) (b1:W ≤ 18446744065119617025) (b2:P ≤ 1152921504338411520) (b3:U ≤ 1152921504338411520) (b4:V ≤ 72057594037927936):P + W / 4294967296 < 18446744073709551616 ∧ (P + W / 4294967296) % 4294967296 + U < 18446744073709551616 ∧ V + (P + W / 4294967296) / 4294967296 < 18446744073709551616 ∧ V + (P + W / 4294967296) / 4294967296 + ((P + W / 4294967296) % 4294967296 + U) / 4294967296 < 18446744073709551616:=by
 refine ⟨?_,?_,?_,?_⟩ <;> omega
theorem q167 (x y:Nat) (hx:x ≤ 1152921504606846976) (hy:y ≤ 1152921504606846976):Gives Tryz.prog ca 167 [.sc (.int .u64 x),.sc (.int .u64 y)] (.tup [.sc (.int .u64 (((x * y) / 18446744073709551616:Nat):Int)),.sc (.int .u64 (((x * y) % 18446744073709551616:Nat):Int))]):=by
 have k:=Azx (x / 4294967296) (x % 4294967296) (y / 4294967296) (y % 4294967296)
 rw [Nat.div_add_mod' x,Nat.div_add_mod' y] at k
 have c:=Av1 _ _ _ _ _ k.symm
 have x0:x % 4294967296 < 4294967296:=Nat.mod_lt _ (by omega)
 have y0:y % 4294967296 < 4294967296:=Nat.mod_lt _ (by omega)
 have x1:x / 4294967296 ≤ 268435456:=by omega
 have y1:y / 4294967296 ≤ 268435456:=by omega
 have b1:x % 4294967296 * (y % 4294967296) ≤ 4294967295 * 4294967295:=Nat.mul_le_mul (by omega) (by omega)
 have b2:x / 4294967296 * (y % 4294967296) ≤ 268435456 * 4294967295:=Nat.mul_le_mul x1 (by omega)
 have b3:x % 4294967296 * (y / 4294967296) ≤ 4294967295 * 268435456:=Nat.mul_le_mul (by omega) y1
 have b4:x / 4294967296 * (y / 4294967296) ≤ 268435456 * 268435456:=Nat.mul_le_mul x1 y1
 have b5:x * y ≤ 1152921504606846976 * 1152921504606846976:=Nat.mul_le_mul hx hy
 have hlo:IntKind.u64.wrap ((x:Int) * y) = (((x * y) % 18446744073709551616:Nat):Int):=by
  rw [show (x:Int) * y = ((x * y:Nat):Int) from by simp]
  generalize x * y = z
  show IntKind.wrap .u64 (z:Int) = _
  simp [IntKind.wrap,IntKind.signed,IntKind.bits]
 have bb:=Azy (x / 4294967296 * (y / 4294967296)) (x / 4294967296 * (y % 4294967296)) (x % 4294967296 * (y / 4294967296)) (x % 4294967296 * (y % 4294967296)) b1 b2 b3 b4
 exact q167c x y _ _ (x % 4294967296) (x / 4294967296) (y % 4294967296) (y / 4294967296) _ _ _ _ _ _ _ _ _ _ _ hlo (Eq.refl _) (Eq.refl _) (Eq.refl _) (Eq.refl _) (Eq.refl _) (Eq.refl _) (Eq.refl _) (Eq.refl _) (Eq.refl _) (Eq.refl _) (Eq.refl _) (Eq.refl _) (Eq.refl _) (Eq.refl _) (Eq.refl _) c
  (by omega) (by omega) (by omega) bb.1 bb.2.1 (by omega) (by omega) (by omega) bb.2.2.1 (by rw [← c]; exact bb.2.2.2)
theorem Ar5 (a b:Int):(if (decide (a < 0) != decide (b < 0)) then -((a.natAbs * b.natAbs:Nat):Int) else ((a.natAbs * b.natAbs:Nat):Int)) = a * b:=by
 rw [Int.natCast_mul]
 rcases Int.lt_or_le a 0 with h | h <;> rcases Int.lt_or_le b 0 with k | k
 ·have e1:a = -(a.natAbs:Int):=by omega
  have e2:b = -(b.natAbs:Int):=by omega
  simp only [h,k,decide_true,bne_self_eq_false,Bool.false_eq_true,if_false]
  conv => rhs; rw [e1,e2,Int.neg_mul_neg]
 ·have e1:a = -(a.natAbs:Int):=by omega
  have e2:b = (b.natAbs:Int):=by omega
  have k':¬ b < 0:=by omega
  simp only [h,k',decide_true,decide_false]
  conv => rhs; rw [e1,e2,Int.neg_mul]
  rfl
 ·have e1:a = (a.natAbs:Int):=by omega
  have e2:b = -(b.natAbs:Int):=by omega
  have h':¬ a < 0:=by omega
  simp only [h',k,decide_true,decide_false]
  conv => rhs; rw [e1,e2,Int.mul_neg]
  rfl
 ·have e1:a = (a.natAbs:Int):=by omega
  have e2:b = (b.natAbs:Int):=by omega
  have h':¬ a < 0:=by omega
  have k':¬ b < 0:=by omega
  simp only [h',k',decide_false,bne_self_eq_false,Bool.false_eq_true,if_false]
  conv => rhs; rw [e1,e2]
theorem Azw {z:Nat}:(z / 18446744073709551616 ≠ 0 ∨ 1152921504606846976 < z % 18446744073709551616) ↔ 1152921504606846976 < z:=by omega
def mulR (a b:Int):Int × Int:=if isIn a && isIn b then fitR (a * b) else (0,1)
theorem Avj (a b:Int):sgnR (a.natAbs * b.natAbs / 18446744073709551616) (a.natAbs * b.natAbs % 18446744073709551616) (decide (a < 0) != decide (b < 0)) = fitR (a * b):=by
 have sg:=Ar5 a b
 have hab:a.natAbs * b.natAbs = (a * b).natAbs:=(Int.natAbs_mul a b).symm
 unfold sgnR
 rw [hab] at sg ⊢
 have lim:=Azw (z:=(a * b).natAbs)
 have out:1152921504606846976 < (a * b).natAbs → fitR (a * b) = (0,10):=fun h => by
  unfold fitR isIn
  rw [if_neg]
  simp
  omega
 by_cases c1:(a * b).natAbs / 18446744073709551616 = 0
 ·rw [if_neg (by simpa using c1)]
  by_cases c2:1152921504606846976 < (a * b).natAbs % 18446744073709551616
  ·rw [if_pos c2,out (lim.1 (.inr c2))]
  ·rw [if_neg c2]
   have hlt:(a * b).natAbs % 18446744073709551616 = (a * b).natAbs:=by omega
   rw [hlt,sg]
 ·rw [if_pos c1,out (lim.1 (.inl c1))]
theorem q115 (a b:Int):Gives Tryz.prog ca 115 [int a,int b] (.tup [int (mulR a b).1,int (mulR a b).2]):=by
 refine Aag Tryz.func115 rfl rfl rfl rfl (by simp) (by simp [Tryz.f115]) (by simp [Tryz.f115]) fun m => ?_
 simp [Tryz.f115,show ca.keepRes 115 = false from rfl,abuildSlice,placesOf,fillAt,zeros]
 have hz:∀ M:Mem,∀ v,M.get m.next = some (.cells [int a,int b] false v) → fzvs M [.sl m.next 0 2 1 false (some 2)] = ([.lst [int a,int b]],M.mark m.next [int a,int b] v):=by
  intro M v h
  simp [fzvs,fz1,h,chunk]
 rw [(q165' a b).goF (hz _ _ (by simp; rfl))]
 unfold mulR
 by_cases h:isIn a = true ∧ isIn b = true
 ·have i1:=Aa0.1 h.1
  have i2:=Aa0.1 h.2
  have sg:=Avj a b
  have c67:=q167 a.natAbs b.natAbs (by omega) (by omega)
  obtain ⟨hi,hhi⟩:=Ays (a.natAbs * b.natAbs / 18446744073709551616)
  obtain ⟨lo,hlo⟩:=Ays (a.natAbs * b.natAbs % 18446744073709551616)
  rw [hhi,hlo] at sg c67
  have c69:=q169 hi lo (decide (a < 0) != decide (b < 0))
  rw [sg] at c69
  simp [h.1,h.2,(q168 h.1).go,(q168 h.2).go,c67.go,Ads Tryz.underlying4]
  rw [c69.go]
  simp
 ·have e:=Aif h
  simp [e]
theorem Anf {P:Program} {t:TypeId} {xo yo:Operand} {x y:Nat} (h:y ≠ 0):abin P .rem t xo yo (.sc (.int .u64 x)) (.sc (.int .u64 y)) = some (.sc (.int .u64 ((x % y:Nat):Int))):=by
 rw [Acu (by omega),← Int.ofNat_tmod]
def gcdR (a b:Int):Int × Int:=if isIn a && isIn b then sgnR 0 (Nat.gcd a.natAbs b.natAbs) false else (0,1)
theorem q116 (a b:Int):Gives Tryz.prog ca 116 [int a,int b] (.tup [int (gcdR a b).1,int (gcdR a b).2]):=by
 refine Aag Tryz.func116 rfl rfl rfl rfl (by simp) (by simp [Tryz.f116]) (by simp [Tryz.f116]) fun m => ?_
 simp [Tryz.f116,show ca.keepRes 116 = false from rfl,abuildSlice,placesOf,fillAt,zeros]
 have hz:∀ M:Mem,∀ v,M.get m.next = some (.cells [int a,int b] false v) → fzvs M [.sl m.next 0 2 1 false (some 2)] = ([.lst [int a,int b]],M.mark m.next [int a,int b] v):=by
  intro M v h
  simp [fzvs,fz1,h,chunk]
 rw [(q165' a b).goF (hz _ _ (by simp; rfl))]
 unfold gcdR
 by_cases h:isIn a = true ∧ isIn b = true
 rotate_left
 ·have e:=Aif h
  simp [e]
 simp [h.1,h.2,(q168 h.1).go,(q168 h.2).go]
 refine Ab7 (fun n s' m' => ∃ x y:Nat,n = y ∧ Nat.gcd x y = Nat.gcd a.natAbs b.natAbs ∧ s'.at 7 = .sc (.int .u64 x) ∧ s'.at 8 = .sc (.int .u64 y) ∧ Kp m m') b.natAbs ⟨a.natAbs,b.natAbs,rfl,rfl,by simp,by simp,by simp⟩ ?_
 rintro n s' m' ⟨x,y,rfl,hg,e7,e8,hkp⟩ hsame Q' hn he
 simp [e8]
 refine Aad (fun h => ?_) fun h => ?_
 ·have hy:n ≠ 0:=by have:=of_decide_eq_true h; omega
  simp
  refine Aah (by kernel_rfl) (by kernel_rfl) ?_
  simp [e7,e8,Anf hy]
  refine hn (x % n) _ _ (Nat.mod_lt _ (by omega)) ⟨n,x % n,rfl,?_,by simp,by simp,by simpa using hkp⟩
  rw [← hg,Nat.gcd_comm x n,Nat.gcd_rec n x,Nat.gcd_comm]
 ·have hy:n = 0:=by have:=of_decide_eq_false h; omega
  subst hy
  rw [Nat.gcd_zero_right] at hg
  rw [hg] at e7
  simp
  refine he _ _ _ (by simp) ?_
  have c69:Gives Tryz.prog ca 169 [.sc (.int .u64 0),.sc (.int .u64 ((a.natAbs.gcd b.natAbs:Nat):Int)),.sc (.bool false)] _:=q169 0 (a.natAbs.gcd b.natAbs) false
  simp [e7,c69.go]
  exact hkp
def powL (a:Int):Nat → Int → Int × Int
 | 0,x => (x,0)
 | k + 1,x => if (mulR x a).2 ≠ 0 then (0,(mulR x a).2) else powL a k (mulR x a).1
def powR (a n:Int):Int × Int :=
 if (isIn a && isIn n) = false then (0,1) else if n < 0 then (0,1) else if 1 < a.natAbs ∧ 60 < n then (0,10) else if n = 0 then (1,0)
 else if a.natAbs ≤ 1 ∧ n.tmod 2 = 0 then (a * a,0) else if a.natAbs ≤ 1 then (a,0) else powL a n.toNat 1
theorem q125 (a n:Int):Gives Tryz.prog ca 125 [int a,int n] (.tup [int (powR a n).1,int (powR a n).2]):=by
 refine Aag Tryz.func125 rfl rfl rfl rfl (by simp) (by simp [Tryz.f125]) (by simp [Tryz.f125]) fun m => ?_
 simp [Tryz.f125,show ca.keepRes 125 = false from rfl,abuildSlice,placesOf,fillAt,zeros]
 have hz:∀ M:Mem,∀ v,M.get m.next = some (.cells [int a,int n] false v) → fzvs M [.sl m.next 0 2 1 false (some 2)] = ([.lst [int a,int n]],M.mark m.next [int a,int n] v):=by
  intro M v h
  simp [fzvs,fz1,h,chunk]
 rw [(q165' a n).goF (hz _ _ (by simp; rfl))]
 unfold powR
 by_cases h:isIn a = true ∧ isIn n = true
 rotate_left
 ·have e:=Aif h
  simp [e]
 have i1:=Aa0.1 h.1
 have i2:=Aa0.1 h.2
 rw [if_neg (by simp [h.1,h.2])]
 by_cases c1:n < 0
 ·simp [h.1,h.2,c1]
 by_cases c2:1 < a.natAbs ∧ 60 < n
 ·have c2':(1:Int) < a.natAbs:=by omega
  simp only [if_neg c1,if_pos c2]
  simp [h.1,h.2,c1,c2.2,c2',(q168 h.1).go]
 rw [if_neg c1,if_neg c2]
 by_cases c3:n = 0
 ·subst c3
  by_cases cA:1 < a.natAbs
  ·have cA':(1:Int) < a.natAbs:=by omega
   simp [h.1,h.2,(q168 h.1).go,cA']
  ·have cA':¬ (1:Int) < a.natAbs:=by omega
   simp [h.1,h.2,(q168 h.1).go,cA',undefV,undef]
 rw [if_neg c3]
 by_cases cA:a.natAbs ≤ 1
 ·have cA':¬ (1:Int) < a.natAbs:=by omega
  have cB':(a.natAbs:Int) ≤ 1:=by omega
  have hw:IntKind.i64.wrap (a * a) = a * a:=by
   have:a = 0 ∨ a = 1 ∨ a = -1:=by omega
   rcases this with rfl | rfl | rfl <;> rfl
  by_cases c4:n.tmod 2 = 0
  ·rw [if_pos ⟨cA,c4⟩]
   simp [h.1,h.2,(q168 h.1).go,cA',cB',c1,c3,c4,Acu (b:=2) (by decide),Add,hw,undefV,undef]
  ·rw [if_neg (fun q => c4 q.2),if_pos cA]
   simp [h.1,h.2,(q168 h.1).go,cA',cB',c1,c3,c4,Acu (b:=2) (by decide),undefV,undef]
 ·have cA':(1:Int) < a.natAbs:=by omega
  have cB':¬ (a.natAbs:Int) ≤ 1:=by omega
  have c5:¬ 60 < n:=fun q => c2 ⟨by omega,q⟩
  rw [if_neg (fun q => cA q.1),if_neg cA]
  obtain ⟨k,rfl⟩:∃ k:Nat,n = k:=⟨n.toNat,by omega⟩
  rw [Int.toNat_natCast]
  obtain ⟨res,hres⟩:∃ res,res = powL a k 1:=⟨_,rfl⟩
  rw [← hres]
  have c3':¬ k = 0:=by omega
  simp [h.1,h.2,(q168 h.1).go,cA',cB',c1,c3',c5,undefV,undef]
  refine Aar 47 k (fun i s' m' => Kp m m' ∧ ∃ x,s'.at 7 = int x ∧ res = powL a (k - i) x) (by simp) (by omega) ⟨by simp,1,by simp,hres⟩ ?_
  rintro i s' m' hi e47 ⟨hkp,x,e7,ex⟩ hsame hw Q' hn he
  have e0:s'.at 0 = int a:=(hsame 0 (by kernel_rfl)).trans (by simp)
  have e46:s'.at 46 = int k:=(hsame 46 (by kernel_rfl)).trans (by simp)
  clear hsame
  simp [e46,e47]
  refine Aad (fun h => ?_) fun h => ?_
  ·have hlt:i < k:=by simpa using h
   rw [show k - i = (k - (i + 1)) + 1 by omega,powL] at ex
   simp [e7,e0,(q115 x a).go]
   by_cases hz:(mulR x a).2 = 0
   ·rw [if_neg (by simp [hz])] at ex
    simp [hz,e47,hw]
    exact hn _ _ hlt (by simp) ⟨hkp,(mulR x a).1,by simp,ex⟩
   ·rw [if_pos hz] at ex
    simp [hz]
    refine he _ _ _ (by simp) ?_
    simp [ex]
    exact hkp
  ·have hge:i = k:=by have:=of_decide_eq_false h; omega
   subst hge
   rw [Nat.sub_self,powL] at ex
   simp
   refine he _ _ _ (by simp) ?_
   simp [e7,ex]
   exact hkp
def Pairs (a:ArM):Prop:=∀ c ∈ a.cells,c.k = 1 → ∃ x y,c.a = [x,y]
def carM (a:ArM) (v:Val):Val:=(getM a v).1.a.getD 0 (0,0)
def cdrM (a:ArM) (v:Val):Val:=(getM a v).1.a.getD 1 (0,0)
theorem Pairs.get {a:ArM} (h:Pairs a) {v:Val} (hk:(getM a v).1.k = 1):(getM a v).1.a = [carM a v,cdrM a v]:=by
 unfold carM cdrM
 unfold getM at *
 split at hk
 ·rename_i i hi
  obtain ⟨_,c,hc⟩:=Ab6 hi
  simp only [List.getD_eq_getElem?_getD,hc,Option.getD_some] at hk ⊢
  obtain ⟨x,y,e⟩:=h c (List.mem_of_getElem? hc) hk
  simp [e]
 ·simp [zeroC] at hk
def listM (a:ArM):Nat → Val → List Val × Int
 | n,v => if (getM a v).1.k = 1 then (match n with
   | 0 => ([],6)
   | n + 1 => if (listM a n (cdrM a v)).2 = 0 then (carM a v :: (listM a n (cdrM a v)).1,0) else ([],(listM a n (cdrM a v)).2)) else if v.1 = 4 then ([],0) else ([],1)
theorem Ahd {a:ArM} {n:Nat} {v:Val} (h:(getM a v).1.k ≠ 1):listM a n v = if v.1 = 4 then ([],0) else ([],1):=by
 cases n <;> rw [listM,if_neg h]
theorem Akk {a:ArM} {v:Val} (h:(getM a v).1.k = 1):listM a 0 v = ([],6):=by rw [listM,if_pos h]
theorem Akj {a:ArM} {n:Nat} {v:Val} (h:(getM a v).1.k = 1):listM a (n + 1) v = if (listM a n (cdrM a v)).2 = 0 then (carM a v :: (listM a n (cdrM a v)).1,0) else ([],(listM a n (cdrM a v)).2):=by rw [listM,if_pos h]
theorem Al5 {a:ArM}:∀ (n:Nat) (v:Val),(listM a n v).2 ≠ 0 → (listM a n v).1 = []
 | n,v => by
  by_cases h:(getM a v).1.k = 1
  ·cases n with
   | zero => simp [Akk h]
   | succ n =>
    rw [Akj h]
    split
    ·intro h; exact absurd rfl h
    ·intro _; rfl
  ·rw [Ahd h]
   split <;> simp
theorem Ak5 {m0 m1:Mem} {vs:List Val} {x:AV} (h:Acc m0 m1 2 true (vals vs) x) (R:TypeId) (m:Mem):abuiltin Tryz.prog .len #[66] R [x] m = some (int vs.length,m):=by
 rcases h with ⟨h1,rfl⟩ | ⟨h,id,w,rfl,h2,h3,h4⟩
 ·have:vs = []:=by simpa [vals] using h1
  subst this
  exact Adb Tryz.underlying66
 ·rw [Aav,Abw Tryz.underlying66]
section
variable {X:Nat → Prop} {A C:Nat} {n:Int} {l:List Val} {a:ArM} {k:Int} {m:Mem}
def ListK (C A:Nat) (n:Int) (l:List Val) (k:Int) (r:List Val × Int) (m:Mem) (v:AV) (m':Mem):Prop :=
 Acc m m' 2 true (vals r.1) v ∧ KpC (fun j => j = C) m m' ∧ has m' C (clC A n l (if r.2 = 0 then k else failK k r.2))
theorem q130 (hA:Ar X A a m) (hsm:Small a) (hp:Pairs a) (hXC:¬ X C) (hC:has m C (clC A n l k)) (v:Val):wph Tryz.prog ca (.func 130) [.ptr C 0,valA v] m (ListK C A n l k (listM a 1024 v) m):=by
 refine Aas Tryz.func130 rfl rfl (by simp [Tryz.f130]) (by simp [Tryz.f130]) fun Q hQ => ?_
 simp only [Tryz.f130,show ca.keepRes 130 = true from rfl,show ca.keepArgs 130 = false from rfl] at hQ ⊢
 simp
 refine Abs (fun q s m' => ∃ (vs:List Val) (w:Val),q = 1025 - vs.length ∧ vs.length ≤ 1024 ∧ s.at 0 = .ptr C 0 ∧ s.at 3 = .ptr m.next 0 ∧ Kp m m' ∧ m.next < m'.next ∧ (∃ u,m'.get m.next = some (.cells [int w.1,int w.2] false u)) ∧ Acc (m.new [int 0,int 0] false) m' 2 true (vals vs) (s.at 5) ∧ listM a 1024 v = (if (listM a (1024 - vs.length) w).2 = 0 then (vs ++ (listM a (1024 - vs.length) w).1,0) else ([],(listM a (1024 - vs.length) w).2))) 1025 ?_ ?_
 ·refine ⟨[],v,by simp,by simp,by simp,by simp,by simp,by simp,⟨_,by simp; rfl⟩,.inl ⟨rfl,by simp⟩,?_⟩
  simp
  split
  ·rename_i h; rw [← h]
  ·rename_i h; rw [← Al5 _ _ h]
 ·rintro q s m' ⟨vs,w,rfl,hvl,d0,d3,hkp,hlt,⟨u,hB⟩,hacc,heq⟩ Q' hn he
  have hCm:=hC.kp hkp
  have q1:=q112 (hA.kp hkp) hsm hCm w
  have ln:=Ak5 hacc
  have n0:m.next ≠ m'.next:=by omega
  have n1:C ≠ m.next:=by have:=hC.1; omega
  simp [d0,d3,hB,Aaa,q1.go,ceA]
  obtain ⟨M2,hM2⟩:∃ M2,M2 = (m'.new [int 0,int 0,.emp 0,.emp 0] false).set m'.next [int (getM a w).1.k,int (getM a w).1.n,.lst (vals (getM a w).1.a),.lst (byts (getM a w).1.s)]:=⟨_,rfl⟩
  have kM:Kp m' M2:=by rw [hM2]; simp
  have nM:M2.next = m'.next + 1:=by rw [hM2]; simp
  have gc:M2.get m'.next = some (.cells [int (getM a w).1.k,int (getM a w).1.n,.lst (vals (getM a w).1.a),.lst (byts (getM a w).1.s)] false (m'.clock + 2)):=by rw [hM2]; simp
  have gB:=(kM.get m.next hlt).trans hB
  have hkp2:=hkp.trans kM
  have fin:∀ (s':Sl) (m7:Mem) (r:List Val × Int) (x:AV),s'.at 4 = x → Acc (m.new [int 0,int 0] false) m7 2 true (vals r.1) x → KpC (fun j => j = C) m m7 → has m7 C (clC A n l (if r.2 = 0 then k else failK k r.2)) → listM a 1024 v = r → Q .ret s' m7:=by
   rintro s' m7 r x h4 hx kc hc rfl
   refine hQ _ _ _ ?_
   rw [Aaf]
   simp [aresult,h4,oneOf]
   exact ⟨hx.imp id fun ⟨h,i,w,e,h1,h2⟩ => ⟨h,i,w,e,by simp at h1; omega,h2⟩,kc,hc⟩
  rw [← hM2]
  clear hM2
  have fail:∀ (s':Sl) (kd:Int) (d:Option Tmp) (kk:List It),kd ≠ 0 → listM a 1024 v = ([],kd) → (∀ m7,KpC (fun j => j = C) m m7 → has m7 C (clC A n l (failK k kd)) → goP Tryz.prog ca 43 Q' (aput 43 s' d (valA (0,0))) kk m7) → goH Tryz.prog ca 43 Q' (.func 134) [.ptr C 0,int kd] d kk s' M2:=by
   intro s' kd d kk h0 _ hgo
   refine Aae (q134 (A:=A) (n:=n) (l:=l) (k:=k) (m:=M2) (hCm.kp kM) kd) ?_
   rintro _ m7 ⟨rfl,kc7,hC7⟩
   exact hgo m7 ((KpC.of (.of hkp2)).trans kc7) hC7
  by_cases hk:(getM a w).1.k = 1
  ·simp [hk,ln]
   by_cases hf:vs.length = 1024
   ·simp [hf,d0]
    rw [hf,Nat.sub_self,Akk hk,if_neg (by decide)] at heq
    refine fail _ 6 _ _ (by decide) heq fun m7 kc7 hC7 => ?_
    simp
    refine he _ _ _ (by simp) ?_
    simp
    exact fin _ _ ([],6) (.emp 0) (by simp) (.inl ⟨rfl,rfl⟩) kc7 hC7 heq
   ·have hf':¬ (vs.length:Int) = 1024:=by omega
    have ea:=hp.get hk
    have hx0:aindexAddr Tryz.prog 66 (.lst (vals (getM a w).1.a)) (int 0) = some ((valA (carM a w)).cptr 0):=Aak (i:=0) (by rw [ea]; rfl)
    have hx1:aindexAddr Tryz.prog 66 (.lst (vals (getM a w).1.a)) (int 1) = some ((valA (cdrM a w)).cptr 0):=Aak (i:=1) (by rw [ea]; rfl)
    have hsrc:=Abv (m:=M2.new (valA (carM a w)).cells false) (id:=M2.next) (c:=some 1) (k:=2) (ag:=true) (x:=valA (carM a w)) (w:=M2.clock + 1) (f:=false) rfl (by simp) (by simp) (by simp [valA])
    obtain ⟨v3,m6,p1,p2,p3,p4⟩:=Adh (T:=66) (m:=M2.new (valA (carM a w)).cells false) (zs:=[valA (carM a w)]) ((hacc.kp kM).kp (.new _ _ _)) (by simp; omega) (Aa4 _) el66 (by simp [Aao,Aba]) (by simp [fzx,fzvs]) (by simp; omega)
    have n7:=p3.next
    simp at n7
    have ho:∀ j,owns (s.at 5) j → m.next < j ∧ j < m'.next:=fun j h => by
     have:=Aa7 hacc j h
     simp at this
     omega
    have k6:Kp m m6:=by
     have k5:=hkp2.newr (valA (carM a w)).cells false
     have q:=k5.next
     exact ⟨by omega,fun j hj => (p3.get j (by omega) fun h => by have:=ho j h; omega).trans (k5.get j hj),fun j hj => have q:=p3.x j (by omega) fun h => by have:=ho j h; omega
      ⟨q.1.trans (k5.x j hj).1,q.2.trans (k5.x j hj).2⟩⟩
    have gc6:=p3.get m'.next (by simp; omega) fun h => by have:=ho _ h; omega
    have gB6:=p3.get m.next (by simp; omega) fun h => by have:=ho _ h; omega
    have nc:m'.next ≠ M2.next:=by omega
    have nB:m.next ≠ M2.next:=by omega
    simp [nc,gc] at gc6
    simp [nB,gB] at gB6
    simp only [Acv] at hsrc p1 p3
    simp [hf',gc,hk,d0,d3,hx0,abuildSlice,zeros,fillAt,abuiltin,hsrc,p1,gc6,gB6,hx1]
    have e1:1024 - vs.length = 1024 - (vs ++ [carM a w]).length + 1:=by simp; omega
    rw [e1,Akj hk] at heq
    refine hn _ _ _ (by simp; omega) ⟨vs ++ [carM a w],cdrM a w,rfl,by simp; omega,by simp [d0],by simp [d3],k6.set (Nat.le_refl _) _,by simp; omega,⟨_,by simp; rfl⟩,?_,?_⟩
    ·rw [Ab8,Aay,Aef]
     simp
     refine p2.imp id fun ⟨h,i,w,e,h1,h2,h3⟩ => ⟨h,i,w,e,h1,by simpa using h2,?_⟩
     simp at h1
     have:i ≠ m.next:=by omega
     simp [this,h3]
    ·rw [heq]
     by_cases h0:(listM a (1024 - (vs ++ [carM a w]).length) (cdrM a w)).2 = 0
     ·simp only [if_pos h0]; simp
     ·simp only [if_neg h0]
  ·simp [hk,gc,gB,d3]
   rw [Ahd hk] at heq
   by_cases h4:w.1 = 4
   ·simp [h4]
    refine he _ _ _ (by simp) ?_
    simp
    rw [if_pos h4] at heq
    simp at heq
    exact fin _ _ (vs,0) (s.at 5) (by simp) (hacc.kp kM) (.of (.of hkp2)) (hCm.kp kM) heq
   ·simp [h4,d0]
    rw [if_neg h4,if_neg (by decide)] at heq
    refine fail _ 1 _ _ (by decide) heq fun m7 kc7 hC7 => ?_
    simp
    refine he _ _ _ (by simp) ?_
    simp
    exact fin _ _ ([],1) (.emp 0) (by simp) (.inl ⟨rfl,rfl⟩) kc7 hC7 heq
end
theorem Ac0:∀ (l:List Val) (i:Nat) (v:Val),i < l.length → splice (flat (vals l)) (i * 2) [int v.1,int v.2] = flat (vals (l.set i v))
 | x :: l,0,v,_ => by simp [Aay,Aa2,splice,valA]
 | x :: l,i + 1,v,h => by
  have ih:=Ac0 l i v (by simpa using h)
  have e:(i + 1) * 2 = i * 2 + 2:=by omega
  simp only [splice] at ih
  rw [List.set_cons_succ,Aay,Aay,Aa2,Aa2,← ih,e]
  simp [splice,valA]
theorem q131 {m0 m:Mem} {l:List Val} {x:AV} (h:Acc m0 m 2 true (vals l) x) (hl:l.length ≤ 4096):wph Tryz.prog ca (.func 131) [x] m fun _ m' => Acc m0 m' 2 true (vals l.reverse) x ∧ KpC (owns x) m m':=by
 refine Aas Tryz.func131 rfl rfl (by simp [Tryz.f131]) (by simp [Tryz.f131]) fun Q hQ => ?_
 simp only [Tryz.f131,show ca.keepRes 131 = false from rfl,show ca.keepArgs 131 = true from rfl] at hQ ⊢
 have wl:IntKind.i64.wrap ((l.length:Int) - 1) = l.length - 1:=IntWalk.i64_in _ (by omega)
 simp [Ak5 h,wl]
 rcases id h with ⟨h1,rfl⟩ | ⟨hne,id,w,rfl,h2,h3,h4⟩
 ·have:l = []:=by simpa [vals] using h1
  subst this
  refine Abs (fun q s m' => s.at 2 = int 0 ∧ s.at 3 = int (-1) ∧ m' = m) 0 ⟨by simp,by simp,rfl⟩ ?_
  rintro q s m' ⟨e2,e3,rfl⟩ Q' hn he
  simp [e2,e3]
  refine he _ _ _ (by simp) ?_
  simp
  refine hQ _ _ _ ⟨.inl rfl,[],rfl,h,.refl _ _⟩
 rw [Aav] at *
 refine Abs (fun q s m' => ∃ (i:Nat) (l':List Val),q = l.length - i ∧ i ≤ l.length ∧ s.at 0 = .sl id 0 l.length 2 true none ∧ s.at 2 = int i ∧ s.at 3 = int ((l.length:Int) - 1 - i) ∧ l'.length = l.length ∧ (∀ q,q < l.length → l'[q]? = if q < i ∨ l.length ≤ q + i then l[l.length - 1 - q]? else l[q]?) ∧ (∃ w,m'.get id = some (.cells (flat (vals l')) false w)) ∧ KpC (fun j => id = j) m m') l.length ?_ ?_
 ·refine ⟨0,l,by simp,by simp,by simp,by simp,by simp,rfl,fun q hq => ?_,⟨w,h4⟩,.refl _ _⟩
  rw [if_neg (by omega)]
 ·rintro q s m' ⟨i,l',rfl,hi,d0,d2,d3,hll,hch,⟨u,hg⟩,kc⟩ Q' hn he
  simp [d2,d3]
  by_cases hc:(i:Int) < (l.length:Int) - 1 - i
  ·have hix:=fun (q:Nat) (hq:q < l.length) => Aaj (P:=Tryz.prog) (q:=.i64) (ag:=true) (c:=none) (id:=id) (off:=0) (len:=l.length) (i:=q) Tryz.underlying66 Abf hq
   obtain ⟨j,hj⟩:∃ j:Nat,j = l.length - 1 - i:=⟨_,rfl⟩
   have hji:(l.length:Int) - 1 - i = (j:Int):=by omega
   obtain ⟨v1,hv1⟩:∃ v,l'[i]? = some v:=⟨_,List.getElem?_eq_getElem (by omega)⟩
   obtain ⟨v2,hv2⟩:∃ v,l'[j]? = some v:=⟨_,List.getElem?_eq_getElem (by omega)⟩
   have a1:(vals l')[i]? = some (valA v1):=by rw [Aeg,hv1]; rfl
   have a2:(vals l')[j]? = some (valA v2):=by rw [Aeg,hv2]; rfl
   obtain ⟨f1,f2⟩:=Abq (Aa4 l') a1
   obtain ⟨g1,g2⟩:=Abq (Aa4 l') a2
   have s1:(flat (vals l')).take (i * 2) ++ int v2.1 :: int v2.2 :: (flat (vals l')).drop (i * 2 + 2) = flat (vals (l'.set i v2)):=by simpa [splice] using Ac0 l' i v2 (by omega)
   have s2:(flat (vals (l'.set i v2))).take (j * 2) ++ int v1.1 :: int v1.2 :: (flat (vals (l'.set i v2))).drop (j * 2 + 2) = flat (vals ((l'.set i v2).set j v1)):=by simpa [splice] using Ac0 (l'.set i v2) j v1 (by simp; omega)
   simp only [Acv] at f2 g2
   rw [hji] at hc d3
   have hix1:=hix i (by omega)
   have hix2:=hix j (by omega)
   have hl2:(flat (vals (l'.set i v2))).length = (flat (vals l')).length:=by rw [← s1]; simp; omega
   simp [hji,hc]
   refine Aah (by kernel_rfl) (by kernel_rfl) ?_
   simp [d0,d2,d3,hix1,hix2,hg,f1,f2,g1,g2,s1,s2,hl2]
   have wi:IntKind.i64.wrap ((i:Int) + 1) = ((i + 1:Nat):Int):=by rw [IntWalk.i64_in _ (by omega)]; omega
   have wj:IntKind.i64.wrap ((j:Int) - 1) = (l.length:Int) - 1 - ((i + 1:Nat):Int):=by rw [IntWalk.i64_in _ (by omega)]; omega
   rw [wi,wj]
   refine hn _ _ _ (by omega) ⟨i + 1,(l'.set i v2).set j v1,rfl,by omega,by simp [d0],by simp,by simp,by simp [hll],fun q hq => ?_,⟨_,by simp; rfl⟩,(kc.trans ((Aap id _ _).mono fun j h => h.symm)).trans ((Aap id _ _).mono fun j h => h.symm)⟩
   have c1:=hch i (by omega)
   rw [if_neg (by omega),hv1] at c1
   have c2:=hch j (by omega)
   rw [if_neg (by omega),hv2] at c2
   by_cases hq1:q = j
   ·subst hq1
    rw [List.getElem?_set_self (by simp; omega),if_pos (.inr (by omega)),c1]
    congr 1; omega
   ·rw [List.getElem?_set_ne (by omega)]
    by_cases hq2:q = i
    ·subst hq2
     rw [List.getElem?_set_self (by omega),if_pos (.inl (by omega)),c2,hj]
    ·rw [List.getElem?_set_ne (by omega),hch q hq]
     by_cases hc2:q < i ∨ l.length ≤ q + i
     ·have hc3:q < i + 1 ∨ l.length ≤ q + (i + 1):=by omega
      rw [if_pos hc2,if_pos hc3]
     ·have hc3:¬ (q < i + 1 ∨ l.length ≤ q + (i + 1)):=by omega
      rw [if_neg hc2,if_neg hc3]
  ·simp [hc]
   refine he _ _ _ (by simp) ?_
   simp
   refine hQ _ _ _ ⟨.inl rfl,[],rfl,.inr ⟨by simpa [vals] using hne,id,u,by simp,h2,Nat.lt_of_lt_of_le h3 kc.next,?_⟩,kc⟩
   have:l' = l.reverse:=by
    refine List.ext_getElem? fun q => ?_
    by_cases hq:q < l.length
    ·rw [hch q hq,List.getElem?_reverse hq]
     split
     ·rfl
     ·congr 1; omega
    ·rw [List.getElem?_eq_none (by omega),List.getElem?_eq_none (by simp; omega)]
   rw [← this]
   exact hg
def lists (l:List (List Val)):List AV:=l.map fun x => .lst (vals x)
@[simp] theorem Ayn (l:List (List Val)):(lists l).length = l.length:=by simp [lists]
theorem Asz (l:List (List Val)) (i:Nat):(lists l)[i]? = (l[i]?).map fun x => .lst (vals x):=by simp [lists]
theorem A1c {J:Nat → Mem → Prop} {lo db:Nat} (l:List Val) (hl:l.length < 2 ^ 21)
  (hJ:∀ k x m,l[k]? = some x → J (k + 1) m → wph Tryz.prog ca (.yield lo) [int k,valA x] m fun v m' => v = .sc (.bool true) ∧ J k m')
  (hb:∀ k m,J k m → has m db [.lst (vals l)]) (m:Mem) (h:J l.length m):wph Tryz.prog ca (.func 181) [.yl lo,.ptr db 0] m fun v m' => v = .tup [] ∧ J 0 m':=by
 refine Aas Tryz.func181 rfl rfl (by simp [Tryz.f181]) (by simp [Tryz.f181]) fun Q hQ => ?_
 simp only [Tryz.f181,show ca.keepRes 181 = false from rfl,show ca.keepArgs 181 = false from rfl] at hQ ⊢
 obtain ⟨bl,bv,be⟩:=hb _ _ h
 have w0:IntKind.i64.wrap ((l.length:Int) - 1) = (l.length:Int) - 1:=IntWalk.i64_in _ (by omega)
 simp [be,w0]
 refine Abs (fun k s m' => k ≤ l.length ∧ s.at 3 = int ((k:Int) - 1) ∧ s.at 0 = .yl lo ∧ s.at 1 = .ptr db 0 ∧ J k m') l.length ⟨Nat.le_refl _,by simp,by simp,by simp,h⟩ ?_
 rintro k s m' ⟨hk,e3,e0,e1,hJk⟩ Q' hn he
 obtain ⟨bl,bv,be⟩:=hb _ _ hJk
 simp [e3]
 cases k with
 | zero =>
  simp
  refine he _ _ _ (by simp) ?_
  simp
  exact hQ _ _ _ (by rw [Agm (.inl rfl)]; exact ⟨rfl,hJk⟩)
 | succ k =>
  obtain ⟨x,hx⟩:∃ x,l[k]? = some x:=⟨_,List.getElem?_eq_getElem (by omega)⟩
  have hx':(vals l)[k]? = some (valA x):=by rw [Aeg,hx]; rfl
  have e3':s.at 3 = int (k:Int):=by rw [e3]; congr 3; omega
  have ek:((k:Int) + 1 - 1) = (k:Int):=by omega
  have hix:=Aam (P:=Tryz.prog) (q:=.i64) Tryz.underlying66 Abf hx' (by simp)
  have h0:(0:Int) ≤ k:=by omega
  have w1:IntKind.i64.wrap ((k:Int) - 1) = (k:Int) - 1:=IntWalk.i64_in _ (by omega)
  have h1:(1:Int) ≤ (k:Int) + 1:=by omega
  simp [e0,e1,e3',be,hix,ek,h1]
  refine Aae (hJ k x m' hx hJk) ?_
  rintro v m2 ⟨rfl,hJ2⟩
  simp [e3',w1]
  refine hn k _ _ (by omega) ⟨by omega,by simp,by simp [e0],by simp [e1],hJ2⟩
theorem q171 (l:List Val) (m:Mem):EH Tryz.prog ca (.func 171) [.lst (vals l)] m (.fn (.func 181) [] [.ptr m.next 0]) (m.new [.lst (vals l)] false):=by
 refine eh_of (Aas Tryz.func171 rfl rfl (by simp [Tryz.f171]) (by simp [Tryz.f171]) fun Q hQ => ?_)
 simp only [Tryz.f171,show ca.keepRes 171 = false from rfl,show ca.keepArgs 171 = false from rfl] at hQ ⊢
 simp
 exact hQ _ _ _ ⟨.inr rfl,_,rfl,by simp [oneOf]⟩
theorem A1d {J:Nat → Mem → Prop} {lo db:Nat} (l:List (List Val)) (hl:l.length < 2 ^ 21)
  (hJ:∀ k x m,l[k]? = some x → J (k + 1) m → wph Tryz.prog ca (.yield lo) [int k,.lst (vals x)] m fun v m' => v = .sc (.bool true) ∧ J k m')
  (hb:∀ k m,J k m → has m db [.lst (lists l)]) (m:Mem) (h:J l.length m):wph Tryz.prog ca (.func 172) [.yl lo,.ptr db 0] m fun v m' => v = .tup [] ∧ J 0 m':=by
 refine Aas Tryz.func172 rfl rfl (by simp [Tryz.f172]) (by simp [Tryz.f172]) fun Q hQ => ?_
 simp only [Tryz.f172,show ca.keepRes 172 = false from rfl,show ca.keepArgs 172 = false from rfl] at hQ ⊢
 obtain ⟨bl,bv,be⟩:=hb _ _ h
 have w0:IntKind.i64.wrap ((l.length:Int) - 1) = (l.length:Int) - 1:=IntWalk.i64_in _ (by omega)
 simp [be,w0]
 refine Abs (fun k s m' => k ≤ l.length ∧ s.at 3 = int ((k:Int) - 1) ∧ s.at 0 = .yl lo ∧ s.at 1 = .ptr db 0 ∧ J k m') l.length ⟨Nat.le_refl _,by simp,by simp,by simp,h⟩ ?_
 rintro k s m' ⟨hk,e3,e0,e1,hJk⟩ Q' hn he
 obtain ⟨bl,bv,be⟩:=hb _ _ hJk
 simp [e3]
 cases k with
 | zero =>
  simp
  refine he _ _ _ (by simp) ?_
  simp
  exact hQ _ _ _ (by rw [Agm (.inl rfl)]; exact ⟨rfl,hJk⟩)
 | succ k =>
  obtain ⟨x,hx⟩:∃ x,l[k]? = some x:=⟨_,List.getElem?_eq_getElem (by omega)⟩
  have hx':(lists l)[k]? = some (.lst (vals x)):=by rw [Asz,hx]; rfl
  have e3':s.at 3 = int (k:Int):=by rw [e3]; congr 3; omega
  have ek:((k:Int) + 1 - 1) = (k:Int):=by omega
  have hix:=Aam (P:=Tryz.prog) (q:=.i64) Tryz.underlying175 Ang hx' (by simp)
  have h0:(0:Int) ≤ k:=by omega
  have w1:IntKind.i64.wrap ((k:Int) - 1) = (k:Int) - 1:=IntWalk.i64_in _ (by omega)
  have h1:(1:Int) ≤ (k:Int) + 1:=by omega
  simp [e0,e1,e3',be,hix,ek,h1]
  refine Aae (hJ k x m' hx hJk) ?_
  rintro v m2 ⟨rfl,hJ2⟩
  simp [e3',w1]
  refine hn k _ _ (by omega) ⟨by omega,by simp,by simp [e0],by simp [e1],hJ2⟩
theorem q133 (l:List (List Val)) (m:Mem):EH Tryz.prog ca (.func 133) [.lst (lists l)] m (.fn (.func 172) [] [.ptr m.next 0]) (m.new [.lst (lists l)] false):=by
 refine eh_of (Aas Tryz.func133 rfl rfl (by simp [Tryz.f133]) (by simp [Tryz.f133]) fun Q hQ => ?_)
 simp only [Tryz.f133,show ca.keepRes 133 = false from rfl,show ca.keepArgs 133 = false from rfl] at hQ ⊢
 simp
 exact hQ _ _ _ ⟨.inr rfl,_,rfl,by simp [oneOf]⟩
def aheadM (a:ArM) (k:Int) (e:Val):List Val → Val × ArM × Int
 | [] => (e,a,k)
 | x :: l => allocC (aheadM a k e l).2.1 (aheadM a k e l).2.2 ⟨1,0,[x,(aheadM a k e l).1],[]⟩
def JA (X:Nat → Prop) (A C:Nat) (n:Int) (l0:List Val) (m:Mem) (c:LCode) (xs:List Val) (r:Val × ArM × Int) (mm:Mem):Prop :=
 (∃ X1,Ar X1 A r.2.1 mm ∧ ∀ j,X1 j → (X j ∨ m.next + 5 ≤ j) ∧ j < mm.next) ∧ KpC (fun j => X j ∨ j = C) m mm ∧ has mm C (clC A n l0 r.2.2) ∧ (∃ w,mm.get m.next = some (.cells [.ptr C 0] false w)) ∧ (∃ w,mm.get (m.next + 1) = some (.cells [int r.1.1,int r.1.2] false w)) ∧ (∃ w,mm.get (m.next + 2) = some (.cells [int 0,int 0] false w)) ∧ has mm (m.next + 3) [.lst (vals xs)] ∧ (∃ ver,mm.loop (m.next + 4) = some ⟨.ready,none,c,ver⟩) ∧ m.next + 5 ≤ mm.next
theorem q129 {X:Nat → Prop} {A C:Nat} {n:Int} {l0:List Val} {a:ArM} {k:Int} {m:Mem} (hA:Ar X A a m) (hX:∀ j,X j → j < m.next) (hXC:¬ X C) (hC:has m C (clC A n l0 k)) (l:List Val) (hl:l.length < 2 ^ 21) (e:Val):wph Tryz.prog ca (.func 129) [.ptr C 0,.lst (vals l),valA e] m fun v m' => v = valA (aheadM a k e l).1 ∧ Cs X A C n l0 (aheadM a k e l).2.1 (aheadM a k e l).2.2 m m':=by
 have hC0:=hC
 obtain ⟨hCl,w,hg⟩:=hC
 refine Aas Tryz.func129 rfl rfl (by simp [Tryz.f129]) (by simp [Tryz.f129]) fun Q hQ => ?_
 simp only [Tryz.f129,show ca.keepRes 129 = false from rfl,show ca.keepArgs 129 = false from rfl] at hQ ⊢
 obtain ⟨M1,hM1⟩:∃ M1,M1 = ((m.new [.ptr C 0] false).new [int e.1,int e.2] false).new [int 0,int 0] false:=⟨_,rfl⟩
 have k1:Kp m M1:=by rw [hM1]; simp
 have n1:M1.next = m.next + 3:=by rw [hM1]; simp
 have g0:M1.get m.next = some (.cells [.ptr C 0] false (m.clock + 1)):=by rw [hM1]; simp
 have g1:M1.get (m.next + 1) = some (.cells [int e.1,int e.2] false (m.clock + 2)):=by rw [hM1]; simp
 have g2:M1.get (m.next + 2) = some (.cells [int 0,int 0] false (m.clock + 3)):=by rw [hM1]; simp
 simp
 rw [← hM1]
 clear hM1
 simp [(q171 l M1).go]
 refine Akn (f:=181) (a:=[]) (b:=[.ptr M1.next 0]) (by simp) (by kernel_rfl) ?_
 simp only [List.nil_append,List.singleton_append]
 generalize hcd:LCode.mk _ _ _ _ _ = c
 refine Ae8 (A1c (J:=fun k' mm => JA X A C n l0 m c l (aheadM a k e (l.drop k')) mm) l hl ?_ (fun k mm h => by rw [n1]; exact h.2.2.2.2.2.2.1) _ ?_) ?_
 ·rintro k' x mm hx ⟨⟨X1,hA1,hX1⟩,kc,hC1,⟨w0,h0⟩,⟨w1,h1⟩,⟨w2,h2⟩,h3,⟨ver,hloop⟩,hn⟩
  have hid:(M1.new [AV.lst (vals l)] false).next = m.next + 4:=by simp [n1]
  rw [hid]
  refine Ahm hloop (by rw [← hcd]; rfl) ?_
  have c1:=congrArg LCode.assign hcd
  have c2:=congrArg LCode.body hcd
  have c3:=congrArg LCode.N hcd
  have c4:=congrArg LCode.s hcd
  have c5:=congrArg LCode.ps hcd
  dsimp only at c1 c2 c3 c4 c5
  simp only [← c1,← c2,← c3,← c4,← c5]
  have hstep:aheadM a k e (l.drop k') = allocC (aheadM a k e (l.drop (k' + 1))).2.1 (aheadM a k e (l.drop (k' + 1))).2.2 ⟨1,0,[x,(aheadM a k e (l.drop (k' + 1))).1],[]⟩:=by
   obtain ⟨h1,h2⟩:=List.getElem?_eq_some_iff.1 hx
   rw [← List.getElem_cons_drop h1,h2,aheadM]
  rw [hstep]
  generalize aheadM a k e (l.drop (k' + 1)) = r at hA1 hC1 h1 ⊢
  have z0:m.next ≠ mm.next:=by omega
  have z1:m.next + 1 ≠ mm.next:=by omega
  simp [Sl.puts,hloop,h0,h1,z0,z1,abuildSlice,zeros,fillAt,abuild,placesOf]
  obtain ⟨Mb,hMb⟩:∃ Mb,Mb = (((mm.new [int 0,int 0] false).set mm.next [int x.1,int x.2]).setLoop (m.next + 4) .busy none c).new [int x.1,int x.2,int r.1.1,int r.1.2] false:=⟨_,rfl⟩
  have kb:KpC (fun j => j = m.next + 4) mm Mb:=by
   rw [hMb]
   exact ⟨by simp,fun id hi hx => by
    have a1:id ≠ mm.next:=by omega
    have a2:id ≠ mm.next + 1:=by omega
    simp [a1,a2],fun id hi hx => by
    have a1:id ≠ m.next + 4:=hx
    simp [a1]⟩
  have nb:Mb.next = mm.next + 2:=by rw [hMb]; simp
  obtain ⟨wF,gF⟩:∃ w,Mb.get (mm.next + 1) = some (.cells [int x.1,int x.2,int r.1.1,int r.1.2] false w):=⟨_,by rw [hMb]; simp; rfl⟩
  obtain ⟨uL,lb⟩:∃ w,Mb.loop (m.next + 4) = some ⟨.busy,none,c,w⟩:=⟨_,by rw [hMb]; simp; rfl⟩
  rw [← hMb]
  clear hMb
  obtain ⟨M9,hM9⟩:∃ M9,M9 = Mb.mark (mm.next + 1) (flat (vals [x,r.1])) wF:=⟨_,rfl⟩
  have k9:KpC (fun j => j = m.next + 4) mm M9:=by
   rw [hM9]
   exact KpC.cut (KpC.trans (kb.mono fun j h => .inl h) ((Agn (mm.next + 1) wF _ Mb).mono fun j h => .inr (by omega)))
  have n9:M9.next = mm.next + 2:=by rw [hM9]; simp [nb]
  have l9:M9.loop (m.next + 4) = some ⟨.busy,none,c,uL⟩:=by rw [hM9]; simp; exact lb
  have q:=Acz Tryz.func127 rfl rfl rfl (Apo (A:=C) (k:=1) (x:=x) (y:=r.1) gF) (by simp [fzvs]) (q127 (X:=X1) (A:=A) (n:=n) (l:=l0) (k:=r.2.2) (a:=r.2.1) (m:=Mb.mark (mm.next + 1) (flat (vals [x,r.1])) wF) (by rw [← hM9]; exact hA1.kc k9 fun j h e => by rcases (hX1 j h).1 with h | h; have:=hX j h; omega; omega) (fun j h => by rw [← hM9,n9]; have:=(hX1 j h).2; omega) (fun h => by rcases (hX1 C h).1 with h | h; exact hXC h; omega) (by rw [← hM9]; exact hC1.kc k9 (by omega)) ⟨1,0,[x,r.1],[]⟩ (by simp) (by simp))
  rw [← hM9] at q
  refine Aae q ?_
  rintro _ m5 ⟨rfl,X2,hA2,hX2,kc2,hC2⟩
  have n5:=kc2.next
  have keep:∀ j,m.next ≤ j → j < m.next + 5 → ¬ (X1 j ∨ j = C):=fun j h1 h2 h => by
   rcases h with h | h
   ·rcases (hX1 j h).1 with h | h
    ·have:=hX j h; omega
    ·omega
   ·omega
  have h50:=(kc2.get m.next (by omega) (keep _ (by omega) (by omega))).trans ((k9.get m.next (by omega) (by omega)).trans h0)
  have h51:=(kc2.get (m.next + 1) (by omega) (keep _ (by omega) (by omega))).trans ((k9.get (m.next + 1) (by omega) (by omega)).trans h1)
  have h52:=(kc2.get (m.next + 2) (by omega) (keep _ (by omega) (by omega))).trans ((k9.get (m.next + 2) (by omega) (by omega)).trans h2)
  have h53:=(h3.kc k9 (by omega)).kc kc2 (keep _ (by omega) (by omega))
  have l5:=(kc2.x (m.next + 4) (by omega) (keep _ (by omega) (by omega))).1.trans l9
  simp [h51,l5,Aaa]
  have hX2':∀ j,X2 j → (X j ∨ m.next + 5 ≤ j) ∧ j < m5.next:=fun j h => ⟨(hX2 j h).1.elim (fun h => (hX1 j h).1) fun h => .inr (by omega),(hX2 j h).2⟩
  have ne2:∀ j,X2 j → j ≠ m.next + 1 ∧ j ≠ m.next + 4:=fun j h => by
   rcases (hX2' j h).1 with h | h
   ·have:=hX j h; omega
   ·omega
  have p0:m.next ≠ m.next + 1:=by omega
  refine ⟨⟨X2,(hA2.kc (Aap (m.next + 1) _ _) fun j h e => absurd e (ne2 j h).1).kc (Ace (m.next + 4) _ _ _ _) fun j h e => absurd e (ne2 j h).2,fun j h => by simpa using hX2' j h⟩,?_,(hC2.kc (Aap (m.next + 1) _ _) (by omega)).kc (Ace (m.next + 4) _ _ _ _) (by omega),⟨w0,by simp [h50]⟩,⟨_,by simp; rfl⟩,⟨w2,by simp [h52]⟩,(h53.kc (Aap (m.next + 1) _ _) (by omega)).kc (Ace (m.next + 4) _ _ _ _) (by omega),⟨_,by simp; rfl⟩,by simp; omega⟩
  refine KpC.cut (((((kc.mono fun j h => .inl h).trans (k9.mono fun j h => .inr (by omega))).trans (kc2.mono fun j h => ?_)).trans ((Aap (m.next + 1) _ _).mono fun j h => .inr (by omega))).trans ((Ace (m.next + 4) _ _ _ _).mono fun j h => .inr (by omega)))
  rcases h with h | h
  ·rcases (hX1 j h).1 with h | h
   ·exact .inl (.inl h)
   ·exact .inr (by omega)
  ·exact .inl (.inr h)
 ·rw [List.drop_length,aheadM]
  have kk:Kp m ((M1.new [AV.lst (vals l)] false).newLoop c):=(k1.trans (.new _ _ _)).newLoop c
  have p0:m.next ≠ m.next + 3:=by omega
  have p1:m.next + 1 ≠ m.next + 3:=by omega
  have p2:m.next + 2 ≠ m.next + 3:=by omega
  refine ⟨⟨X,hA.kp kk,fun j h => ⟨.inl h,by have:=hX j h; simp; omega⟩⟩,.of (.of kk),hC0.kp kk,⟨_,by simp [n1,g0]; rfl⟩,⟨_,by simp [n1,g1]; rfl⟩,⟨_,by simp [n1,g2]; rfl⟩,⟨by simp [n1],_,by simp [n1]; rfl⟩,⟨_,by simp [n1]; rfl⟩,by simp [n1]⟩
 ·rintro v mm ⟨rfl,⟨X1,hA1,hX1⟩,kc,hC1,⟨w0,h0⟩,⟨w1,h1⟩,⟨w2,h2⟩,h3,⟨ver,hloop⟩,hn⟩
  rw [List.drop_zero] at hA1 hC1 h1
  have hid:(M1.new [AV.lst (vals l)] false).next = m.next + 4:=by simp [n1]
  rw [hid]
  refine ⟨_,.normal,hloop,by simp,rfl,?_⟩
  simp [h1,h2,Aaa]
  refine hQ _ _ _ ?_
  rw [Aaf]
  have kl:KpC (fun j => j = m.next + 4) mm (mm.killLoop (m.next + 4)):=⟨by simp,fun id hi hx => by simp,fun id hi hx => by
   have:id ≠ m.next + 4:=hx
   simp [this]⟩
  refine ⟨[valA (aheadM a k e l).1],by simp [aresult,Aaa],?_⟩
  simp only [Bool.false_eq_true,if_false,oneOf,Aa5]
  refine ⟨trivial,X1,(hA1.kc kl fun j h e => ?_).kc (Aap (m.next + 2) _ _) fun j h e => ?_,fun j h => ⟨(hX1 j h).1.imp id fun h => by omega,by simpa using (hX1 j h).2⟩,KpC.cut (((kc.mono fun j h => .inl h).trans (kl.mono fun j h => .inr (by omega))).trans ((Aap (m.next + 2) _ _).mono fun j h => .inr (by omega))),(hC1.kc kl (by omega)).kc (Aap (m.next + 2) _ _) (by omega)⟩
  all_goals
   rcases (hX1 j h).1 with h | h
   ·have:=hX j h; omega
   ·omega
def refM (a:ArM):Nat → Val → Option Val
 | 0,v => if (getM a v).1.k = 1 then some (carM a v) else none
 | n + 1,v => if (getM a v).1.k = 1 then refM a n (cdrM a v) else none
def listRefM (a:ArM) (k:Int) (v:Val) (i:Int):Val × Int:=if i < 0 ∨ 1024 ≤ i then ((0,0),failK k 6) else match refM a i.toNat v with | some x => (x,k) | none => ((0,0),failK k 6)
theorem q132 {X:Nat → Prop} {A C:Nat} {n:Int} {l:List Val} {a:ArM} {k:Int} {m:Mem} (hA:Ar X A a m) (hsm:Small a) (hp:Pairs a) (hXC:¬ X C) (hC:has m C (clC A n l k)) (v:Val) (i:Int):wph Tryz.prog ca (.func 132) [.ptr C 0,valA v,int i] m fun r m' => r = valA (listRefM a k v i).1 ∧ KpC (fun j => j = C) m m' ∧ has m' C (clC A n l (listRefM a k v i).2):=by
 refine Aas Tryz.func132 rfl rfl (by simp [Tryz.f132]) (by simp [Tryz.f132]) fun Q hQ => ?_
 simp only [Tryz.f132,show ca.keepRes 132 = false from rfl,show ca.keepArgs 132 = false from rfl] at hQ ⊢
 obtain ⟨M1,hM1⟩:∃ M1,M1 = (m.new [int v.1,int v.2] false).new [int 0,int 0] false:=⟨_,rfl⟩
 have k1:Kp m M1:=by rw [hM1]; simp
 have n1:M1.next = m.next + 2:=by rw [hM1]; simp
 have g0:M1.get m.next = some (.cells [int v.1,int v.2] false (m.clock + 1)):=by rw [hM1]; simp
 have g1:M1.get (m.next + 1) = some (.cells [int 0,int 0] false (m.clock + 2)):=by rw [hM1]; simp
 simp
 rw [← hM1]
 clear hM1
 have fin:∀ (s':Sl) (m7:Mem) (r:Val × Int) (w:Nat),s'.at 6 = .ptr (m.next + 1) 0 → m7.get (m.next + 1) = some (.cells [int r.1.1,int r.1.2] false w) → KpC (fun j => j = C) m m7 → has m7 C (clC A n l r.2) → listRefM a k v i = r → Q .ret s' m7:=by
  rintro s' m7 r w h6 hg kc hc rfl
  refine hQ _ _ _ ?_
  rw [Aaf]
  refine ⟨[valA (listRefM a k v i).1],by simp [aresult,h6,hg,aload,partOf,Aaa],?_⟩
  simp only [Bool.false_eq_true,if_false,oneOf,Aa5]
  exact ⟨trivial,kc,hc⟩
 have fail:∀ (m1:Mem) (s':Sl) (d:Option Tmp) (kk:List It) (Q':Ex → Sl → Mem → Prop),Kp m m1 → m.next + 1 < m1.next → (∃ w,m1.get (m.next + 1) = some (.cells [int 0,int 0] false w)) → (∀ m7,KpC (fun j => j = C) m m7 → (∃ w,m7.get (m.next + 1) = some (.cells [int 0,int 0] false w)) → has m7 C (clC A n l (failK k 6)) → goP Tryz.prog ca 45 Q' (aput 45 s' d (valA (0,0))) kk m7) → goH Tryz.prog ca 45 Q' (.func 134) [.ptr C 0,int 6] d kk s' m1:=by
  intro m1 s' d kk Q' hk hlt ⟨w,hg⟩ hgo
  refine Aae (q134 (A:=A) (n:=n) (l:=l) (k:=k) (m:=m1) (hC.kp hk) 6) ?_
  rintro _ m7 ⟨rfl,kc7,hC7⟩
  exact hgo m7 ((KpC.of (.of hk)).trans kc7) ⟨w,(kc7.get _ hlt (by have:=hC.1; omega)).trans hg⟩ hC7
 have box:∀ (m7:Mem) (cs:List AV) (k':Int),KpC (fun j => j = C) m m7 → has m7 C (clC A n l k') → KpC (fun j => j = C) m (m7.set (m.next + 1) cs) ∧ has (m7.set (m.next + 1) cs) C (clC A n l k'):=fun m7 cs k' kc7 hC7 =>
  ⟨KpC.cut ((kc7.mono fun j h => .inl h).trans ((Aap (m.next + 1) _ _).mono fun j h => .inr (by omega))),hC7.kc (Aap (m.next + 1) _ _) (by have:=hC.1; omega)⟩
 by_cases hi0:i < 0
 ·simp [hi0]
  refine fail M1 _ _ _ _ k1 (by omega) ⟨_,g1⟩ fun m7 kc7 ⟨w7,hg7⟩ hC7 => ?_
  simp [hg7,Aaa]
  obtain ⟨b1,b2⟩:=box m7 [int 0,int 0] _ kc7 hC7
  exact fin _ _ ((0,0),failK k 6) _ (by simp) (by simp; rfl) b1 b2 (by rw [listRefM,if_pos (.inl hi0)])
 by_cases hi1:1024 ≤ i
 ·simp [hi0,hi1]
  refine fail M1 _ _ _ _ k1 (by omega) ⟨_,g1⟩ fun m7 kc7 ⟨w7,hg7⟩ hC7 => ?_
  simp [hg7,Aaa]
  obtain ⟨b1,b2⟩:=box m7 [int 0,int 0] _ kc7 hC7
  exact fin _ _ ((0,0),failK k 6) _ (by simp) (by simp; rfl) b1 b2 (by rw [listRefM,if_pos (.inr hi1)])
 simp [hi0,hi1]
 obtain ⟨N,rfl⟩:∃ N:Nat,i = N:=⟨i.toNat,by omega⟩
 have hval:listRefM a k v N = match refM a N v with | some x => (x,k) | none => ((0,0),failK k 6):=by
  rw [listRefM,if_neg (by omega)]
  simp
 refine Aar 18 N (fun i s' m' => Kp m m' ∧ m.next + 2 ≤ m'.next ∧ (∃ w u,m'.get m.next = some (.cells [int w.1,int w.2] false u) ∧ refM a (N - i) w = refM a N v) ∧ ∃ u,m'.get (m.next + 1) = some (.cells [int 0,int 0] false u)) (by simp) (by omega) ⟨k1,by omega,⟨v,_,g0,rfl⟩,_,g1⟩ ?_
 rintro q s' m' hq e18 ⟨hkp,hlt,⟨w,u,h0,href⟩,u1,h1⟩ hsame hw Q' hn he
 have d0:s'.at 0 = .ptr C 0:=(hsame 0 (by kernel_rfl)).trans (by simp)
 have d4:s'.at 4 = .ptr m.next 0:=(hsame 4 (by kernel_rfl)).trans (by simp)
 have d6:s'.at 6 = .ptr (m.next + 1) 0:=(hsame 6 (by kernel_rfl)).trans (by simp)
 have d17:s'.at 17 = int N:=(hsame 17 (by kernel_rfl)).trans (by simp)
 clear hsame
 have hCm:=hC.kp hkp
 have q1:=q112 (hA.kp hkp) hsm hCm w
 have z0:m.next ≠ m'.next:=by omega
 have z1:m.next + 1 ≠ m'.next:=by omega
 have z2:m'.next ≠ m.next:=by omega
 have z3:m.next + 1 ≠ m.next:=by omega
 obtain ⟨M2,hM2⟩:∃ M2,M2 = (m'.new [int 0,int 0,.emp 0,.emp 0] false).set m'.next [int (getM a w).1.k,int (getM a w).1.n,.lst (vals (getM a w).1.a),.lst (byts (getM a w).1.s)]:=⟨_,rfl⟩
 have kM:Kp m' M2:=by rw [hM2]; simp
 have nM:M2.next = m'.next + 1:=by rw [hM2]; simp
 have gc:M2.get m'.next = some (.cells [int (getM a w).1.k,int (getM a w).1.n,.lst (vals (getM a w).1.a),.lst (byts (getM a w).1.s)] false (m'.clock + 2)):=by rw [hM2]; simp
 have gB:=(kM.get m.next (by omega)).trans h0
 have gR:=(kM.get (m.next + 1) (by omega)).trans h1
 have hkp2:=hkp.trans kM
 simp [e18,d17]
 refine Aad (fun h => ?_) fun h => ?_
 ·have hlt2:q < N:=by simpa using h
  have hNq:N - q = N - (q + 1) + 1:=by omega
  rw [hNq] at href
  simp [d0,d4,h0,Aaa,q1.go,ceA]
  rw [← hM2]
  clear hM2
  by_cases hk:(getM a w).1.k = 1
  ·have ea:=hp.get hk
   have hx1:aindexAddr Tryz.prog 66 (.lst (vals (getM a w).1.a)) (int 1) = some ((valA (cdrM a w)).cptr 0):=Aak (i:=1) (by rw [ea]; rfl)
   rw [refM,if_pos hk] at href
   simp [hk,gc,hx1,d4,gB,e18,hw]
   exact hn _ _ hlt2 (by simp) ⟨hkp2.set (Nat.le_refl _) _,by simp; omega,⟨cdrM a w,_,by simp; rfl,href⟩,_,by simp [z3,gR]; rfl⟩
  ·rw [refM,if_neg hk] at href
   simp [hk,d0]
   refine fail M2 _ _ _ _ hkp2 (by omega) ⟨_,gR⟩ fun m7 kc7 ⟨w7,hg7⟩ hC7 => ?_
   simp [d6,hg7,Aaa]
   refine he _ _ _ (by simp) ?_
   simp
   obtain ⟨b1,b2⟩:=box m7 [int 0,int 0] _ kc7 hC7
   exact fin _ _ ((0,0),failK k 6) _ (by simp [d6]) (by simp; rfl) b1 b2 (by rw [hval,← href])
 ·have hge:q = N:=by have:=of_decide_eq_false h; omega
  subst hge
  rw [Nat.sub_self] at href
  simp
  refine he _ _ _ (by simp) ?_
  simp [d0,d4,h0,Aaa,q1.go,ceA]
  rw [← hM2]
  clear hM2
  by_cases hk:(getM a w).1.k = 1
  ·have ea:=hp.get hk
   have hx0:aindexAddr Tryz.prog 66 (.lst (vals (getM a w).1.a)) (int 0) = some ((valA (carM a w)).cptr 0):=Aak (i:=0) (by rw [ea]; rfl)
   rw [refM,if_pos hk] at href
   simp [hk,gc,hx0,d6,gR]
   obtain ⟨b1,b2⟩:=box M2 [int (carM a w).1,int (carM a w).2] _ (.of (.of hkp2)) (hCm.kp kM)
   exact fin _ _ (carM a w,k) _ (by simp [d6]) (by simp; rfl) b1 b2 (by rw [hval,← href])
  ·rw [refM,if_neg hk] at href
   simp [hk,d0]
   refine fail M2 _ _ _ _ hkp2 (by omega) ⟨_,gR⟩ fun m7 kc7 ⟨w7,hg7⟩ hC7 => ?_
   simp [d6,hg7,Aaa]
   obtain ⟨b1,b2⟩:=box m7 [int 0,int 0] _ kc7 hC7
   exact fin _ _ ((0,0),failK k 6) _ (by simp [d6]) (by simp; rfl) b1 b2 (by rw [hval,← href])
theorem q33 (m:Mem):EH Tryz.prog ca (.func 33) [] m tableA m:=Ar8 rfl run22 Ary
theorem q7 (m:Mem):EH Tryz.prog ca (.func 7) [] m (.sc (.bool true)) m:=Ar8 rfl run6 rfl
def rowOf (n:Int):List UInt8 × Int × Int:=if n < 0 ∨ 85 ≤ n then ([],0,0) else (rws[n.toNat]?).getD ([],0,0)
theorem Avo {n:Int} (h:¬ n < 0) (h2:¬ 85 ≤ n):rws[n.toNat]? = some (rowOf n):=by
 have hl:n.toNat < rws.length:=by rw [Aga]; omega
 unfold rowOf
 rw [if_neg (by omega),List.getElem?_eq_getElem hl]
 rfl
theorem Azk {n:Int} (h:¬ n < 0) (h2:¬ 85 ≤ n):aindex Tryz.prog 87 tableA (int n) = some (.agg (rowC (rowOf n))):=by
 have:=Avh (Avo h h2)
 rwa [Int.toNat_of_nonneg (by omega)] at this
theorem Aht {n:Int} (h:n < 0 ∨ 85 ≤ n):rowOf n = ([],0,0):=by unfold rowOf; rw [if_pos h]
@[simp] theorem A3r (r:List UInt8 × Int × Int) (n:Nat):AV.bels n (rowC r) = true:=rfl
@[simp] theorem A3q (r:List UInt8 × Int × Int) (m:Mem):fzv m (.agg (rowC r)) = (.agg (rowC r),m):=rfl
theorem q31 (n:Int):Gives Tryz.prog ca 31 [int n] (.tup [.agg (rowC (rowOf n)),.sc (.bool (!decide ((rowOf n).1 = [])))]):=by
 refine Aag Tryz.func31 rfl rfl rfl rfl (by simp) (by simp [Tryz.f31]) (by simp [Tryz.f31]) fun m => ?_
 simp [Tryz.f31,show ca.keepRes 31 = false from rfl]
 by_cases h:n < 0
 ·simp [h,abuild,placesOf,fillAt,Aht (.inl h),rowC,oneOf]
 ·by_cases h2:85 ≤ n
  ·simp [h,h2,abuild,placesOf,fillAt,Aht (.inr h2),rowC,oneOf]
  ·simp [h,h2,(q33 _).go,Azk h h2]
   simp only [rowC]
   simp
   refine Ado (by kernel_rfl) ?_
   simp
   refine Abh (l:=[(2,4)]) (by kernel_rfl) (?_:List.all _ _ = true) ?_
   ·simp [metAt,metOk,rank,objOf,verKept,Region.wanted,Mem.ver]
   simp
def goodP (a:ArM) (n:Int) (v:Val) (i:Int):Bool :=
 if n ≤ 11 then decide (v.1 = 1) else if 50 ≤ n then decide (v.1 = 1) else if n = 39 then decide (v.1 = 1) else if n = 42 then decide (v.1 = 1)
 else if 16 ≤ n ∧ n ≤ 19 then decide (0 < i ∨ (getM a v).1.k = 1)
 else if n = 26 then decide (i = 0 ∨ v.1 = 1)
 else if n = 28 then decide (0 < i ∨ v.1 = 1)
 else if 29 ≤ n ∧ n ≤ 31 then decide ((i = 0 ∧ (getM a v).1.k = 2) ∨ (i = 1 ∧ v.1 = 1) ∨ i = 2)
 else if n = 33 ∨ n = 35 then decide ((i = 0 ∧ (getM a v).1.k = 3) ∨ (0 < i ∧ v.1 = 1))
 else if n = 32 ∨ n = 34 ∨ n = 36 ∨ n = 38 ∨ n = 40 then decide ((getM a v).1.k = 3)
 else if n = 37 then decide (v.1 = 5)
 else if n = 41 then decide (v.1 = 3)
 else true
theorem q38 {X:Nat → Prop} {A C:Nat} {n:Int} {l:List Val} {a:ArM} {k:Int} {m:Mem} (hA:Ar X A a m) (hsm:Small a) (hC:has m C (clC A n l k)) {i:Nat} {v:Val} (hv:l[i]? = some v):EH Tryz.prog ca (.func 38) [.ptr C 0,int i] m (.sc (.bool (goodP a n v i))) m:=by
 have k1:Kp m ((m.new [int 0,int 0] false).set m.next [int v.1,int v.2]):=by simp
 have q:=fun kd => (show EH Tryz.prog ca (.func 65) [.ptr C 0,.agg [int v.1,int v.2],int kd] _ _ _ from q65 (hA.kp k1) hsm (hC.kp k1) v kd)
 obtain ⟨hl,w,hg⟩:=hC
 have n0:C ≠ m.next:=by omega
 have hix:aindexAddr Tryz.prog 66 (.lst (vals l)) (int i) = some ((valA v).cptr 0):=Aak hv
 refine Abj Tryz.func38 rfl rfl rfl rfl (args1:=[.ptr C 0,int i]) (m1:=m) (by simp [fzvs]) (by simp) (by simp [Tryz.f38]) (by simp [Tryz.f38]) ?_
 simp only [Tryz.f38,show ca.keepRes 38 = false from rfl]
 obtain ⟨g,hgd⟩:∃ g,g = goodP a n v i:=⟨_,rfl⟩
 rw [← hgd]
 simp [hg,n0,hix,Aaa]
 by_cases a1:n ≤ 11
 ·rw [goodP,if_pos a1] at hgd
  simp [a1,hgd]
 by_cases a2:50 ≤ n
 ·rw [goodP,if_neg a1,if_pos a2] at hgd
  simp [a1,a2,hgd]
 by_cases a3:n = 39
 ·rw [goodP,if_neg a1,if_neg a2,if_pos a3] at hgd
  simp [a3,hgd]
 by_cases a4:n = 42
 ·rw [goodP,if_neg a1,if_neg a2,if_neg a3,if_pos a4] at hgd
  simp [a4,hgd]
 rw [goodP,if_neg a1,if_neg a2,if_neg a3,if_neg a4] at hgd
 by_cases a5:16 ≤ n ∧ n ≤ 19
 ·rw [if_pos a5] at hgd
  simp [a1,a2,a3,a4,a5]
  by_cases hi:0 < i
  ·simp [hi,hgd]
  ·simp [hi,(q 1).go,hgd]
 rw [if_neg a5] at hgd
 by_cases b1:16 ≤ n
 rotate_left
 ·have c1:n ≠ 26:=by omega
  have c2:n ≠ 28:=by omega
  have c3:¬ 29 ≤ n:=by omega
  have c4:n ≠ 33:=by omega
  have c5:n ≠ 35:=by omega
  have c6:n ≠ 32:=by omega
  have c7:n ≠ 34:=by omega
  have c8:n ≠ 36:=by omega
  have c9:n ≠ 38:=by omega
  have d1:n ≠ 40:=by omega
  have d2:n ≠ 37:=by omega
  have d3:n ≠ 41:=by omega
  rw [if_neg c1,if_neg c2,if_neg (by omega),if_neg (by omega),if_neg (by omega),if_neg d2,if_neg d3] at hgd
  simp [a1,a2,a3,a4,b1,c1,c2,c3,c4,c5,c6,c7,c8,c9,d1,d2,d3,hgd]
 have b2:¬ n ≤ 19:=by omega
 by_cases c1:n = 26
 ·rw [if_pos c1] at hgd
  subst c1
  by_cases hi:i = 0
  ·simp [hi,hgd]
  ·have hi':¬ (i:Int) = 0:=by omega
   simp [hi,hgd]
 rw [if_neg c1] at hgd
 by_cases c2:n = 28
 ·rw [if_pos c2] at hgd
  subst c2
  by_cases hi:0 < i
  ·simp [hi,hgd]
  ·simp [hi,hgd]
 rw [if_neg c2] at hgd
 by_cases c3:29 ≤ n ∧ n ≤ 31
 ·rw [if_pos c3] at hgd
  simp [a1,a2,a3,a4,b1,b2,c1,c2,c3]
  by_cases h0:i = 0
  ·subst h0
   by_cases hk:(getM a v).1.k = 2
   ·simp [(q 2).go,hgd,hk,undefV,undef]
   ·simp [(q 2).go,hgd,hk,undefV,undef]
  ·by_cases h1:i = 1
   ·subst h1
    by_cases hk:v.1 = 1
    ·simp [hk,hgd,undefV,undef]
    ·simp [hk,hgd,undefV,undef]
   ·have h1':¬ (i:Int) = 1:=by omega
    simp [h0,h1',h1,hgd,undefV,undef]
 rw [if_neg c3] at hgd
 have c3':¬ (29 ≤ n ∧ n ≤ 31):=c3
 by_cases e1:29 ≤ n
 rotate_left
 ·have c4:n ≠ 33:=by omega
  have c5:n ≠ 35:=by omega
  have c6:n ≠ 32:=by omega
  have c7:n ≠ 34:=by omega
  have c8:n ≠ 36:=by omega
  have c9:n ≠ 38:=by omega
  have d1:n ≠ 40:=by omega
  have d2:n ≠ 37:=by omega
  have d3:n ≠ 41:=by omega
  rw [if_neg (by omega),if_neg (by omega),if_neg d2,if_neg d3] at hgd
  simp [a1,a2,a3,a4,b1,b2,c1,c2,e1,c4,c5,c6,c7,c8,c9,d1,d2,d3,hgd]
 have e2:¬ n ≤ 31:=by omega
 by_cases c4:n = 33 ∨ n = 35
 ·rw [if_pos c4] at hgd
  by_cases h0:i = 0
  ·subst h0
   by_cases hk:(getM a v).1.k = 3
   ·rcases c4 with rfl | rfl
    ·simp [(q 3).go,hgd,hk,undefV,undef]
    ·simp [(q 3).go,hgd,hk,undefV,undef]
   ·rcases c4 with rfl | rfl
    ·simp [(q 3).go,hgd,hk,undefV,undef]
    ·simp [(q 3).go,hgd,hk,undefV,undef]
  ·have hi:0 < i:=by omega
   rcases c4 with rfl | rfl
   ·simp [h0,hi,hgd,undefV,undef]
   ·simp [h0,hi,hgd,undefV,undef]
 rw [if_neg c4] at hgd
 by_cases c5:n = 32 ∨ n = 34 ∨ n = 36 ∨ n = 38 ∨ n = 40
 ·rw [if_pos c5] at hgd
  rcases c5 with rfl | rfl | rfl | rfl | rfl
  ·simp [(q 3).go,hgd]
  ·simp [(q 3).go,hgd]
  ·simp [(q 3).go,hgd]
  ·simp [(q 3).go,hgd]
  ·simp [(q 3).go,hgd]
 rw [if_neg c5] at hgd
 by_cases c6:n = 37
 ·rw [if_pos c6] at hgd
  subst c6
  simp [hgd]
 rw [if_neg c6] at hgd
 by_cases c7:n = 41
 ·rw [if_pos c7] at hgd
  subst c7
  simp [hgd]
 rw [if_neg c7] at hgd
 have d1:n ≠ 33:=by omega
 have d2:n ≠ 35:=by omega
 have d3:n ≠ 32:=by omega
 have d4:n ≠ 34:=by omega
 have d5:n ≠ 36:=by omega
 have d6:n ≠ 38:=by omega
 have d7:n ≠ 40:=by omega
 simp [a1,a2,a3,a4,b1,b2,c1,c2,e1,e2,c6,c7,d1,d2,d3,d4,d5,d6,d7,hgd]
theorem A0y (k:Int):failK 0 k = k:=if_pos rfl
theorem Any {C A:Nat} {n:Int} {l:List Val} {r:List Val × Int} {m m':Mem} {v:AV} (h:ListK C A n l 0 r m v m'):Acc m m' 2 true (vals r.1) v ∧ KpC (fun j => j = C) m m' ∧ has m' C (clC A n l r.2):=by
 refine ⟨h.1,h.2.1,?_⟩
 have:=h.2.2
 rw [A0y] at this
 by_cases h0:r.2 = 0
 ·rw [if_pos h0] at this
  rw [h0]; exact this
 ·rwa [if_neg h0] at this
theorem Afm (a:ArM):∀ (n:Nat) (v:Val),(listM a n v).1.length ≤ n
 | n,v => by
  by_cases h:(getM a v).1.k = 1
  ·cases n with
   | zero => simp [Akk h]
   | succ n =>
    have:=Afm a n (cdrM a v)
    rw [Akj h]
    split
    ·simp; omega
    ·simp
  ·rw [Ahd h]
   split <;> simp
theorem Cs.of_c {X:Nat → Prop} {A C:Nat} {n:Int} {l:List Val} {a:ArM} {k:Int} {m m':Mem} (hA:Ar X A a m) (hX:∀ j,X j → j < m.next) (hXC:¬ X C) (kc:KpC (fun j => j = C) m m') (hC:has m' C (clC A n l k)):Cs X A C n l a k m m' :=
 ⟨X,hA.kc kc fun j h e => absurd h (e ▸ hXC),fun j h => ⟨.inl h,Nat.lt_of_lt_of_le (hX j h) kc.next⟩,kc.mono fun j h => .inr h,hC⟩
theorem Ayq {m0 m:Mem} {C:Nat} {l:List Val} {x:AV} {e:Val} (h:Acc m0 m 2 true (vals l) x):∃ m',fzvs m [.ptr C 0,x,.agg [int e.1,int e.2]] = ([.ptr C 0,.lst (vals l),valA e],m') ∧ KpC (owns x) m m':=by
 have lv:Lv m0 m 2 true (vals l) x:=by
  rcases h with ⟨h1,h2⟩ | ⟨h,id,w,h1,h2,h3,h4⟩
  ·exact .inl ⟨0,by omega,h1,h2⟩
  ·exact .inr (.inr ⟨id,w,none,h1,h2,h3,h4⟩)
 obtain ⟨m',e1,e2⟩:=lv.fz rfl (Ab0 l) (Aa4 l)
 have ok:x.okc = true ∧ x.cells = [x]:=by
  rcases h with ⟨_,rfl⟩ | ⟨_,id,w,rfl,_⟩ <;> exact ⟨rfl,rfl⟩
 have ex:fzv m x = fz1 m x:=by rcases h with ⟨_,rfl⟩ | ⟨_,id,w,rfl,_⟩ <;> rfl
 refine ⟨m',?_,e2⟩
 simp [fzvs,ex,e1,Aaa]
theorem Cs.after {X:Nat → Prop} {A C:Nat} {n:Int} {l:List Val} {a:ArM} {k:Int} {m m1 m':Mem} (kc:KpC (fun j => X j ∨ j = C) m m1) (h:Cs X A C n l a k m1 m'):Cs X A C n l a k m m':=by
 obtain ⟨X',h1,h2,h3,h4⟩:=h
 have:=kc.next
 exact ⟨X',h1,fun j hj => ⟨(h2 j hj).1.imp id fun h => by omega,(h2 j hj).2⟩,kc.trans h3,h4⟩
theorem A13 {X:Nat → Prop} {A C:Nat} {l:List Val} {a:ArM} {m:Mem} (hA:Ar X A a m) (hX:∀ j,X j → j < m.next) (hsm:Small a) (hp:Pairs a) (hXC:¬ X C) (hC:has m C (clC A 23 l 0)) {v:Val} (hv:l[0]? = some v) {res:Val × ArM × Int} (hres:res = ((1,((listM a 1024 v).1.length:Int)),a,(listM a 1024 v).2)):wph Tryz.prog ca (.func 70) [.ptr C 0] m fun r m' => r = valA res.1 ∧ Cs X A C 23 l res.2.1 res.2.2 m m':=by
 have hC0:=hC
 obtain ⟨hCl,w,hg⟩:=hC
 refine Aas Tryz.func70 rfl rfl (by simp [Tryz.f70]) (by simp [Tryz.f70]) fun Q hQ => ?_
 simp only [Tryz.f70,show ca.keepRes 70 = false from rfl,show ca.keepArgs 70 = false from rfl] at hQ ⊢
 obtain ⟨M1,hM1⟩:∃ M1,M1 = (((m.new [.ptr C 0] false).new [int 0,int 0] false).new [int 0,int 0] false).set (m.next + 2) [int 4,int 0]:=⟨_,rfl⟩
 have k1:Kp m M1:=by rw [hM1]; simp
 have n1:M1.next = m.next + 3:=by rw [hM1]; simp
 have b0:M1.get m.next = some (.cells [.ptr C 0] false (m.clock + 1)):=by rw [hM1]; simp
 have b1:M1.get (m.next + 1) = some (.cells [int 0,int 0] false (m.clock + 2)):=by rw [hM1]; simp
 have b2:M1.get (m.next + 2) = some (.cells [int 4,int 0] false (m.clock + 4)):=by rw [hM1]; simp
 have bC:=(k1.get C hCl).trans hg
 have c0:C ≠ m.next:=by omega
 have c1:C ≠ m.next + 1:=by omega
 have c2:C ≠ m.next + 2:=by omega
 have hC1:=hC0.kp k1
 have hA1:=hA.kp k1
 simp [abuild,placesOf,fillAt,hg,c0,c1,c2]
 rw [← hM1]
 clear hM1
 have fin:∀ (s':Sl) (m7:Mem),s'.at 2 = .ptr (m.next + 1) 0 → (∃ w,m7.get (m.next + 1) = some (.cells [int res.1.1,int res.1.2] false w)) → Cs X A C 23 l res.2.1 res.2.2 m m7 → Q .ret s' m7:=by
  intro s' m7 h2 ⟨w,hg⟩ hcs
  refine hQ _ _ _ ?_
  rw [Aaf]
  refine ⟨[valA res.1],by simp [aresult,h2,hg,aload,partOf,Aaa],?_⟩
  simp only [Bool.false_eq_true,if_false,oneOf,Aa5]
  exact ⟨trivial,hcs⟩
 have hix:aindexAddr Tryz.prog 66 (.lst (vals l)) (int 0) = some ((valA v).cptr 0):=Aak (i:=0) hv
 refine Aah (by kernel_rfl) (by kernel_rfl) ?_
 simp [b0,bC,hix]
 refine Aae (q130 hA1 hsm hp hXC hC1 v) ?_
 intro x m2 hl
 obtain ⟨hacc,kc,hC2⟩:=Any hl
 have n2:=kc.next
 have ln:=Ak5 hacc
 have e1:=(kc.get (m.next + 1) (by omega) (by omega)).trans b1
 simp [ln,(q126 _).go,e1,Aaa]
 subst hres
 exact fin _ _ (by simp) ⟨_,by simp; rfl⟩ (Cs.box k1 hX hCl (Cs.of_c hA1 (fun j h => by have:=hX j h; omega) hXC kc hC2) (by omega) (by omega) _)
theorem A11 {X:Nat → Prop} {A C:Nat} {l:List Val} {a:ArM} {m:Mem} (hA:Ar X A a m) (hX:∀ j,X j → j < m.next) (hsm:Small a) (hp:Pairs a) (hXC:¬ X C) (hC:has m C (clC A 25 l 0)) {v:Val} (hv:l[0]? = some v) {res:Val × ArM × Int} (hres:res = (aheadM a (listM a 1024 v).2 (4,0) (listM a 1024 v).1.reverse)):wph Tryz.prog ca (.func 70) [.ptr C 0] m fun r m' => r = valA res.1 ∧ Cs X A C 25 l res.2.1 res.2.2 m m':=by
 have hC0:=hC
 obtain ⟨hCl,w,hg⟩:=hC
 refine Aas Tryz.func70 rfl rfl (by simp [Tryz.f70]) (by simp [Tryz.f70]) fun Q hQ => ?_
 simp only [Tryz.f70,show ca.keepRes 70 = false from rfl,show ca.keepArgs 70 = false from rfl] at hQ ⊢
 obtain ⟨M1,hM1⟩:∃ M1,M1 = (((m.new [.ptr C 0] false).new [int 0,int 0] false).new [int 0,int 0] false).set (m.next + 2) [int 4,int 0]:=⟨_,rfl⟩
 have k1:Kp m M1:=by rw [hM1]; simp
 have n1:M1.next = m.next + 3:=by rw [hM1]; simp
 have b0:M1.get m.next = some (.cells [.ptr C 0] false (m.clock + 1)):=by rw [hM1]; simp
 have b1:M1.get (m.next + 1) = some (.cells [int 0,int 0] false (m.clock + 2)):=by rw [hM1]; simp
 have b2:M1.get (m.next + 2) = some (.cells [int 4,int 0] false (m.clock + 4)):=by rw [hM1]; simp
 have bC:=(k1.get C hCl).trans hg
 have c0:C ≠ m.next:=by omega
 have c1:C ≠ m.next + 1:=by omega
 have c2:C ≠ m.next + 2:=by omega
 have hC1:=hC0.kp k1
 have hA1:=hA.kp k1
 simp [abuild,placesOf,fillAt,hg,c0,c1,c2]
 rw [← hM1]
 clear hM1
 have fin:∀ (s':Sl) (m7:Mem),s'.at 2 = .ptr (m.next + 1) 0 → (∃ w,m7.get (m.next + 1) = some (.cells [int res.1.1,int res.1.2] false w)) → Cs X A C 25 l res.2.1 res.2.2 m m7 → Q .ret s' m7:=by
  intro s' m7 h2 ⟨w,hg⟩ hcs
  refine hQ _ _ _ ?_
  rw [Aaf]
  refine ⟨[valA res.1],by simp [aresult,h2,hg,aload,partOf,Aaa],?_⟩
  simp only [Bool.false_eq_true,if_false,oneOf,Aa5]
  exact ⟨trivial,hcs⟩
 have hix:aindexAddr Tryz.prog 66 (.lst (vals l)) (int 0) = some ((valA v).cptr 0):=Aak (i:=0) hv
 refine Aah (by kernel_rfl) (by kernel_rfl) ?_
 simp [b0,bC,hix]
 refine Aae (q130 hA1 hsm hp hXC hC1 v) ?_
 intro x m2 hl
 obtain ⟨hacc,kc,hC2⟩:=Any hl
 have ll:(listM a 1024 v).1.length ≤ 4096:=by have:=Afm a 1024 v; omega
 simp
 refine Aae (q131 hacc ll) ?_
 rintro _ m3 ⟨hacc3,kc3⟩
 have n2:=kc.next
 have n3:=kc3.next
 have own:∀ j,owns x j → M1.next ≤ j:=fun j h => (Aa7 hacc j h).1
 have f0:=(kc3.get m.next (by omega) fun h => by have:=own _ h; omega).trans ((kc.get m.next (by omega) (by omega)).trans b0)
 have f1:=(kc3.get (m.next + 1) (by omega) fun h => by have:=own _ h; omega).trans ((kc.get (m.next + 1) (by omega) (by omega)).trans b1)
 have f2:=(kc3.get (m.next + 2) (by omega) fun h => by have:=own _ h; omega).trans ((kc.get (m.next + 2) (by omega) (by omega)).trans b2)
 have hC3:=hC2.kc kc3 fun h => by have:=own _ h; omega
 simp [f0,f2]
 obtain ⟨m4,ez,kz⟩:=Ayq (C:=C) (e:=(4,0)) hacc3
 have n4:=kz.next
 have g1:=(kz.get (m.next + 1) (by omega) fun h => by have:=own _ h; omega).trans f1
 have hC4:=hC3.kc kz fun h => by have:=own _ h; omega
 have kall:KpC (fun j => j = C) M1 m4:=KpC.cut (((kc.mono fun j h => .inl h).trans (kc3.mono fun j h => .inr (own j h))).trans (kz.mono fun j h => .inr (own j h)))
 have hA4:Ar X A a m4:=hA1.kc kall fun j h e => absurd h (e ▸ hXC)
 refine Aae (Acz Tryz.func129 rfl rfl rfl ez (by simp [fzvs]) (q129 hA4 (fun j h => by have:=hX j h; omega) hXC hC4 (listM a 1024 v).1.reverse (by simp; omega) (4,0))) ?_
 rintro _ m5 ⟨rfl,hcs⟩
 have hcs1:=hcs.after (kall.mono fun j h => .inr h)
 obtain ⟨X',_,_,kc5,_⟩:=id hcs1
 have e1:=(kc5.get (m.next + 1) (by omega) (fun h => by rcases h with h | h; have:=hX _ h; omega; omega)).trans b1
 simp [e1,Aaa]
 subst hres
 exact fin _ _ (by simp) ⟨_,by simp; rfl⟩ (Cs.box k1 hX hCl hcs1 (by omega) (by omega) _)
theorem A10 {X:Nat → Prop} {A C:Nat} {l:List Val} {a:ArM} {m:Mem} (hA:Ar X A a m) (hX:∀ j,X j → j < m.next) (hsm:Small a) (hp:Pairs a) (hXC:¬ X C) (hC:has m C (clC A 26 l 0)) {v i:Val} (hv:l[0]? = some v) (hi:l[1]? = some i) {res:Val × ArM × Int} (hres:res = ((listRefM a 0 v i.2).1,a,(listRefM a 0 v i.2).2)):wph Tryz.prog ca (.func 70) [.ptr C 0] m fun r m' => r = valA res.1 ∧ Cs X A C 26 l res.2.1 res.2.2 m m':=by
 have hC0:=hC
 obtain ⟨hCl,w,hg⟩:=hC
 refine Aas Tryz.func70 rfl rfl (by simp [Tryz.f70]) (by simp [Tryz.f70]) fun Q hQ => ?_
 simp only [Tryz.f70,show ca.keepRes 70 = false from rfl,show ca.keepArgs 70 = false from rfl] at hQ ⊢
 obtain ⟨M1,hM1⟩:∃ M1,M1 = (((m.new [.ptr C 0] false).new [int 0,int 0] false).new [int 0,int 0] false).set (m.next + 2) [int 4,int 0]:=⟨_,rfl⟩
 have k1:Kp m M1:=by rw [hM1]; simp
 have n1:M1.next = m.next + 3:=by rw [hM1]; simp
 have b0:M1.get m.next = some (.cells [.ptr C 0] false (m.clock + 1)):=by rw [hM1]; simp
 have b1:M1.get (m.next + 1) = some (.cells [int 0,int 0] false (m.clock + 2)):=by rw [hM1]; simp
 have b2:M1.get (m.next + 2) = some (.cells [int 4,int 0] false (m.clock + 4)):=by rw [hM1]; simp
 have bC:=(k1.get C hCl).trans hg
 have c0:C ≠ m.next:=by omega
 have c1:C ≠ m.next + 1:=by omega
 have c2:C ≠ m.next + 2:=by omega
 have hC1:=hC0.kp k1
 have hA1:=hA.kp k1
 simp [abuild,placesOf,fillAt,hg,c0,c1,c2]
 rw [← hM1]
 clear hM1
 have fin:∀ (s':Sl) (m7:Mem),s'.at 2 = .ptr (m.next + 1) 0 → (∃ w,m7.get (m.next + 1) = some (.cells [int res.1.1,int res.1.2] false w)) → Cs X A C 26 l res.2.1 res.2.2 m m7 → Q .ret s' m7:=by
  intro s' m7 h2 ⟨w,hg⟩ hcs
  refine hQ _ _ _ ?_
  rw [Aaf]
  refine ⟨[valA res.1],by simp [aresult,h2,hg,aload,partOf,Aaa],?_⟩
  simp only [Bool.false_eq_true,if_false,oneOf,Aa5]
  exact ⟨trivial,hcs⟩
 have hix:aindexAddr Tryz.prog 66 (.lst (vals l)) (int 0) = some ((valA v).cptr 0):=Aak (i:=0) hv
 have hix1:aindexAddr Tryz.prog 66 (.lst (vals l)) (int 1) = some ((valA i).cptr 0):=Aak (i:=1) hi
 refine Aah (by kernel_rfl) (by kernel_rfl) ?_
 simp [b0,bC,hix,hix1,Aaa]
 refine Aae (q132 hA1 hsm hp hXC hC1 v i.2) ?_
 rintro _ m2 ⟨rfl,kc,hC2⟩
 have e1:=(kc.get (m.next + 1) (by omega) (by omega)).trans b1
 simp [e1,Aaa]
 subst hres
 exact fin _ _ (by simp) ⟨_,by simp; rfl⟩ (Cs.box k1 hX hCl (Cs.of_c hA1 (fun j h => by have:=hX j h; omega) hXC kc hC2) (by omega) (by omega) _)
def listsM (a:ArM):List Val → List (List Val) × Int
 | [] => ([],0)
 | x :: xs => if (listM a 1024 x).2 ≠ 0 then ([],(listM a 1024 x).2) else if (listsM a xs).2 ≠ 0 then ([],(listsM a xs).2) else ((listM a 1024 x).1 :: (listsM a xs).1,0)
theorem Adm (a:ArM):∀ (l r:List Val),(listsM a l).2 = 0 → listsM a (l ++ r) = if (listsM a r).2 ≠ 0 then ([],(listsM a r).2) else ((listsM a l).1 ++ (listsM a r).1,0)
 | [],r,_ => by
  simp only [List.nil_append,listsM]
  split
  ·rename_i h
   induction r with
   | nil => rfl
   | cons x xs ih =>
    rw [listsM] at h ⊢
    split
    ·rfl
    ·rename_i h1
     rw [if_neg h1] at h
     split
     ·rfl
     ·rename_i h2; rw [if_neg h2] at h; exact absurd rfl h
  ·rename_i h
   have h:(listsM a r).2 = 0:=by omega
   rw [← h]
 | x :: l,r,h => by
  rw [listsM] at h
  split at h
  ·rename_i h1; exact absurd h h1
  ·rename_i h1
   split at h
   ·rename_i h2; exact absurd h h2
   ·rename_i h2
    have ih:=Adm a l r (by omega)
    rw [List.cons_append,listsM,if_neg h1,ih,listsM,if_neg h1,if_neg h2]
    split
    ·rfl
    ·rename_i h3; simp
def foldM (a:ArM) (e:Val):List (List Val) → Val × ArM × Int
 | [] => (e,a,0)
 | x :: xs => aheadM (foldM a e xs).2.1 (foldM a e xs).2.2 (foldM a e xs).1 x
theorem A0s {m0 m:Mem} {l:List Val} {x:AV} (h:Acc m0 m 2 true (vals l) x):∃ m',fzv m x = (.lst (vals l),m') ∧ KpC (owns x) m m':=by
 have lv:Lv m0 m 2 true (vals l) x:=by
  rcases h with ⟨h1,h2⟩ | ⟨h,id,w,h1,h2,h3,h4⟩
  ·exact .inl ⟨0,by omega,h1,h2⟩
  ·exact .inr (.inr ⟨id,w,none,h1,h2,h3,h4⟩)
 obtain ⟨m',e1,e2⟩:=lv.fz rfl (Ab0 l) (Aa4 l)
 have ex:fzv m x = fz1 m x:=by rcases h with ⟨_,rfl⟩ | ⟨_,id,w,rfl,_⟩ <;> rfl
 exact ⟨m',ex.trans e1,e2⟩
theorem okl:∀ ys:List (List Val),okAll 1 (lists ys) = true
 | [] => rfl
 | y :: ys => by
  have:=okl ys
  simp only [lists] at this
  simp [lists,Aao,this]
theorem Awt {m0 m:Mem} {ys:List (List Val)} {x:AV} (h:Acc m0 m 1 false (lists ys) x):∃ m',fzvs m [x] = ([.lst (lists ys)],m') ∧ KpC (owns x) m m':=by
 have lv:Lv m0 m 1 false (lists ys) x:=by
  rcases h with ⟨h1,h2⟩ | ⟨h,id,w,h1,h2,h3,h4⟩
  ·exact .inl ⟨0,by omega,h1,h2⟩
  ·exact .inr (.inr ⟨id,w,none,h1,h2,h3,h4⟩)
 obtain ⟨m',e1,e2⟩:=lv.fz rfl (fun y hy => by
  obtain ⟨p,_,rfl⟩:=List.mem_map.1 hy
  simp) (okl ys)
 have ex:fzv m x = fz1 m x:=by rcases h with ⟨_,rfl⟩ | ⟨_,id,w,rfl,_⟩ <;> rfl
 exact ⟨m',by simp [fzvs,ex,e1],e2⟩
theorem Agl (a:ArM):∀ (l:List Val) (y:List Val),y ∈ (listsM a l).1 → y.length ≤ 1024
 | [],y,h => by simp [listsM] at h
 | x :: l,y,h => by
  rw [listsM] at h
  split at h
  ·simp at h
  ·split at h
   ·simp at h
   ·rcases List.mem_cons.1 h with rfl | h
    ·exact Afm a 1024 x
    ·exact Agl a l y h
def JF (X:Nat → Prop) (A C:Nat) (n:Int) (l0:List Val) (m:Mem) (T D:Nat) (c:LCode) (ys:List (List Val)) (r:Val × ArM × Int) (mm:Mem):Prop :=
 (∃ X1,Ar X1 A r.2.1 mm ∧ ∀ j,X1 j → (X j ∨ D + 2 ≤ j) ∧ j < mm.next) ∧ KpC (fun j => X j ∨ j = C) m mm ∧ has mm C (clC A n l0 r.2.2) ∧ (∃ w,mm.get m.next = some (.cells [.ptr C 0] false w)) ∧ (∃ w,mm.get (m.next + 1) = some (.cells [int 0,int 0] false w)) ∧ (∃ w,mm.get T = some (.cells [int r.1.1,int r.1.2] false w)) ∧ has mm D [.lst (lists ys)] ∧ (∃ ver,mm.loop (D + 1) = some ⟨.ready,none,c,ver⟩) ∧ D + 2 ≤ mm.next
def appendM (a:ArM) (l:List Val):Val × ArM × Int:=if l = [] then ((4,0),a,0) else if (listsM a l.dropLast).2 ≠ 0 then ((4,0),a,(listsM a l.dropLast).2) else foldM a (l.getLastD (0,0)) (listsM a l.dropLast).1
theorem A12 {X:Nat → Prop} {A C:Nat} {l:List Val} {a:ArM} {m:Mem} (hA:Ar X A a m) (hX:∀ j,X j → j < m.next) (hsm:Small a) (hp:Pairs a) (hXC:¬ X C) (hC:has m C (clC A 24 l 0)) (hll:l.length ≤ 4096) {res:Val × ArM × Int} (hres:res = appendM a l):wph Tryz.prog ca (.func 70) [.ptr C 0] m fun r m' => r = valA res.1 ∧ Cs X A C 24 l res.2.1 res.2.2 m m':=by
 have hC0:=hC
 obtain ⟨hCl,w,hg⟩:=hC
 refine Aas Tryz.func70 rfl rfl (by simp [Tryz.f70]) (by simp [Tryz.f70]) fun Q hQ => ?_
 simp only [Tryz.f70,show ca.keepRes 70 = false from rfl,show ca.keepArgs 70 = false from rfl] at hQ ⊢
 obtain ⟨M1,hM1⟩:∃ M1,M1 = (((m.new [.ptr C 0] false).new [int 0,int 0] false).new [int 0,int 0] false).set (m.next + 2) [int 4,int 0]:=⟨_,rfl⟩
 have k1:Kp m M1:=by rw [hM1]; simp
 have n1:M1.next = m.next + 3:=by rw [hM1]; simp
 have b0:M1.get m.next = some (.cells [.ptr C 0] false (m.clock + 1)):=by rw [hM1]; simp
 have b1:M1.get (m.next + 1) = some (.cells [int 0,int 0] false (m.clock + 2)):=by rw [hM1]; simp
 have b2:M1.get (m.next + 2) = some (.cells [int 4,int 0] false (m.clock + 4)):=by rw [hM1]; simp
 have bC:=(k1.get C hCl).trans hg
 have c0:C ≠ m.next:=by omega
 have c1:C ≠ m.next + 1:=by omega
 have c2:C ≠ m.next + 2:=by omega
 have hC1:=hC0.kp k1
 have hA1:=hA.kp k1
 simp [abuild,placesOf,fillAt,hg,c0,c1,c2]
 rw [← hM1]
 clear hM1
 have fin:∀ (s':Sl) (m7:Mem),s'.at 2 = .ptr (m.next + 1) 0 → (∃ w,m7.get (m.next + 1) = some (.cells [int res.1.1,int res.1.2] false w)) → Cs X A C 24 l res.2.1 res.2.2 m m7 → Q .ret s' m7:=by
  intro s' m7 h2 ⟨w,hg⟩ hcs
  refine hQ _ _ _ ?_
  rw [Aaf]
  refine ⟨[valA res.1],by simp [aresult,h2,hg,aload,partOf,Aaa],?_⟩
  simp only [Bool.false_eq_true,if_false,oneOf,Aa5]
  exact ⟨trivial,hcs⟩
 by_cases hl0:l = []
 ·subst hl0
  simp [b1,b2]
  have e0:res = ((4,0),a,0):=by rw [hres,appendM,if_pos rfl]
  rw [e0] at fin
  exact fin _ _ (by simp) ⟨_,by simp; rfl⟩ (Cs.box k1 hX hCl (Cs.refl hA1 (fun j h => by have:=hX j h; omega) hC1) (by omega) (by omega) _)
 have hlp:0 < l.length:=by cases l with | nil => exact absurd rfl hl0 | cons _ _ => simp
 have wl:IntKind.i64.wrap ((l.length:Int) - 1) = ((l.length - 1:Nat):Int):=by rw [IntWalk.i64_in _ (by omega)]; omega
 have ln:∀ (R:TypeId) (m:Mem),abuiltin Tryz.prog .len #[66] R [.lst (vals l)] m = some (int l.length,m):=fun R m => by rw [Aat Tryz.underlying66,Aav]
 have hsl:=Ajz (P:=Tryz.prog) (T:=66) (xs:=vals l) (k:=2) (lo:=none) (hi:=some (int ((l.length - 1:Nat):Int))) (l:=none) (h:=some (l.length - 1)) Tryz.underlying66 Abf rfl (by simp only [obnd]; rw [if_pos (by omega)]; simp) (by simp) (by simp) (Aa4 _)
 simp at hsl
 have htk:(vals l).take (l.length - 1) = vals l.dropLast:=by rw [List.dropLast_eq_take]; simp [vals]
 rw [htk] at hsl
 have ln2:∀ (R:TypeId) (m:Mem),abuiltin Tryz.prog .len #[66] R [.lst (vals l.dropLast)] m = some (int (l.length - 1:Nat),m):=fun R m => by rw [Aat Tryz.underlying66,Aav,List.length_dropLast]
 simp [b0,b1,b2,bC,ln,wl,hl0,hsl,ln2]
 obtain ⟨L,hL⟩:∃ L,L = l.dropLast:=⟨_,rfl⟩
 obtain ⟨N,hN⟩:∃ N,N = l.length - 1:=⟨_,rfl⟩
 have hLN:L.length = N:=by rw [hL,hN,List.length_dropLast]
 rw [← hL,← hN]
 refine Aar 145 N (fun i s' m' => ∃ ys,listsM a (L.take i) = (ys,0) ∧ Acc M1 m' 1 false (lists ys) (s'.at 6) ∧ ys.length ≤ i ∧ KpC (fun j => j = C) M1 m' ∧ has m' C (clC A 24 l 0)) (by simp) (by omega) ⟨[],by simp [listsM],.inl ⟨rfl,by simp⟩,by simp,.refl _ _,hC1⟩ ?_
 rintro i s' m' hi e145 ⟨ys,hys,hacc,hyl,kc,hCm⟩ hsame hw Q' hn he
 have d1:s'.at 1 = .ptr m.next 0:=(hsame 1 (by kernel_rfl)).trans (by simp)
 have d2:s'.at 2 = .ptr (m.next + 1) 0:=(hsame 2 (by kernel_rfl)).trans (by simp)
 have d3:s'.at 3 = .ptr (m.next + 2) 0:=(hsame 3 (by kernel_rfl)).trans (by simp)
 have d143:s'.at 143 = .lst (vals L):=(hsame 143 (by kernel_rfl)).trans (by simp)
 have d144:s'.at 144 = int N:=(hsame 144 (by kernel_rfl)).trans (by simp)
 have d5:s'.at 5 = int N:=(hsame 5 (by kernel_rfl)).trans (by simp)
 clear hsame
 have n':=kc.next
 have f0:=(kc.get m.next (by omega) (by omega)).trans b0
 have f1:=(kc.get (m.next + 1) (by omega) (by omega)).trans b1
 have f2:=(kc.get (m.next + 2) (by omega) (by omega)).trans b2
 have hAm:Ar X A a m':=hA1.kc kc fun j h e => absurd h (e ▸ hXC)
 obtain ⟨hCl',wC,gC⟩:=id hCm
 simp [e145,d144]
 refine Aad (fun h => ?_) fun h => ?_
 ·have hlt:i < N:=by simpa using h
  obtain ⟨x,hx⟩:∃ x,L[i]? = some x:=⟨_,List.getElem?_eq_getElem (by omega)⟩
  have hix:aindexAddr Tryz.prog 66 (.lst (vals L)) (int i) = some ((valA x).cptr 0):=Aak hx
  have z0:m.next ≠ m'.next:=by omega
  simp [e145,d143,hix,d1,f0,z0,Aaa]
  obtain ⟨Ma,hMa⟩:∃ Ma,Ma = (m'.new [int 0,int 0] false).set m'.next [int x.1,int x.2]:=⟨_,rfl⟩
  have ka:Kp m' Ma:=by rw [hMa]; simp
  have na:Ma.next = m'.next + 1:=by rw [hMa]; simp
  rw [← hMa]
  clear hMa
  refine Aae (q130 (hAm.kp ka) hsm hp hXC (hCm.kp ka) x) ?_
  intro x' m2 hlk
  obtain ⟨hacc2,kc2,hC2⟩:=Any hlk
  obtain ⟨r,hr⟩:∃ r,r = listM a 1024 x:=⟨_,rfl⟩
  rw [← hr] at hacc2 hC2
  obtain ⟨m3,ez,kz⟩:=A0s hacc2
  have n2:=kc2.next
  have n3:=kz.next
  have own6:∀ j,owns (s'.at 6) j → M1.next ≤ j ∧ j < m'.next:=Aa7 hacc
  have ownx:∀ j,owns x' j → Ma.next ≤ j:=fun j h => (Aa7 hacc2 j h).1
  have hacc3:Acc M1 m3 1 false (lists ys) (s'.at 6):=Aa9 (Aa9 (hacc.kp ka) kc2 fun j h e => by have:=own6 j h; omega) kz fun j h h2 => by have:=own6 j h; have:=ownx j h2; omega
  have hC3:=hC2.kc kz fun h => by have:=ownx _ h; omega
  have hsrc:=Abv (m:=m3.new [.lst (vals r.1)] false) (id:=m3.next) (c:=some 1) (k:=1) (ag:=false) (x:=.lst (vals r.1)) (w:=m3.clock + 1) (f:=false) rfl (by simp) (by simp) rfl
  obtain ⟨v6,m6,p1,p2,p3,p4⟩:=Adh (T:=175) (m:=m3.new [.lst (vals r.1)] false) (zs:=[.lst (vals r.1)]) (hacc3.kp (.new _ _ _)) (by simp; omega) (okl _) el175 (by simp [Aao,Aba]) (by simp [fzx,fzvs]) (by simp [lists]; omega)
  have n6:=p3.next
  simp at n6
  have kall:KpC (fun j => j = C) M1 m6:=KpC.cut (((((kc.trans (.of (.of ka))).trans kc2).mono fun j h => .inl h).trans (kz.mono fun j h => .inr (by have:=ownx j h; omega))).trans ((KpC.of (.of (.new _ _ _))).trans (p3.mono fun j h => .inr (own6 j h).1)))
  have hC6:has m6 C (clC A 24 l r.2):=(hC3.kp (.new _ _ _)).kc p3 fun h => by have:=own6 _ h; omega
  obtain ⟨_,w6,g6C⟩:=id hC6
  have g60:=(kall.get m.next (by omega) (by omega)).trans b0
  have g61:=(kall.get (m.next + 1) (by omega) (by omega)).trans b1
  have g62:=(kall.get (m.next + 2) (by omega) (by omega)).trans b2
  simp [abuildSlice,fzx,fzvs,ez,zeros,fillAt,abuiltin,hsrc,p1,d1,g60,g6C]
  have hall:L = L.take i ++ x :: L.drop (i + 1):=by
   obtain ⟨h1,h2⟩:=List.getElem?_eq_some_iff.1 hx
   rw [← h2,List.getElem_cons_drop,List.take_append_drop]
  have hvA:=Adm a (L.take i) (x :: L.drop (i + 1)) (by rw [hys])
  rw [← hall,listsM,← hr] at hvA
  by_cases hz:r.2 = 0
  ·simp [hz,e145,hw]
   have htk1:L.take (i + 1) = L.take i ++ [x]:=by
    obtain ⟨h1,h2⟩:=List.getElem?_eq_some_iff.1 hx
    rw [List.take_succ_eq_append_getElem h1,h2]
   rw [hz] at hC6
   refine hn _ _ hlt (by simp) ⟨ys ++ [r.1],?_,?_,by simp; omega,kall,hC6⟩
   ·rw [htk1,Adm a _ _ (by rw [hys]),hys]
    simp [listsM,← hr,hz]
   ·simpa [lists] using p2
  ·have hvB:listsM a L = ([],r.2):=by
    rw [hvA,if_pos hz]
    simp [hz]
   simp [hz,d3,d2,g62,g61]
   refine he _ _ _ (by simp) ?_
   simp
   have e0:res = ((4,0),a,r.2):=by
    rw [hres,appendM,if_neg hl0,← hL,hvB]
    simp [hz]
   rw [e0] at fin
   exact fin _ _ (by simp [d2]) ⟨_,by simp; rfl⟩ (Cs.box k1 hX hCl (Cs.of_c hA1 (fun j h => by have:=hX j h; omega) hXC kall hC6) (by omega) (by omega) _)
 ·have hge:i = N:=by have:=of_decide_eq_false h; omega
  subst hge
  simp
  refine he _ _ _ (by simp) ?_
  obtain ⟨ev,hev⟩:∃ v,l[i]? = some v:=⟨_,List.getElem?_eq_getElem (by omega)⟩
  have hix:aindexAddr Tryz.prog 66 (.lst (vals l)) (int i) = some ((valA ev).cptr 0):=Aak hev
  have z0:C ≠ m'.next:=by omega
  obtain ⟨x6,hx6⟩:∃ x,x = s'.at 6:=⟨_,rfl⟩
  rw [← hx6] at hacc
  simp [d1,f0,gC,d5,hix,← hx6]
  obtain ⟨Mc,hMc⟩:∃ Mc,Mc = (m'.new [int 0,int 0] false).set m'.next [int ev.1,int ev.2]:=⟨_,rfl⟩
  have kMc:Kp m' Mc:=by rw [hMc]; simp
  have nMc:Mc.next = m'.next + 1:=by rw [hMc]; simp
  have gT:Mc.get m'.next = some (.cells [int ev.1,int ev.2] false (m'.clock + 2)):=by rw [hMc]; simp
  rw [← hMc]
  clear hMc
  have own6:∀ j,owns x6 j → M1.next ≤ j ∧ j < m'.next:=Aa7 hacc
  obtain ⟨M5,ez,kz⟩:=Awt (hacc.kp kMc)
  have n5:=kz.next
  have kM5:KpC (fun j => j = C) M1 M5:=KpC.cut (((kc.trans (.of (.of kMc))).mono fun j h => .inl h).trans (kz.mono fun j h => .inr (own6 j h).1))
  have gT5:=(kz.get m'.next (by omega) fun h => by have:=own6 _ h; omega).trans gT
  have hC5:has M5 C (clC A 24 l 0):=(hCm.kp kMc).kc kz fun h => by have:=own6 _ h; omega
  have hA5:Ar X A a M5:=hA1.kc kM5 fun j h e => absurd h (e ▸ hXC)
  have q:=eh_fz Tryz.func133 rfl rfl rfl ez (by simp [fzvs]) (q133 ys M5)
  simp [q.go]
  obtain ⟨T,hT⟩:∃ T,T = m'.next:=⟨_,rfl⟩
  obtain ⟨D,hD⟩:∃ D,D = M5.next:=⟨_,rfl⟩
  have t1:m.next + 3 ≤ T:=by omega
  have t2:T < D:=by omega
  refine Akn (f:=172) (a:=[]) (b:=[.ptr M5.next 0]) (by simp) (by kernel_rfl) ?_
  simp only [List.nil_append,List.singleton_append]
  generalize hcd:LCode.mk _ _ _ _ _ = c
  have hid:(M5.new [AV.lst (lists ys)] false).next = D + 1:=by simp [hD]
  have hys2:listsM a L = (ys,0):=by rw [← hys,← hLN,List.take_length]
  have hyl2:∀ y ∈ ys,y.length ≤ 1024:=fun y hy => Agl a L y (by rw [hys2]; exact hy)
  have eres:res = foldM a ev ys:=by
   have e9:l.getLastD (0,0) = ev:=by
    rw [List.getLastD_eq_getLast?,List.getLast?_eq_getElem?,← hN,hev]
    rfl
   rw [hres,appendM,if_neg hl0,← hL,hys2,e9]
   simp
  have keep0:∀ j,m.next ≤ j → ¬ X j ∧ j ≠ C:=fun j h => ⟨fun hx => by have:=hX j hx; omega,by omega⟩
  refine Ae8 (A1d (J:=fun k' mm => JF X A C 24 l m T D c ys (foldM a ev (ys.drop k')) mm) ys (by omega) ?_ (fun k mm h => by rw [← hD]; exact h.2.2.2.2.2.2.1) _ ?_) ?_
  ·rintro k' x mm hx ⟨⟨X1,hA1,hX1⟩,kcc,hC1,⟨w0,h0⟩,⟨w1,h1⟩,⟨w2,h2⟩,h3,⟨ver,hloop⟩,hn'⟩
   rw [hid]
   refine Ahm hloop (by rw [← hcd]; rfl) ?_
   have c1:=congrArg LCode.assign hcd
   have c2:=congrArg LCode.body hcd
   have c3:=congrArg LCode.N hcd
   have c4:=congrArg LCode.s hcd
   have c5:=congrArg LCode.ps hcd
   dsimp only at c1 c2 c3 c4 c5
   simp only [← c1,← c2,← c3,← c4,← c5]
   have hstep:foldM a ev (ys.drop k') = aheadM (foldM a ev (ys.drop (k' + 1))).2.1 (foldM a ev (ys.drop (k' + 1))).2.2 (foldM a ev (ys.drop (k' + 1))).1 x:=by
    obtain ⟨h1,h2⟩:=List.getElem?_eq_some_iff.1 hx
    rw [← List.getElem_cons_drop h1,h2,foldM]
   rw [hstep]
   generalize foldM a ev (ys.drop (k' + 1)) = r at hA1 hC1 h2 ⊢
   rw [← hT]
   simp [Sl.puts,hloop,d1,h0,h2,Aaa]
   obtain ⟨Mb,hMb⟩:∃ Mb,Mb = mm.setLoop (D + 1) .busy none c:=⟨_,rfl⟩
   have kb:KpC (fun j => j = D + 1) mm Mb:=by rw [hMb]; exact Ace _ _ _ _ _
   have nb:Mb.next = mm.next:=by rw [hMb]; simp
   obtain ⟨uL,lb⟩:∃ w,Mb.loop (D + 1) = some ⟨.busy,none,c,w⟩:=⟨_,by rw [hMb]; simp; rfl⟩
   rw [← hMb]
   clear hMb
   have hXD:∀ j,m.next ≤ j → j < D + 2 → ¬ X1 j:=fun j h1 h2 h => by
    rcases (hX1 j h).1 with h | h
    ·exact (keep0 j h1).1 h
    ·omega
   refine Aae (q129 (X:=X1) (A:=A) (C:=C) (n:=24) (l0:=l) (a:=r.2.1) (k:=r.2.2) (m:=Mb) (hA1.kc kb fun j h e => absurd h (by rw [e]; exact hXD _ (by omega) (by omega))) (fun j h => by rw [nb]; exact (hX1 j h).2) (fun h => by
    rcases (hX1 C h).1 with h | h
    ·exact hXC h
    ·omega) (hC1.kc kb (by omega)) x (by have:=hyl2 x (List.mem_of_getElem? hx); omega) r.1) ?_
   rintro _ m6 ⟨rfl,X2,hA2,hX2,kc2,hC2⟩
   have n6:=kc2.next
   have keep:∀ j,m.next ≤ j → j < D + 2 → ¬ (X1 j ∨ j = C):=fun j h1 h2 h => by
    rcases h with h | h
    ·exact hXD j h1 h2 h
    ·omega
   have h60:=(kc2.get m.next (by omega) (keep _ (by omega) (by omega))).trans ((kb.get m.next (by omega) (by omega)).trans h0)
   have h61:=(kc2.get (m.next + 1) (by omega) (keep _ (by omega) (by omega))).trans ((kb.get (m.next + 1) (by omega) (by omega)).trans h1)
   have h6T:=(kc2.get T (by omega) (keep _ (by omega) (by omega))).trans ((kb.get T (by omega) (by omega)).trans h2)
   have h6D:=(h3.kc kb (by omega)).kc kc2 (keep _ (by omega) (by omega))
   have l6:=(kc2.x (D + 1) (by omega) (keep _ (by omega) (by omega))).1.trans lb
   simp [h6T,l6,Aaa]
   have hX2':∀ j,X2 j → (X j ∨ D + 2 ≤ j) ∧ j < m6.next:=fun j h => ⟨(hX2 j h).1.elim (fun h => (hX1 j h).1) fun h => .inr (by omega),(hX2 j h).2⟩
   have ne2:∀ j,X2 j → j ≠ T ∧ j ≠ D + 1:=fun j h => by
    rcases (hX2' j h).1 with h | h
    ·have:=hX j h; omega
    ·omega
   have p0:m.next ≠ T:=by omega
   have p1:m.next + 1 ≠ T:=by omega
   refine ⟨⟨X2,(hA2.kc (Aap T _ _) fun j h e => absurd e (ne2 j h).1).kc (Ace (D + 1) _ _ _ _) fun j h e => absurd e (ne2 j h).2,fun j h => by simpa using hX2' j h⟩,?_,(hC2.kc (Aap T _ _) (by omega)).kc (Ace (D + 1) _ _ _ _) (by omega),⟨w0,by simp [p0,h60]⟩,⟨w1,by simp [p1,h61]⟩,⟨_,by simp; rfl⟩,(h6D.kc (Aap T _ _) (by omega)).kc (Ace (D + 1) _ _ _ _) (by omega),⟨_,by simp; rfl⟩,by simp; omega⟩
   refine KpC.cut (((((kcc.mono fun j h => .inl h).trans (kb.mono fun j h => .inr (by omega))).trans (kc2.mono fun j h => ?_)).trans ((Aap T _ _).mono fun j h => .inr (by omega))).trans ((Ace (D + 1) _ _ _ _).mono fun j h => .inr (by omega)))
   rcases h with h | h
   ·rcases (hX1 j h).1 with h | h
    ·exact .inl (.inl h)
    ·exact .inr (by omega)
   ·exact .inl (.inr h)
  ·rw [List.drop_length,foldM]
   have kk:Kp M5 ((M5.new [AV.lst (lists ys)] false).newLoop c):=(Kp.new M5 _ _).newLoop c
   have ktot:KpC (fun j => X j ∨ j = C) m ((M5.new [AV.lst (lists ys)] false).newLoop c):=((KpC.of (.of k1)).trans ((kM5.trans (.of (.of kk))).mono fun j h => .inr h))
   have q0:=(kk.get m.next (by omega)).trans ((kM5.get m.next (by omega) (by omega)).trans b0)
   have q1:=(kk.get (m.next + 1) (by omega)).trans ((kM5.get (m.next + 1) (by omega) (by omega)).trans b1)
   have q2:=(kk.get m'.next (by omega)).trans gT5
   rw [← hT] at q2
   refine ⟨⟨X,hA5.kp kk,fun j h => ⟨.inl h,by have:=hX j h; simp; omega⟩⟩,ktot,hC5.kp kk,⟨_,q0⟩,⟨_,q1⟩,⟨_,q2⟩,⟨by simp; omega,_,by simp [hD]; rfl⟩,⟨_,by simp [hD]; rfl⟩,by simp; omega⟩
  ·rintro v mm ⟨rfl,⟨X1,hA1,hX1⟩,kcc,hC1,⟨w0,h0⟩,⟨w1,h1⟩,⟨w2,h2⟩,h3,⟨ver,hloop⟩,hn'⟩
   rw [List.drop_zero,← eres] at hA1 hC1 h2
   rw [hid]
   refine ⟨_,.normal,hloop,by simp,rfl,?_⟩
   rw [← hT]
   simp [h1,h2,d2,Aaa]
   have kl:KpC (fun j => j = D + 1) mm (mm.killLoop (D + 1)):=⟨by simp,fun id hi hx => by simp,fun id hi hx => by
    have:id ≠ D + 1:=hx
    simp [this]⟩
   refine fin _ _ (by simp [d2]) ⟨_,by simp; rfl⟩ ⟨X1,(hA1.kc kl fun j h e => ?_).kc (Aap (m.next + 1) _ _) fun j h e => ?_,fun j h => ⟨(hX1 j h).1.imp id fun h => by omega,by simpa using (hX1 j h).2⟩,KpC.cut (((kcc.mono fun j h => .inl h).trans (kl.mono fun j h => .inr (by omega))).trans ((Aap (m.next + 1) _ _).mono fun j h => .inr (by omega))),(hC1.kc kl (by omega)).kc (Aap (m.next + 1) _ _) (by omega)⟩
   all_goals
    rcases (hX1 j h).1 with h | h
    ·have:=hX j h; omega
    ·omega
def numV (r e:Int):Val:=if e = 0 then (1,r) else (0,0)
def kdOf (e:Int):Int:=if e = 0 then 0 else if e = 10 then 4 else if e = 11 then 5 else 6
set_option maxRecDepth 20000 in
theorem q118 {A C:Nat} {n:Int} {l:List Val} {m:Mem} (hC:has m C (clC A n l 0)) (r e:Int):wph Tryz.prog ca (.func 118) [.ptr C 0,int r,int e] m fun v m' => v = valA (numV r e) ∧ KpC (fun j => j = C) m m' ∧ has m' C (clC A n l (kdOf e)):=by
 have hCl:=hC.1
 refine Aas Tryz.func118 rfl rfl (by simp [Tryz.f118]) (by simp [Tryz.f118]) fun Q hQ => ?_
 simp only [Tryz.f118,show ca.keepRes 118 = false from rfl,show ca.keepArgs 118 = false from rfl] at hQ ⊢
 obtain ⟨M1,hM1⟩:∃ M1,M1 = m.new [int 0,int 0] false:=⟨_,rfl⟩
 have k1:Kp m M1:=by rw [hM1]; simp
 have n1:M1.next = m.next + 1:=by rw [hM1]; simp
 have b0:M1.get m.next = some (.cells [int 0,int 0] false (m.clock + 1)):=by rw [hM1]; simp
 have hC1:=hC.kp k1
 have fin:∀ (s':Sl) (m5:Mem) (v:Val),s'.at 6 = .ptr m.next 0 → (∃ w,(m5.set m.next [int v.1,int v.2]).get m.next = some (.cells [int v.1,int v.2] false w)) → numV r e = v → KpC (fun j => j = C) M1 m5 → has m5 C (clC A n l (kdOf e)) → Q .ret s' (m5.set m.next [int v.1,int v.2]):=by
  intro s' m5 v h6 ⟨w,hg⟩ hv kc hc
  refine hQ _ _ _ ?_
  rw [Aaf]
  refine ⟨[valA v],by simp [aresult,h6,hg,aload,partOf,Aaa],?_⟩
  simp only [Bool.false_eq_true,if_false,oneOf,Aa5,hv]
  exact ⟨trivial,KpC.cut (((KpC.of (.of k1)).trans (kc.mono fun j h => .inl h)).trans ((Aap m.next _ _).mono fun j h => .inr (by omega))),hc.kc (Aap m.next _ _) (by omega)⟩
 simp
 rw [← hM1]
 clear hM1
 by_cases e0:e = 0
 ·subst e0
  simp [(q126 r).go,b0,Aaa]
  exact fin _ _ (1,r) (by simp) ⟨_,by simp; rfl⟩ (by simp [numV]) (.refl _ _) (by simpa [kdOf] using hC1)
 by_cases e1:e = 10
 ·subst e1
  simp
  refine Aae (q134 hC1 4) ?_
  rintro _ m5 ⟨rfl,kc,hc⟩
  have g:=(kc.get m.next (by omega) (by omega)).trans b0
  simp [g,Aaa]
  exact fin _ _ (0,0) (by simp) ⟨_,by simp; rfl⟩ (by simp [numV]) kc (by simpa [kdOf,failK] using hc)
 by_cases e2:e = 11
 ·subst e2
  simp
  refine Aae (q134 hC1 5) ?_
  rintro _ m5 ⟨rfl,kc,hc⟩
  have g:=(kc.get m.next (by omega) (by omega)).trans b0
  simp [g,Aaa]
  exact fin _ _ (0,0) (by simp) ⟨_,by simp; rfl⟩ (by simp [numV]) kc (by simpa [kdOf,failK] using hc)
 simp [e0,e1,e2]
 refine Aae (q134 hC1 6) ?_
 rintro _ m5 ⟨rfl,kc,hc⟩
 have g:=(kc.get m.next (by omega) (by omega)).trans b0
 simp [g,Aaa]
 exact fin _ _ (0,0) (by simp) ⟨_,by simp; rfl⟩ (by simp [numV,e0]) kc (by simpa [kdOf,failK,e0,e1,e2] using hc)
def foldR (F:Int → Int → Int × Int):Int → List Val → Int × Int
 | x,[] => (x,0)
 | x,v :: l => if (F x v.2).2 ≠ 0 then (0,(F x v.2).2) else foldR F (F x v.2).1 l
theorem Adg {l:List Val} {i:Nat} {v:Val} (h:l[i]? = some v):l.drop i = v :: l.drop (i + 1):=by
 obtain ⟨h1,h2⟩:=List.getElem?_eq_some_iff.1 h
 rw [List.drop_eq_getElem_cons h1,h2]
theorem q113 {A C:Nat} {n:Int} {l lc:List Val} {f:FuncId} {F:Int → Int → Int × Int} {m:Mem} (hC:has m C (clC A n lc 0)) (hl:l.length ≤ 4096) (hs:∀ a b,Gives Tryz.prog ca f [int a,int b] (.tup [int (F a b).1,int (F a b).2])) (first:Int):wph Tryz.prog ca (.func 113) [.ptr C 0,int first,.lst (vals l),.fn (.func f) [] []] m fun v m' => v = valA (numV (foldR F first l).1 (foldR F first l).2) ∧ KpC (fun j => j = C) m m' ∧ has m' C (clC A n lc (kdOf (foldR F first l).2)):=by
 have hCl:=hC.1
 refine Aas Tryz.func113 rfl rfl (by simp [Tryz.f113]) (by simp [Tryz.f113]) fun Q hQ => ?_
 simp only [Tryz.f113,show ca.keepRes 113 = false from rfl,show ca.keepArgs 113 = false from rfl] at hQ ⊢
 have ln:∀ (R:TypeId) (m:Mem),abuiltin Tryz.prog .len #[66] R [.lst (vals l)] m = some (int l.length,m):=fun R m => by rw [Aat Tryz.underlying66]; simp
 obtain ⟨M1,hM1⟩:∃ M1,M1 = m.new [int 0,int 0] false:=⟨_,rfl⟩
 have k1:Kp m M1:=by rw [hM1]; simp
 have n1:M1.next = m.next + 1:=by rw [hM1]; simp
 have b0:M1.get m.next = some (.cells [int 0,int 0] false (m.clock + 1)):=by rw [hM1]; simp
 have hC1:=hC.kp k1
 obtain ⟨res,hres⟩:∃ res,res = foldR F first l:=⟨_,rfl⟩
 rw [← hres] at hQ
 have fin:∀ (s':Sl) (m5:Mem) (v:Val),s'.at 8 = .ptr m.next 0 → (∃ w,(m5.set m.next [int v.1,int v.2]).get m.next = some (.cells [int v.1,int v.2] false w)) → numV res.1 res.2 = v → KpC (fun j => j = C) M1 m5 → has m5 C (clC A n lc (kdOf res.2)) → Q .ret s' (m5.set m.next [int v.1,int v.2]):=by
  intro s' m5 v h6 ⟨w,hg⟩ hv kc hc
  refine hQ _ _ _ ?_
  rw [Aaf]
  refine ⟨[valA v],by simp [aresult,h6,hg,aload,partOf,Aaa],?_⟩
  simp only [Bool.false_eq_true,if_false,oneOf,Aa5,hv]
  exact ⟨trivial,KpC.cut (((KpC.of (.of k1)).trans (kc.mono fun j h => .inl h)).trans ((Aap m.next _ _).mono fun j h => .inr (by omega))),hc.kc (Aap m.next _ _) (by omega)⟩
 simp [ln]
 rw [← hM1]
 clear hM1
 refine Aar 15 l.length (fun i s' m' => Kp M1 m' ∧ ∃ x,s'.at 1 = int x ∧ res = foldR F x (l.drop i)) (by simp) (by omega) ⟨.refl _,first,by simp,hres⟩ ?_
 rintro i s' m' hi e15 ⟨hkp,x,e1,ex⟩ hsame hw Q' hn he
 have e0:s'.at 0 = .ptr C 0:=(hsame 0 (by kernel_rfl)).trans (by simp)
 have e3:s'.at 3 = .fn (.func f) [] []:=(hsame 3 (by kernel_rfl)).trans (by simp)
 have e8:s'.at 8 = .ptr m.next 0:=(hsame 8 (by kernel_rfl)).trans (by simp)
 have e13:s'.at 13 = .lst (vals l):=(hsame 13 (by kernel_rfl)).trans (by simp)
 have e14:s'.at 14 = int l.length:=(hsame 14 (by kernel_rfl)).trans (by simp)
 clear hsame
 have n':=hkp.next
 simp [e15,e14]
 refine Aad (fun h => ?_) fun h => ?_
 ·have hlt:i < l.length:=by simpa using h
  obtain ⟨v,hv⟩:∃ v,l[i]? = some v:=⟨_,List.getElem?_eq_getElem hlt⟩
  have hix:=Aak hv
  rw [Adg hv,foldR] at ex
  have z0:m.next ≠ m'.next:=by omega
  have k4:Kp m' ((m'.new [int 0,int 0] false).set m'.next [int v.1,int v.2]):=by simp
  have g:=((hkp.trans k4).get m.next (by omega)).trans b0
  simp [e15,e13,hix,e3,e1,(hs x v.2).go]
  by_cases hz:(F x v.2).2 = 0
  ·rw [if_neg (by simp [hz])] at ex
   simp [hz,e15,hw]
   exact hn _ _ hlt (by simp) ⟨hkp.trans k4,(F x v.2).1,by simp,ex⟩
  ·rw [if_pos hz] at ex
   simp [hz,e0]
   refine Aae (q118 (hC1.kp (hkp.trans k4)) 0 (F x v.2).2) ?_
   rintro _ m5 ⟨rfl,kc,hc⟩
   have g5:=(kc.get m.next (by have:=(hkp.trans k4).next; omega) (by omega)).trans g
   simp [e8,g5,numV,hz,Aaa]
   refine he _ _ _ (by simp) ?_
   simp
   refine fin _ _ (0,0) (by simp [e8]) ⟨_,by simp; rfl⟩ (by rw [ex]; simp [numV,hz]) (KpC.trans (.of (.of (hkp.trans k4))) kc) (by rw [ex]; exact hc)
 ·have hge:i = l.length:=by have:=of_decide_eq_false h; omega
  subst hge
  rw [List.drop_length,foldR] at ex
  have g:=(hkp.get m.next (by omega)).trans b0
  simp
  refine he _ _ _ (by simp) ?_
  simp [e1,e8,g,(q126 x).go,Aaa]
  exact fin _ _ (1,x) (by simp [e8]) ⟨_,by simp; rfl⟩ (by rw [ex]; simp [numV]) (.of (.of hkp)) (by rw [ex]; exact hC1.kp hkp)
theorem Adj {l:List Val} (h:l ≠ []):aslice Tryz.prog 66 (.lst (vals l)) (some (int 1)) none none = some (.lst (vals l.tail)):=by
 cases l with
 | nil => exact absurd rfl h
 | cons v l =>
  have:=Ajz (T:=66) (xs:=vals (v :: l)) (k:=2) (lo:=some (int 1)) (hi:=none) (l:=some 1) (h:=none) Tryz.underlying66 Abf (Afj (n:=1)) Aea (by simp) (by simp) (Aa4 _)
  have e:(vals l).take l.length = vals l:=List.take_of_length_le (by simp)
  simp [Aay,e] at this
  simpa [Aay] using this
theorem q120' (a b:Int):Gives Tryz.prog ca 120 [int a,int b] (.tup [int ((fun a b:Int => (min a b,(0:Int))) a b).1,int ((fun a b:Int => (min a b,(0:Int))) a b).2]):=q120 a b
theorem q121' (a b:Int):Gives Tryz.prog ca 121 [int a,int b] (.tup [int ((fun a b:Int => (max a b,(0:Int))) a b).1,int ((fun a b:Int => (max a b,(0:Int))) a b).2]):=q121 a b
def argN (l:List Val) (i:Nat):Int:=match l[i]? with | some v => v.2 | none => 0
def reckR (n:Int) (l:List Val):Int × Int :=
 if n = 0 then foldR addR 0 l else if n = 2 then foldR mulR 1 l else if n = 54 then foldR gcdR 0 l
 else if n = 1 then (if 1 < l.length then foldR subR (argN l 0) l.tail else negR (argN l 0))
 else if n = 51 then foldR (fun a b => (min a b,0)) (argN l 0) l.tail else if n = 52 then foldR (fun a b => (max a b,0)) (argN l 0) l.tail
 else if n = 3 then quoR (argN l 0) (argN l 1) else if n = 4 then remR (argN l 0) (argN l 1) else if n = 5 then modR (argN l 0) (argN l 1)
 else if n = 53 then powR (argN l 0) (argN l 1) else if argN l 0 < 0 then negR (argN l 0) else (argN l 0,0)
set_option maxRecDepth 20000 in
theorem q66 {A C:Nat} {n:Int} {l:List Val} {m:Mem} (hC:has m C (clC A n l 0)) (hl:l.length ≤ 4096) (hn:n = 1 ∨ n = 51 ∨ n = 52 → l ≠ []):wph Tryz.prog ca (.func 66) [.ptr C 0] m fun v m' => v = valA (numV (reckR n l).1 (reckR n l).2) ∧ KpC (fun j => j = C) m m' ∧ has m' C (clC A n l (kdOf (reckR n l).2)):=by
 have hCl:=hC.1
 refine Aas Tryz.func66 rfl rfl (by simp [Tryz.f66]) (by simp [Tryz.f66]) fun Q hQ => ?_
 simp only [Tryz.f66,show ca.keepRes 66 = false from rfl,show ca.keepArgs 66 = false from rfl] at hQ ⊢
 have ln:∀ (R:TypeId) (m:Mem),abuiltin Tryz.prog .len #[66] R [.lst (vals l)] m = some (int l.length,m):=fun R m => by rw [Aat Tryz.underlying66]; simp
 obtain ⟨M1,hM1⟩:∃ M1,M1 = m.new [int 0,int 0] false:=⟨_,rfl⟩
 have k1:Kp m M1:=by rw [hM1]; simp
 have n1:M1.next = m.next + 1:=by rw [hM1]; simp
 have b0:M1.get m.next = some (.cells [int 0,int 0] false (m.clock + 1)):=by rw [hM1]; simp
 have hC1:=hC.kp k1
 obtain ⟨_,w,gC⟩:=id hC1
 obtain ⟨_,w',gC0⟩:=id hC
 have c0:C ≠ m.next:=by omega
 obtain ⟨res,hres⟩:∃ res,res = reckR n l:=⟨_,rfl⟩
 rw [← hres] at hQ
 have fin:∀ (s':Sl) (m5:Mem) (v:Val),s'.at 2 = .ptr m.next 0 → (∃ w,(m5.set m.next [int v.1,int v.2]).get m.next = some (.cells [int v.1,int v.2] false w)) → numV res.1 res.2 = v → KpC (fun j => j = C) M1 m5 → has m5 C (clC A n l (kdOf res.2)) → Q .ret s' (m5.set m.next [int v.1,int v.2]):=by
  intro s' m5 v h6 ⟨w,hg⟩ hv kc hc
  refine hQ _ _ _ ?_
  rw [Aaf]
  refine ⟨[valA v],by simp [aresult,h6,hg,aload,partOf,Aaa],?_⟩
  simp only [Bool.false_eq_true,if_false,oneOf,Aa5,hv]
  exact ⟨trivial,KpC.cut (((KpC.of (.of k1)).trans (kc.mono fun j h => .inl h)).trans ((Aap m.next _ _).mono fun j h => .inr (by omega))),hc.kc (Aap m.next _ _) (by omega)⟩
 simp [gC0,c0,ln]
 rw [← hM1]
 clear hM1
 refine Aex (fun s' m' => m' = M1 ∧ s'.at 0 = .ptr C 0 ∧ s'.at 2 = .ptr m.next 0 ∧ s'.at 3 = .lst (vals l) ∧ s'.at 4 = int (argN l 0) ∧ s'.at 5 = int 0) (fun h k' hk' => ?_) (fun h k' hk' => ?_) ?_
 ·have hlt:0 < l.length:=by have:=of_decide_eq_true h; omega
  obtain ⟨v,hv⟩:∃ v,l[0]? = some v:=⟨_,List.getElem?_eq_getElem hlt⟩
  have hix:aindexAddr Tryz.prog 66 (.lst (vals l)) (int 0) = some ((valA v).cptr 0):=Aak (i:=0) hv
  simp [hix]
  exact hk' _ _ ⟨rfl,by simp,by simp,by simp,by simp [argN,hv],by simp⟩
 ·have hz:l[0]? = none:=List.getElem?_eq_none (by have:=of_decide_eq_false h; omega)
  simp
  exact hk' _ _ ⟨rfl,by simp,by simp,by simp,by simp [argN,hz],by simp⟩
 rintro s' m' ⟨hm,e0,e2,e3,e4,e5⟩
 rw [hm]
 clear hm m'
 simp [e3,ln]
 refine Aex (fun s' m' => m' = M1 ∧ s'.at 0 = .ptr C 0 ∧ s'.at 2 = .ptr m.next 0 ∧ s'.at 3 = .lst (vals l) ∧ s'.at 4 = int (argN l 0) ∧ s'.at 5 = int (argN l 1)) (fun h k' hk' => ?_) (fun h k' hk' => ?_) ?_
 ·have hlt:1 < l.length:=by have:=of_decide_eq_true h; omega
  obtain ⟨v,hv⟩:∃ v,l[1]? = some v:=⟨_,List.getElem?_eq_getElem hlt⟩
  have hix:aindexAddr Tryz.prog 66 (.lst (vals l)) (int 1) = some ((valA v).cptr 0):=Aak (i:=1) hv
  simp [hix,e3]
  exact hk' _ _ ⟨rfl,by simp [e0],by simp [e2],by simp [e3],by simp [e4],by simp [argN,hv]⟩
 ·have hz:l[1]? = none:=List.getElem?_eq_none (by have:=of_decide_eq_false h; omega)
  simp
  exact hk' _ _ ⟨rfl,by simp [e0],by simp [e2],by simp [e3],by simp [e4],by simp [e5,argN,hz]⟩
 clear e0 e2 e3 e4 e5
 rintro s' m' ⟨hm,e0,e2,e3,e4,e5⟩
 rw [hm]
 clear hm m'
 simp [e0,gC]
 by_cases q0:n = 0
 ·rw [reckR,if_pos q0] at hres
  simp [q0,e0,gC]
  refine Aae (q113 hC1 hl q114 0) ?_
  rintro _ m5 ⟨rfl,kc,hc⟩
  have g5:=(kc.get m.next (by omega) (by omega)).trans b0
  simp [g5,e2,Aaa]
  exact fin _ _ _ (by simp [e2]) ⟨_,by simp; rfl⟩ (by rw [hres]) kc (by rw [hres]; exact hc)
 by_cases q2:n = 2
 ·rw [reckR,if_neg q0,if_pos q2] at hres
  simp [q0,q2,e0,gC]
  refine Aae (q113 hC1 hl q115 1) ?_
  rintro _ m5 ⟨rfl,kc,hc⟩
  have g5:=(kc.get m.next (by omega) (by omega)).trans b0
  simp [g5,e2,Aaa]
  exact fin _ _ _ (by simp [e2]) ⟨_,by simp; rfl⟩ (by rw [hres]) kc (by rw [hres]; exact hc)
 by_cases q54:n = 54
 ·rw [reckR,if_neg q0,if_neg q2,if_pos q54] at hres
  simp [q0,q2,q54,e0,gC]
  refine Aae (q113 hC1 hl q116 0) ?_
  rintro _ m5 ⟨rfl,kc,hc⟩
  have g5:=(kc.get m.next (by omega) (by omega)).trans b0
  simp [g5,e2,Aaa]
  exact fin _ _ _ (by simp [e2]) ⟨_,by simp; rfl⟩ (by rw [hres]) kc (by rw [hres]; exact hc)
 by_cases q1:n = 1
 ·rw [reckR,if_neg q0,if_neg q2,if_neg q54,if_pos q1] at hres
  have hne:=hn (.inl q1)
  simp [q0,q2,q54,q1,e3,ln]
  by_cases h1:1 < l.length
  ·rw [if_pos h1] at hres
   simp [h1,show (1:Int) < l.length by omega,e0,e3,e4,Adj hne]
   refine Aae (q113 hC1 (l:=l.tail) (by simp; omega) q117 (argN l 0)) ?_
   rintro _ m5 ⟨rfl,kc,hc⟩
   have g5:=(kc.get m.next (by omega) (by omega)).trans b0
   simp [g5,e2,Aaa]
   exact fin _ _ _ (by simp [e2]) ⟨_,by simp; rfl⟩ (by rw [hres]) kc (by rw [hres]; exact hc)
  ·rw [if_neg h1] at hres
   simp [h1,show ¬ (1:Int) < l.length by omega,e0,e4,(q119 (argN l 0)).go]
   refine Aae (q118 hC1 _ _) ?_
   rintro _ m5 ⟨rfl,kc,hc⟩
   have g5:=(kc.get m.next (by omega) (by omega)).trans b0
   simp [g5,e2,Aaa]
   exact fin _ _ _ (by simp [e2]) ⟨_,by simp; rfl⟩ (by rw [hres]) kc (by rw [hres]; exact hc)
 by_cases q51:n = 51
 ·rw [reckR,if_neg q0,if_neg q2,if_neg q54,if_neg q1,if_pos q51] at hres
  have hne:=hn (.inr (.inl q51))
  simp [q0,q2,q54,q1,q51,e0,e3,e4,Adj hne]
  refine Aae (q113 hC1 (l:=l.tail) (by simp; omega) q120' (argN l 0)) ?_
  rintro _ m5 ⟨rfl,kc,hc⟩
  have g5:=(kc.get m.next (by omega) (by omega)).trans b0
  simp [g5,e2,Aaa]
  exact fin _ _ _ (by simp [e2]) ⟨_,by simp; rfl⟩ (by rw [hres]) kc (by rw [hres]; exact hc)
 by_cases q52:n = 52
 ·rw [reckR,if_neg q0,if_neg q2,if_neg q54,if_neg q1,if_neg q51,if_pos q52] at hres
  have hne:=hn (.inr (.inr q52))
  simp [q0,q2,q54,q1,q51,q52,e0,e3,e4,Adj hne]
  refine Aae (q113 hC1 (l:=l.tail) (by simp; omega) q121' (argN l 0)) ?_
  rintro _ m5 ⟨rfl,kc,hc⟩
  have g5:=(kc.get m.next (by omega) (by omega)).trans b0
  simp [g5,e2,Aaa]
  exact fin _ _ _ (by simp [e2]) ⟨_,by simp; rfl⟩ (by rw [hres]) kc (by rw [hres]; exact hc)
 by_cases q3:n = 3
 ·rw [reckR,if_neg q0,if_neg q2,if_neg q54,if_neg q1,if_neg q51,if_neg q52,if_pos q3] at hres
  simp [q0,q2,q54,q1,q51,q52,q3,e0,e4,e5,(q122 (argN l 0) (argN l 1)).go]
  refine Aae (q118 hC1 _ _) ?_
  rintro _ m5 ⟨rfl,kc,hc⟩
  have g5:=(kc.get m.next (by omega) (by omega)).trans b0
  simp [g5,e2,Aaa]
  exact fin _ _ _ (by simp [e2]) ⟨_,by simp; rfl⟩ (by rw [hres]) kc (by rw [hres]; exact hc)
 by_cases q4:n = 4
 ·rw [reckR,if_neg q0,if_neg q2,if_neg q54,if_neg q1,if_neg q51,if_neg q52,if_neg q3,if_pos q4] at hres
  simp [q0,q2,q54,q1,q51,q52,q3,q4,e0,e4,e5,(q123 (argN l 0) (argN l 1)).go]
  refine Aae (q118 hC1 _ _) ?_
  rintro _ m5 ⟨rfl,kc,hc⟩
  have g5:=(kc.get m.next (by omega) (by omega)).trans b0
  simp [g5,e2,Aaa]
  exact fin _ _ _ (by simp [e2]) ⟨_,by simp; rfl⟩ (by rw [hres]) kc (by rw [hres]; exact hc)
 by_cases q5:n = 5
 ·rw [reckR,if_neg q0,if_neg q2,if_neg q54,if_neg q1,if_neg q51,if_neg q52,if_neg q3,if_neg q4,if_pos q5] at hres
  simp [q0,q2,q54,q1,q51,q52,q3,q4,q5,e0,e4,e5,(q124 (argN l 0) (argN l 1)).go]
  refine Aae (q118 hC1 _ _) ?_
  rintro _ m5 ⟨rfl,kc,hc⟩
  have g5:=(kc.get m.next (by omega) (by omega)).trans b0
  simp [g5,e2,Aaa]
  exact fin _ _ _ (by simp [e2]) ⟨_,by simp; rfl⟩ (by rw [hres]) kc (by rw [hres]; exact hc)
 by_cases q53:n = 53
 ·rw [reckR,if_neg q0,if_neg q2,if_neg q54,if_neg q1,if_neg q51,if_neg q52,if_neg q3,if_neg q4,if_neg q5,if_pos q53] at hres
  simp [q0,q2,q54,q1,q51,q52,q3,q4,q5,q53,e0,e4,e5,(q125 (argN l 0) (argN l 1)).go]
  refine Aae (q118 hC1 _ _) ?_
  rintro _ m5 ⟨rfl,kc,hc⟩
  have g5:=(kc.get m.next (by omega) (by omega)).trans b0
  simp [g5,e2,Aaa]
  exact fin _ _ _ (by simp [e2]) ⟨_,by simp; rfl⟩ (by rw [hres]) kc (by rw [hres]; exact hc)
 rw [reckR,if_neg q0,if_neg q2,if_neg q54,if_neg q1,if_neg q51,if_neg q52,if_neg q3,if_neg q4,if_neg q5,if_neg q53] at hres
 simp [q0,q2,q54,q1,q51,q52,q3,q4,q5,q53,e4]
 by_cases hz:argN l 0 < 0
 ·rw [if_pos hz] at hres
  simp [hz,e0,e4,(q119 (argN l 0)).go]
  refine Aae (q118 hC1 _ _) ?_
  rintro _ m5 ⟨rfl,kc,hc⟩
  have g5:=(kc.get m.next (by omega) (by omega)).trans b0
  simp [g5,e2,Aaa]
  exact fin _ _ _ (by simp [e2]) ⟨_,by simp; rfl⟩ (by rw [hres]) kc (by rw [hres]; exact hc)
 ·rw [if_neg hz] at hres
  simp [hz,e2,e4,b0,(q126 (argN l 0)).go,Aaa]
  exact fin _ _ (1,argN l 0) (by simp [e2]) ⟨_,by simp; rfl⟩ (by rw [hres]; simp [numV]) (.refl _ _) (by rw [hres]; simpa [kdOf] using hC1)
def truV (b:Bool):Val:=(2,if b then 1 else 0)
theorem q67 (b:Bool):Gives Tryz.prog ca 67 [.sc (.bool b)] (valA (truV b)):=by
 refine Aag Tryz.func67 rfl rfl rfl rfl (by simp) (by simp [Tryz.f67]) (by simp [Tryz.f67]) fun m => ?_
 cases b
 ·simp [Tryz.f67,show ca.keepRes 67 = false from rfl,abuild,placesOf,fillAt]
  rfl
 ·simp [Tryz.f67,show ca.keepRes 67 = false from rfl,abuild,placesOf,fillAt]
  rfl
def relM (n x y:Int):Bool:=if n = 6 then decide (x = y) else if n = 8 then decide (y < x) else if n = 7 then decide (x < y) else if n = 10 then decide (y ≤ x) else decide (x ≤ y)
def holdsM (n:Int):List Val → Bool
 | [] => true
 | [_] => true
 | x :: y :: l => relM n x.2 y.2 && holdsM n (y :: l)
theorem Apl {n:Int} {l:List Val} {i:Nat} {x y:Val} (hx:l[i]? = some x) (hy:l[i + 1]? = some y):holdsM n (l.drop i) = (relM n x.2 y.2 && holdsM n (l.drop (i + 1))):=by
 rw [Adg hx,Adg hy,holdsM]
theorem Al8 {n:Int} {l:List Val} {i:Nat} (h:l.length ≤ i + 1):holdsM n (l.drop i) = true:=by
 have:(l.drop i).length ≤ 1:=by rw [List.length_drop]; omega
 match l.drop i,this with
 | [],_ => rfl
 | [_],_ => rfl
 | _ :: _ :: _,h => simp at h
theorem q68 {A C:Nat} {n k:Int} {l:List Val} {m:Mem} (hC:has m C (clC A n l k)) (hl:l.length ≤ 4096):EH Tryz.prog ca (.func 68) [.ptr C 0] m (.sc (.bool (holdsM n l))) m:=by
 obtain ⟨hCl,w,hg⟩:=hC
 have ln:∀ (R:TypeId) (m:Mem),abuiltin Tryz.prog .len #[66] R [.lst (vals l)] m = some (int l.length,m):=fun R m => by rw [Aat Tryz.underlying66]; simp
 refine Abj Tryz.func68 rfl rfl rfl rfl (args1:=[.ptr C 0]) (m1:=m) (by simp) (by simp) (by simp [Tryz.f68]) (by simp [Tryz.f68]) ?_
 simp only [Tryz.f68,show ca.keepRes 68 = false from rfl]
 obtain ⟨g,hgd⟩:∃ g,g = holdsM n l:=⟨_,rfl⟩
 rw [← hgd]
 simp
 refine Ab7 (fun d s' m' => ∃ i:Nat,d = l.length - i ∧ s'.at 3 = int ((i:Int) + 1) ∧ m' = m ∧ g = holdsM n (l.drop i)) l.length ⟨0,rfl,by simp,rfl,by simpa using hgd⟩ ?_
 rintro d s' m' ⟨i,rfl,e3,rfl,hh⟩ hsame Q' hn he
 have e0:s'.at 0 = .ptr C 0:=(hsame 0 (by kernel_rfl)).trans (by simp)
 clear hsame
 simp [e0,e3,hg,ln]
 refine Aad (fun h => ?_) fun h => ?_
 ·have hlt:i + 1 < l.length:=by have:=of_decide_eq_true h; omega
  obtain ⟨x,hx⟩:∃ x,l[i]? = some x:=⟨_,List.getElem?_eq_getElem (by omega)⟩
  obtain ⟨y,hy⟩:∃ x,l[i + 1]? = some x:=⟨_,List.getElem?_eq_getElem hlt⟩
  have ix:=Aak hx
  have iy:=Aak hy
  have hw:IntKind.i64.wrap ((i:Int) + 1 - 1) = (i:Int):=by rw [IntWalk.i64_in _ (by omega)]; omega
  have hw2:IntKind.i64.wrap ((i:Int) + 1 + 1) = (((i + 1:Nat):Int) + 1):=by rw [IntWalk.i64_in _ (by omega)]; omega
  rw [Apl hx hy] at hh
  simp
  refine Aah (by kernel_rfl) (by kernel_rfl) ?_
  rw [Int.natCast_add,Int.natCast_one] at iy
  have hw0:IntKind.i64.wrap (i:Int) = (i:Int):=IntWalk.i64_in _ (by omega)
  simp [e0,e3,hg,hw,hw0,ix,iy]
  by_cases d6:n = 6
  ·by_cases hxy:x.2 = y.2
   ·have hr:relM n x.2 y.2 = true:=by simp [relM,d6,hxy]
    rw [hr,Bool.true_and] at hh
    simp [d6,hxy]
    simp [e3,hw2]
    exact hn (l.length - (i + 1)) _ _ (by omega) ⟨i + 1,rfl,by simp,by simp,hh⟩
   ·have hr:relM n x.2 y.2 = false:=by simp [relM,d6,hxy]
    rw [hr,Bool.false_and] at hh
    subst hh
    simp [d6,hxy]
    refine he _ _ _ (by simp) ?_
    simp
  by_cases d8:n = 8
  ·by_cases hxy:y.2 < x.2
   ·have hr:relM n x.2 y.2 = true:=by simp [relM,d6,d8,hxy]
    rw [hr,Bool.true_and] at hh
    simp [d6,d8,hxy]
    simp [e3,hw2]
    exact hn (l.length - (i + 1)) _ _ (by omega) ⟨i + 1,rfl,by simp,by simp,hh⟩
   ·have hr:relM n x.2 y.2 = false:=by simp [relM,d6,d8,hxy]
    rw [hr,Bool.false_and] at hh
    subst hh
    simp [d6,d8,hxy]
    refine he _ _ _ (by simp) ?_
    simp
  by_cases d7:n = 7
  ·by_cases hxy:x.2 < y.2
   ·have hr:relM n x.2 y.2 = true:=by simp [relM,d6,d8,d7,hxy]
    rw [hr,Bool.true_and] at hh
    simp [d6,d8,d7,hxy]
    simp [e3,hw2]
    exact hn (l.length - (i + 1)) _ _ (by omega) ⟨i + 1,rfl,by simp,by simp,hh⟩
   ·have hr:relM n x.2 y.2 = false:=by simp [relM,d6,d8,d7,hxy]
    rw [hr,Bool.false_and] at hh
    subst hh
    simp [d6,d8,d7,hxy]
    refine he _ _ _ (by simp) ?_
    simp
  by_cases d10:n = 10
  ·by_cases hxy:y.2 ≤ x.2
   ·have hr:relM n x.2 y.2 = true:=by simp [relM,d6,d8,d7,d10,hxy]
    rw [hr,Bool.true_and] at hh
    simp [d6,d8,d7,d10,hxy]
    simp [e3,hw2]
    exact hn (l.length - (i + 1)) _ _ (by omega) ⟨i + 1,rfl,by simp,by simp,hh⟩
   ·have hr:relM n x.2 y.2 = false:=by simp [relM,d6,d8,d7,d10,hxy]
    rw [hr,Bool.false_and] at hh
    subst hh
    simp [d6,d8,d7,d10,hxy]
    refine he _ _ _ (by simp) ?_
    simp
  by_cases hxy:x.2 ≤ y.2
  ·have hr:relM n x.2 y.2 = true:=by simp [relM,d6,d8,d7,d10,hxy]
   rw [hr,Bool.true_and] at hh
   simp [d6,d8,d7,d10,hxy]
   simp [e3,hw2]
   exact hn (l.length - (i + 1)) _ _ (by omega) ⟨i + 1,rfl,by simp,by simp,hh⟩
  ·have hr:relM n x.2 y.2 = false:=by simp [relM,d6,d8,d7,d10,hxy]
   rw [hr,Bool.false_and] at hh
   subst hh
   simp [d6,d8,d7,d10,hxy]
   refine he _ _ _ (by simp) ?_
   simp
 ·have hge:l.length ≤ i + 1:=by have:=of_decide_eq_false h; omega
  rw [Al8 hge] at hh
  subst hh
  simp
  refine he _ _ _ (by simp) ?_
  simp
def asksM (a:ArM) (n:Int) (v:Val):Bool :=
 if n = 21 then decide (v.1 = 4) else if n = 43 then decide (v.1 = 5) else if n = 45 then decide (v.1 = 1) else if n = 46 then decide (v.1 = 2) else if n = 47 then decide (v.1 = 3)
 else if n = 20 then decide ((getM a v).1.k = 1) else if n = 44 then decide ((getM a v).1.k = 3) else if n = 49 then decide ((getM a v).1.k = 2)
 else if n = 12 then decide (v = (2,0)) else if n = 11 then decide (v.2 = 0)
 else decide (v.1 = 6 ∨ (getM a v).1.k = 5 ∨ (getM a v).1.k = 6)
theorem q69 {X:Nat → Prop} {A C:Nat} {n k:Int} {l:List Val} {a:ArM} {m:Mem} (hA:Ar X A a m) (hsm:Small a) (hC:has m C (clC A n l k)) (v:Val):EH Tryz.prog ca (.func 69) [.ptr C 0,valA v] m (.sc (.bool (asksM a n v))) m:=by
 obtain ⟨hCl,w,hg⟩:=id hC
 obtain ⟨vt,vn⟩:=v
 refine Abj Tryz.func69 rfl rfl rfl rfl (args1:=[.ptr C 0,valA (vt,vn)]) (m1:=m) (by simp [fzvs]) (by simp) (by simp [Tryz.f69]) (by simp [Tryz.f69]) ?_
 simp only [Tryz.f69,show ca.keepRes 69 = false from rfl]
 have hag:AV.agg [int vt,int vn] = valA (vt,vn):=rfl
 obtain ⟨g,hgd⟩:∃ g,g = asksM a n (vt,vn):=⟨_,rfl⟩
 rw [← hgd]
 obtain ⟨x0,hx0⟩:∃ x,x = (m.new [int vt,int vn] false).newMap:=⟨_,rfl⟩
 obtain ⟨vx0,mpx0⟩:∃ v,x0.map (m.next + 1) = some ⟨[],0,v⟩:=⟨_,by rw [hx0]; simp; rfl⟩
 have ux1:=Aaw (P:=Tryz.prog) Abr Tryz.underlying3 mpx0 (ks:=[]) rfl (k:=21) rfl (int 4)
 obtain ⟨x1,hx1⟩:∃ x,x = x0.setMap (m.next + 1) ([] ++ [(.int .i64 21,int 4,0)]) (0 + 1):=⟨_,rfl⟩
 obtain ⟨vx1,mpx1⟩:∃ v,x1.map (m.next + 1) = some ⟨[(.int .i64 21,int 4,0)],1,v⟩:=⟨_,by rw [hx1]; simp; rfl⟩
 rw [← hx1] at ux1
 have ux2:=Aaw (P:=Tryz.prog) Abr Tryz.underlying3 mpx1 (ks:=[21]) rfl (k:=43) rfl (int 5)
 obtain ⟨x2,hx2⟩:∃ x,x = x1.setMap (m.next + 1) ([(.int .i64 21,int 4,0)] ++ [(.int .i64 43,int 5,1)]) (1 + 1):=⟨_,rfl⟩
 obtain ⟨vx2,mpx2⟩:∃ v,x2.map (m.next + 1) = some ⟨[(.int .i64 21,int 4,0),(.int .i64 43,int 5,1)],2,v⟩:=⟨_,by rw [hx2]; simp; rfl⟩
 rw [← hx2] at ux2
 have ux3:=Aaw (P:=Tryz.prog) Abr Tryz.underlying3 mpx2 (ks:=[21,43]) rfl (k:=45) rfl (int 1)
 obtain ⟨x3,hx3⟩:∃ x,x = x2.setMap (m.next + 1) ([(.int .i64 21,int 4,0),(.int .i64 43,int 5,1)] ++ [(.int .i64 45,int 1,2)]) (2 + 1):=⟨_,rfl⟩
 obtain ⟨vx3,mpx3⟩:∃ v,x3.map (m.next + 1) = some ⟨[(.int .i64 21,int 4,0),(.int .i64 43,int 5,1),(.int .i64 45,int 1,2)],3,v⟩:=⟨_,by rw [hx3]; simp; rfl⟩
 rw [← hx3] at ux3
 have ux4:=Aaw (P:=Tryz.prog) Abr Tryz.underlying3 mpx3 (ks:=[21,43,45]) rfl (k:=46) rfl (int 2)
 obtain ⟨x4,hx4⟩:∃ x,x = x3.setMap (m.next + 1) ([(.int .i64 21,int 4,0),(.int .i64 43,int 5,1),(.int .i64 45,int 1,2)] ++ [(.int .i64 46,int 2,3)]) (3 + 1):=⟨_,rfl⟩
 obtain ⟨vx4,mpx4⟩:∃ v,x4.map (m.next + 1) = some ⟨[(.int .i64 21,int 4,0),(.int .i64 43,int 5,1),(.int .i64 45,int 1,2),(.int .i64 46,int 2,3)],4,v⟩:=⟨_,by rw [hx4]; simp; rfl⟩
 rw [← hx4] at ux4
 have ux5:=Aaw (P:=Tryz.prog) Abr Tryz.underlying3 mpx4 (ks:=[21,43,45,46]) rfl (k:=47) rfl (int 3)
 obtain ⟨x5,hx5⟩:∃ x,x = x4.setMap (m.next + 1) ([(.int .i64 21,int 4,0),(.int .i64 43,int 5,1),(.int .i64 45,int 1,2),(.int .i64 46,int 2,3)] ++ [(.int .i64 47,int 3,4)]) (4 + 1):=⟨_,rfl⟩
 obtain ⟨vx5,mpx5⟩:∃ v,x5.map (m.next + 1) = some ⟨[(.int .i64 21,int 4,0),(.int .i64 43,int 5,1),(.int .i64 45,int 1,2),(.int .i64 46,int 2,3),(.int .i64 47,int 3,4)],5,v⟩:=⟨_,by rw [hx5]; simp; rfl⟩
 rw [← hx5] at ux5
 have gx:∀ j,x5.get j = x0.get j:=fun j => by rw [hx5,hx4,hx3,hx2,hx1]; simp
 have nx:x5.next = x0.next:=by rw [hx5,hx4,hx3,hx2,hx1]; simp
 have hlx:=Ae3 (P:=Tryz.prog) (ok:=true) Abr Tryz.underlying3 mpx5 (ks:=[21,43,45,46,47]) rfl n
 have kx:Kp m x5:=by rw [hx5,hx4,hx3,hx2,hx1,hx0]; simp
 have b5:x5.get m.next = some (.cells [int vt,int vn] false (m.clock + 1)):=by rw [gx,hx0]; simp
 have C5:=(kx.get C hCl).trans hg
 have nx5:x5.next = m.next + 2:=by rw [nx,hx0]; simp
 clear hx5 hx4 hx3 hx2 hx1 mpx0 mpx1 mpx2 mpx3 mpx4
 simp [Acr Abr]
 rw [← hx0]
 clear hx0 gx nx
 simp [ux1,ux2,ux3,ux4,ux5,C5]
 clear ux1 ux2 ux3 ux4 ux5
 by_cases d21:n = 21
 ·rw [asksM,if_pos d21] at hgd
  subst d21
  have hl':alookup Tryz.prog 119 (.mp (m.next + 1)) (int 21) true x5 = some (.tup [int 4,.sc (.bool true)]):=by rw [hlx]; rfl
  simp [hl',b5,hgd]
  exact kx
 by_cases d43:n = 43
 ·rw [asksM,if_neg d21,if_pos d43] at hgd
  subst d43
  have hl':alookup Tryz.prog 119 (.mp (m.next + 1)) (int 43) true x5 = some (.tup [int 5,.sc (.bool true)]):=by rw [hlx]; rfl
  simp [hl',b5,hgd]
  exact kx
 by_cases d45:n = 45
 ·rw [asksM,if_neg d21,if_neg d43,if_pos d45] at hgd
  subst d45
  have hl':alookup Tryz.prog 119 (.mp (m.next + 1)) (int 45) true x5 = some (.tup [int 1,.sc (.bool true)]):=by rw [hlx]; rfl
  simp [hl',b5,hgd]
  exact kx
 by_cases d46:n = 46
 ·rw [asksM,if_neg d21,if_neg d43,if_neg d45,if_pos d46] at hgd
  subst d46
  have hl':alookup Tryz.prog 119 (.mp (m.next + 1)) (int 46) true x5 = some (.tup [int 2,.sc (.bool true)]):=by rw [hlx]; rfl
  simp [hl',b5,hgd]
  exact kx
 by_cases d47:n = 47
 ·rw [asksM,if_neg d21,if_neg d43,if_neg d45,if_neg d46,if_pos d47] at hgd
  subst d47
  have hl':alookup Tryz.prog 119 (.mp (m.next + 1)) (int 47) true x5 = some (.tup [int 3,.sc (.bool true)]):=by rw [hlx]; rfl
  simp [hl',b5,hgd]
  exact kx
 have hl':alookup Tryz.prog 119 (.mp (m.next + 1)) (int n) true x5 = some (.tup [int 0,.sc (.bool false)]):=by
  have hfi:([21,43,45,46,47]:List Int).findIdx? (fun x => decide (x = n)) = none:=by
   rw [List.findIdx?_eq_none_iff]
   intro x hx
   simp at hx
   simp
   omega
  rw [hlx,hfi]
  simp [Aoz]
 obtain ⟨y0,hy0⟩:∃ x,x = x5.newMap:=⟨_,rfl⟩
 obtain ⟨vy0,mpy0⟩:∃ v,y0.map (x5.next) = some ⟨[],0,v⟩:=⟨_,by rw [hy0]; simp; rfl⟩
 have uy1:=Aaw (P:=Tryz.prog) Abr Tryz.underlying3 mpy0 (ks:=[]) rfl (k:=20) rfl (int 1)
 obtain ⟨y1,hy1⟩:∃ x,x = y0.setMap (x5.next) ([] ++ [(.int .i64 20,int 1,0)]) (0 + 1):=⟨_,rfl⟩
 obtain ⟨vy1,mpy1⟩:∃ v,y1.map (x5.next) = some ⟨[(.int .i64 20,int 1,0)],1,v⟩:=⟨_,by rw [hy1]; simp; rfl⟩
 rw [← hy1] at uy1
 have uy2:=Aaw (P:=Tryz.prog) Abr Tryz.underlying3 mpy1 (ks:=[20]) rfl (k:=44) rfl (int 3)
 obtain ⟨y2,hy2⟩:∃ x,x = y1.setMap (x5.next) ([(.int .i64 20,int 1,0)] ++ [(.int .i64 44,int 3,1)]) (1 + 1):=⟨_,rfl⟩
 obtain ⟨vy2,mpy2⟩:∃ v,y2.map (x5.next) = some ⟨[(.int .i64 20,int 1,0),(.int .i64 44,int 3,1)],2,v⟩:=⟨_,by rw [hy2]; simp; rfl⟩
 rw [← hy2] at uy2
 have uy3:=Aaw (P:=Tryz.prog) Abr Tryz.underlying3 mpy2 (ks:=[20,44]) rfl (k:=49) rfl (int 2)
 obtain ⟨y3,hy3⟩:∃ x,x = y2.setMap (x5.next) ([(.int .i64 20,int 1,0),(.int .i64 44,int 3,1)] ++ [(.int .i64 49,int 2,2)]) (2 + 1):=⟨_,rfl⟩
 obtain ⟨vy3,mpy3⟩:∃ v,y3.map (x5.next) = some ⟨[(.int .i64 20,int 1,0),(.int .i64 44,int 3,1),(.int .i64 49,int 2,2)],3,v⟩:=⟨_,by rw [hy3]; simp; rfl⟩
 rw [← hy3] at uy3
 have gy:∀ j,y3.get j = y0.get j:=fun j => by rw [hy3,hy2,hy1]; simp
 have ny:y3.next = y0.next:=by rw [hy3,hy2,hy1]; simp
 have hly:=Ae3 (P:=Tryz.prog) (ok:=true) Abr Tryz.underlying3 mpy3 (ks:=[20,44,49]) rfl n
 have ky:Kp x5 y3:=by rw [hy3,hy2,hy1,hy0]; simp
 have kxy:=kx.trans ky
 have b3:=(ky.get m.next (by omega)).trans b5
 have C3:=(ky.get C (by omega)).trans C5
 clear hy3 hy2 hy1 mpy0 mpy1 mpy2
 simp [hl',Acr Abr]
 rw [← hy0]
 clear hy0 gy ny
 simp [uy1,uy2,uy3,C3]
 clear uy1 uy2 uy3
 by_cases d20:n = 20
 ·rw [asksM,if_neg d21,if_neg d43,if_neg d45,if_neg d46,if_neg d47,if_pos d20] at hgd
  have q:=q65 (hA.kp kxy) hsm (hC.kp kxy) (vt,vn) 1
  subst d20
  have hl'':alookup Tryz.prog 119 (.mp x5.next) (int 20) true y3 = some (.tup [int 1,.sc (.bool true)]):=by rw [hly]; rfl
  simp [hl'',b3,hag,q.go,hgd]
  exact kxy
 by_cases d44:n = 44
 ·rw [asksM,if_neg d21,if_neg d43,if_neg d45,if_neg d46,if_neg d47,if_neg d20,if_pos d44] at hgd
  have q:=q65 (hA.kp kxy) hsm (hC.kp kxy) (vt,vn) 3
  subst d44
  have hl'':alookup Tryz.prog 119 (.mp x5.next) (int 44) true y3 = some (.tup [int 3,.sc (.bool true)]):=by rw [hly]; rfl
  simp [hl'',b3,hag,q.go,hgd]
  exact kxy
 by_cases d49:n = 49
 ·rw [asksM,if_neg d21,if_neg d43,if_neg d45,if_neg d46,if_neg d47,if_neg d20,if_neg d44,if_pos d49] at hgd
  have q:=q65 (hA.kp kxy) hsm (hC.kp kxy) (vt,vn) 2
  subst d49
  have hl'':alookup Tryz.prog 119 (.mp x5.next) (int 49) true y3 = some (.tup [int 2,.sc (.bool true)]):=by rw [hly]; rfl
  simp [hl'',b3,hag,q.go,hgd]
  exact kxy
 have hl'':alookup Tryz.prog 119 (.mp x5.next) (int n) true y3 = some (.tup [int 0,.sc (.bool false)]):=by
  have hfi:([20,44,49]:List Int).findIdx? (fun x => decide (x = n)) = none:=by
   rw [List.findIdx?_eq_none_iff]
   intro x hx
   simp at hx
   simp
   omega
  rw [hly,hfi]
  simp [Aoz]
 simp [hl'',C3]
 by_cases d12:n = 12
 ·rw [asksM,if_neg d21,if_neg d43,if_neg d45,if_neg d46,if_neg d47,if_neg d20,if_neg d44,if_neg d49,if_pos d12] at hgd
  simp [d12]
  refine Aax (by kernel_rfl) ?_
  simp [b3,(q67 false).go,hag,Ajb,truV]
  refine Abh (l:=[(0,1)]) (by kernel_rfl) (?_:List.all _ _ = true) ?_
  ·simp [metAtD,metOkD,rank,verKeptD,Region.wanted,Mem.ver,b3]
  simp [hgd]
  exact kxy
 by_cases d11:n = 11
 ·rw [asksM,if_neg d21,if_neg d43,if_neg d45,if_neg d46,if_neg d47,if_neg d20,if_neg d44,if_neg d49,if_neg d12,if_pos d11] at hgd
  simp [d12,d11,b3,hgd]
  exact kxy
 rw [asksM,if_neg d21,if_neg d43,if_neg d45,if_neg d46,if_neg d47,if_neg d20,if_neg d44,if_neg d49,if_neg d12,if_neg d11] at hgd
 have q5:=q65 (hA.kp kxy) hsm (hC.kp kxy) (vt,vn) 5
 have q6:=q65 (hA.kp kxy) hsm (hC.kp kxy) (vt,vn) 6
 simp [d12,d11,b3]
 by_cases h6:vt = 6
 ·simp [h6,undefV,undef,hgd]
  exact kxy
 ·by_cases h5:(getM a (vt,vn)).1.k = 5
  ·simp [h6,hag,q5.go,h5,undefV,undef,hgd,b3]
   exact kxy
  ·simp [h6,hag,q5.go,q6.go,h5,undefV,undef,hgd,b3]
   exact kxy
def putA (a:ArM) (p:Nat) (c:CeM) (i:Nat) (x:Val):ArM:=⟨a.room,a.cells.set p ⟨c.k,c.n,c.a.set i x,c.s⟩,a.names⟩
theorem Arj:∀ (l:List CeM) (xs:List AV) (p:Nat) (c d:CeM),l[p]? = some c → d.k = c.k → d.n = c.n → d.s = c.s → List.zipWith rowA (l.set p d) xs = List.zipWith rowA l xs
 | [],_,p,c,d,h,_,_,_ => by simp at h
 | b :: l,[],p,c,d,h,_,_,_ => by simp
 | b :: l,x :: xs,0,c,d,h,h1,h2,h3 => by simp at h; subst h; simp [rowA,h1,h2,h3]
 | b :: l,x :: xs,p + 1,c,d,h,h1,h2,h3 => by simpa using Arj l xs p c d (by simpa using h) h1 h2 h3
theorem Al6 {a:ArM} {p:Nat} {c:CeM} (hc:a.cells[p]? = some c):ixM a (7,(p:Int)) = some p:=by
 have:=(List.getElem?_eq_some_iff.1 hc).1
 simp [ixM,goodM,below]
 omega
theorem A3d {X:Nat → Prop} {A M:Nat} {a:ArM} {m:Mem} {t:Nat → Option Nat} {cs ns:AV} {xs:List AV} (h:ArT t A M cs ns xs a m) (hx:∀ j,t j ≠ none → X j ∧ j < m.next) {p:Nat} {c:CeM} (hc:a.cells[p]? = some c) {id:Nat} (hy:xs[p]? = some (.sl id 0 (vals c.a).length 2 true none)) (ht:t id = some (4 + p)) (hid:id < m.next) (i:Nat) (hi:i < c.a.length) (x:Val):Ar X A (putA a p c i x) (m.set id (flat (vals (c.a.set i x)))):=by
 obtain ⟨lt,ta,⟨v,get⟩,ml,tm,⟨v2,map⟩,cells,names,len,row,sane⟩:=h
 have ne:∀ j n,t j = some n → n ≠ 4 + p → j ≠ id:=by
  rintro j n hj hn rfl
  rw [ht] at hj
  cases hj
  exact hn rfl
 have keep:∀ j n,n ≠ 4 + p → j < m.next → t j = some n → (m.set id (flat (vals (c.a.set i x)))).get j = m.get j ∧ t j = some n:=fun j n hn hj hj' => ⟨by simp [ne j n hj' hn],hj'⟩
 refine ⟨t,M,cs,ns,xs,⟨by simpa using lt,ta,⟨v,?_⟩,by simpa using ml,tm,⟨v2,by simpa [putA] using map⟩,?_,?_,?_,?_,?_⟩,fun j hj => by simpa using hx j hj⟩
 ·rw [(keep A 0 (by omega) lt ta).1]; exact get
 ·show Has t 1 4 true (.emp 0) _ cs (List.zipWith rowA (a.cells.set p _) xs)
  rw [Arj a.cells xs p c ⟨c.k,c.n,c.a.set i x,c.s⟩ hc rfl rfl rfl]
  exact cells.mono (by simp) fun j => keep j _ (by omega)
 ·exact names.mono (by simp) fun j => keep j _ (by omega)
 ·simpa [putA] using len
 ·intro i' c' x' hc' hx'
  by_cases e:i' = p
  ·subst e
   rw [hy] at hx'
   cases hx'
   have hlt:=(List.getElem?_eq_some_iff.1 hc).1
   simp only [putA,List.getElem?_set_self hlt] at hc'
   cases hc'
   refine .inr ⟨fun q => ?_,id,m.clock + 1,by simp,by simpa using hid,ht,by simp⟩
   have:=congrArg List.length q
   simp at this
   rw [this] at hi
   simp at hi
  ·simp only [putA] at hc'
   rw [List.getElem?_set_ne (fun h => e h.symm)] at hc'
   exact (row i' c' x' hc' hx').mono (by simp) fun j => keep j _ (by omega)
 ·simpa [putA] using sane
section
variable {X:Nat → Prop} {A:Nat} {a:ArM} {m:Mem}
theorem q128 (hA:Ar X A a m) {p:Nat} {c:CeM} (hc:a.cells[p]? = some c) (hk:c.k = 1 ∨ c.k = 2) {i:Nat} (hi:i < c.a.length) {x:Val} (hg:goodM a x = true):wph Tryz.prog ca (.func 128) [.ptr A 0,valA (7,(p:Int)),int i,valA x] m fun v m' => v = int 0 ∧ Up X A (putA a p c i x) m m':=by
 refine Aas Tryz.func128 rfl rfl (by simp [Tryz.f128]) (by simp [Tryz.f128]) fun Q hQ => ?_
 simp only [Tryz.f128,show ca.keepRes 128 = false from rfl,show ca.keepArgs 128 = false from rfl] at hQ ⊢
 obtain ⟨M1,hM1⟩:∃ M1,M1 = (m.new [int 7,int p] false).new [int x.1,int x.2] false:=⟨_,rfl⟩
 have k1:Kp m M1:=by rw [hM1]; simp
 have n1:M1.next = m.next + 2:=by rw [hM1]; simp
 have b0:M1.get m.next = some (.cells [int 7,int p] false (m.clock + 1)):=by rw [hM1]; simp
 have b1:M1.get (m.next + 1) = some (.cells [int x.1,int x.2] false (m.clock + 2)):=by rw [hM1]; simp
 have hA1:=hA.kp k1
 have q1:=q34 hA1
 have q2:=q41 hA1 x
 rw [hg] at q2
 obtain ⟨t,M,cs,ns,xs,h,hx'⟩:=id hA1
 have q3:=q77 h hx' (7,(p:Int))
 obtain ⟨C,vc,y,rfl,hC,htC,hgC,hy,hz,hrow⟩:=h.at hc
 have c1:cellP a (.sl C 0 a.cells.length 4 true none) (7,(p:Int)) = .ptr C (p * 4):=by simp [cellP,Al6 hc,blk]
 rw [c1] at q3
 obtain ⟨f1,f2⟩:=Abq (Ahj a.cells xs) hz
 have part:∀ {k:Nat} {r:AV} (q:Nat) (w:AV),((flat (List.zipWith rowA a.cells xs)).drop (k * 4)).take 4 = r.cells → r.cells[q]? = some w → (flat (List.zipWith rowA a.cells xs))[k * 4 + q]? = some w:=by
  intro k r q w h2 h3
  have hq:q < 4:=by
   have:=(List.getElem?_eq_some_iff.1 h3).1
   rw [← h2] at this
   simp at this
   omega
  rw [← h2,List.getElem?_take_of_lt hq,List.getElem?_drop] at h3
  exact h3
 have px0:=part 0 (int c.k) f2 rfl
 have px2:=part 2 y f2 rfl
 rw [Nat.add_zero] at px0
 obtain ⟨e,_⟩ | ⟨hne,id,w,rfl,hid,htid,hgid⟩:=hrow
 ·have:=congrArg List.length e
  simp at this
  rw [this] at hi
  simp at hi
 have hb:below (i:Int) c.a.length = true:=by simp [below]; omega
 have ln:∀ (R:TypeId) (m:Mem),abuiltin Tryz.prog .len #[66] R [.sl id 0 (vals c.a).length 2 true none] m = some (int c.a.length,m):=fun R m => by rw [Abw Tryz.underlying66]; simp
 have hix:=Aaj (P:=Tryz.prog) (q:=.i64) (ag:=true) (c:=none) (id:=id) (off:=0) (len:=(vals c.a).length) (i:=i) Tryz.underlying66 Abf (by simpa using hi)
 simp only [Aav] at hix ln
 have hag:AV.agg [int 7,int p] = valA (7,(p:Int)):=rfl
 simp
 rw [← hM1]
 clear hM1
 simp [q1.go,b0,hag,q3.go]
 have up:=A3d (X:=X) h hx' hc hy htid hid i hi x
 have sp:=Ac0 c.a i x hi
 simp [splice] at sp
 have hlen:i * 2 + 2 ≤ (flat (vals c.a)).length:=by rw [Aa6 (Aa4 c.a)]; simp; omega
 have kk:KpC X m (M1.set id (flat (vals (c.a.set i x)))):=(KpC.of (.of k1)).trans ((Aap id _ M1).mono fun j e => by
  have e:j = id:=e
  subst e
  exact (hx' j (by rw [htid]; simp)).1)
 have fin:∀ (s':Sl),s'.at 8 = int 0 → Q .ret s' (M1.set id (flat (vals (c.a.set i x)))):=fun s' h8 => hQ _ _ _ (by
  rw [Aaf]
  exact ⟨[int 0],by simp [aresult,h8],by simp [oneOf]; exact ⟨X,up,kk,fun j h => .inl h⟩⟩)
 rcases hk with hk | hk
 ·simp [eq135,hgC,px0,px2,hk,undefV,undef,ln,(q75 (i:Int) c.a.length).go,hb,b1,Aaa,q2.go]
  refine Aah (by kernel_rfl) (by kernel_rfl) ?_
  simp [hgC,px2,b1,hix,hgid,sp,hlen]
  exact fin _ (by simp)
 ·simp [eq135,hgC,px0,px2,hk,undefV,undef,ln,(q75 (i:Int) c.a.length).go,hb,b1,Aaa,q2.go]
  refine Aah (by kernel_rfl) (by kernel_rfl) ?_
  simp [hgC,px2,b1,hix,hgid,sp,hlen]
  exact fin _ (by simp)
end
theorem q173 (x y:Nat) (hx:x ≤ 1152921504606846976) (hy:y ≤ 1152921504606846976):Gives Tryz.prog ca 173 [.sc (.int .u64 x),.sc (.int .u64 y)] (.tup [.sc (.int .u64 (((x * y) / 18446744073709551616:Nat):Int)),.sc (.int .u64 (((x * y) % 18446744073709551616:Nat):Int))]):=by
 have q:=q167 x y hx hy
 generalize (x * y) / 18446744073709551616 = hi at *
 generalize (x * y) % 18446744073709551616 = lo at *
 refine Aag Tryz.func173 rfl rfl rfl rfl (by simp) (by simp [Tryz.f173]) (by simp [Tryz.f173]) fun m => ?_
 simp [Tryz.f173,show ca.keepRes 173 = false from rfl,q.go]
theorem Abg (l:List Val):(flat (vals l)).length = l.length * 2:=by rw [Aa6 (Aa4 l)]; simp
theorem Abo (l r:List Val):flat (vals (l ++ r)) = flat (vals l) ++ flat (vals r):=by rw [Ab8,Acg]
theorem Ai5 (l:List Val) (c:Nat) (h:c ≤ l.length):(flat (vals l)).drop (c * 2) = flat (vals (l.drop c)):=by
 conv => lhs; rw [← List.take_append_drop c l,Abo]
 exact List.drop_left' (by rw [Abg]; simp; omega)
theorem Aje (a b d:List Val) (h:b.length ≤ d.length):splice (flat (vals (a ++ d))) (a.length * 2) (flat (vals b)) = flat (vals (a ++ b ++ d.drop b.length)):=by
 rw [splice,Abg,← Nat.add_mul,Ai5 _ _ (by simp; omega),Abo a d,List.take_left' (Abg a),Abo (a ++ b),Abo a b]
 congr 3
 rw [List.drop_append,List.drop_eq_nil_of_le (by omega),List.nil_append]
 congr 1
 omega
theorem Aja:∀ n:Nat,zeros [int 0,int 0] n = flat (vals (List.replicate n (0,0)))
 | 0 => rfl
 | n + 1 => by
  rw [List.replicate_succ,Aay,Aa2,← Aja n]
  rfl
theorem bcopy {T u R:TypeId} {d x:AV} {m:Mem}:abuiltin Tryz.prog .copy #[T,u] R [d,x] m = acopy Tryz.prog T d x m:=Ak6 (args:=[]) (ts:=#[])
theorem A3b {id off len:Nat} {cap:Option Nat} {l:Nat} (h:l ≤ len):aslice Tryz.prog 66 (.sl id off len 2 true cap) (some (int l)) none none = some (.sl id (off + l * 2) (len - l) 2 true (cap.map (· - l))):=by
 have:=Am3 (P:=Tryz.prog) (T:=66) (c:=0) (id:=id) (off:=off) (len:=len) (k:=2) (ag:=true) (cap:=cap) (lo:=some (int l)) (hi:=none) (l:=some l) (h:=none) Tryz.underlying66 Abf (Afj (n:=l)) Aea (by simpa using h) (by simp)
 simpa using this
theorem A3c {id len:Nat} {cap:Option Nat} {h:Nat} (hh:h ≤ len):aslice Tryz.prog 66 (.sl id 0 len 2 true cap) none (some (int h)) none = some (.sl id 0 h 2 true (cap.map (· - 0))):=by
 have:=Am3 (P:=Tryz.prog) (T:=66) (c:=0) (id:=id) (off:=0) (len:=len) (k:=2) (ag:=true) (cap:=cap) (lo:=none) (hi:=some (int h)) (l:=none) (h:=some h) Tryz.underlying66 Abf Aea (Afj (n:=h)) (by simp) (by simpa using hh)
 simpa using this
theorem Aj4 {m:Mem} {id k n w:Nat} {cap:Option Nat} {x:AV} {s a d:List Val} (hx:srcOf m x = some (vals s)) (hg:m.get id = some (.cells (flat (vals (a ++ d))) false w)) (hk:a.length = k) (hn:d.length = n) :
  acopy Tryz.prog 66 (.sl id (k * 2) n 2 true cap) x m = some (int (min s.length n:Nat),m.set id (flat (vals (a ++ s.take n ++ d.drop (min s.length n))))):=by
 have ht:(vals s).take (min s.length n) = vals (s.take n):=by
  rw [vals,← List.map_take,vals]
  congr 1
  rw [List.take_eq_take_iff]
  omega
 have hl:(s.take n).length = min s.length n:=by rw [List.length_take]; omega
 have hs:=Aje a (s.take n) d (by rw [hl]; omega)
 rw [hk,hl] at hs
 unfold acopy
 simp only [telem,Tryz.underlying66,Abf,hx,Aav,ht,Ali,hg,hs]
 rw [if_pos]
 ·rfl
 ·refine ⟨by omega,trivial,?_,?_⟩
  ·rw [Abg,List.length_append]; omega
  ·rw [List.all_eq_true]
   intro y hy
   obtain ⟨p,_,rfl⟩:=List.mem_map.1 hy
   simp
theorem Ajv:∀ (l:List Val) (r:List AV),chunk 2 true l.length (flat (vals l) ++ r) = vals l
 | [],r => rfl
 | v :: l,r => by
  have:=Ajv l r
  rw [Aay,Aa2,List.length_cons,chunk]
  simp [valA,this]
theorem Ayl {n:Nat} {m:Mem} (hn:n ≤ 4096):amakeSlice Tryz.prog 66 (int n) (int n) m = some (.sl m.next 0 n 2 true (some n),m.new (flat (vals (List.replicate n (0,0)))) false):=by
 unfold amakeSlice
 simp only [telem,Tryz.underlying66,Abf,Arr,Ao7,Ao6,Int.toNat_natCast]
 rw [if_pos]
 ·rw [← Aja]; rfl
 ·refine ⟨by omega,rfl,rfl,by omega,by omega,by omega,by omega⟩
theorem q136 (v:Val) (n:Nat) (hn:n ≤ 4096):Gives Tryz.prog ca 136 [.lst [valA v],int n] (.lst (vals (List.replicate n v))):=by
 refine Aag Tryz.func136 rfl rfl rfl rfl (by simp [AV.bel]) (by simp [Tryz.f136]) (by simp [Tryz.f136]) fun m => ?_
 simp only [Tryz.f136,show ca.keepRes 136 = false from rfl]
 have ln1:∀ (R:TypeId) (m:Mem),abuiltin Tryz.prog .len #[66] R [.lst [valA v]] m = some (int 1,m):=fun R m => by rw [Aat Tryz.underlying66]; rfl
 have w1:IntKind.u64.wrap 1 = 1:=IntWalk.u64_in _ (by omega)
 have w2:IntKind.u64.wrap (n:Int) = n:=IntWalk.u64_in _ (by omega)
 have w3:IntKind.i64.wrap (n:Int) = n:=IntWalk.i64_in _ (by omega)
 have q:=q173 1 n (by omega) (by omega)
 rw [Nat.one_mul,Nat.div_eq_of_lt (by omega),Nat.mod_eq_of_lt (by omega)] at q
 have q':Gives Tryz.prog ca 173 [.sc (.int .u64 1),.sc (.int .u64 n)] (.tup [.sc (.int .u64 0),.sc (.int .u64 n)]):=q
 have h1:¬ (n:Int) < 0:=by omega
 have h2:¬ (9223372036854775807:Int) < n:=by omega
 have cp:=fun {m:Mem} {w:Nat} (hg:m.get m.next = some (.cells (flat (vals ([] ++ List.replicate n ((0,0):Val)))) false w)) => 0
 clear cp
 simp [h1,ln1,w1,w2,q'.go,h2,w3,Ayl hn,undefV,undef]
 have c0:=Aj4 (m:=m.new (flat (vals (List.replicate n (0,0)))) false) (id:=m.next) (k:=0) (n:=n) (w:=m.clock + 1) (cap:=some n) (x:=.lst [valA v]) (s:=[v]) (a:=[]) (d:=List.replicate n (0,0)) rfl (by simp) rfl (by simp)
 simp only [Nat.zero_mul,List.nil_append,List.length_singleton] at c0
 rw [bcopy,c0]
 simp
 refine Ab7 (fun d s' m' => ∃ k:Nat,d = n - k ∧ (n = 0 ∨ 1 ≤ k) ∧ k ≤ n ∧ s'.at 8 = int k ∧ Kp m m' ∧ m.next < m'.next ∧ ∃ w,m'.get m.next = some (.cells (flat (vals (List.replicate k v ++ List.replicate (n - k) (0,0)))) false w)) (n - min 1 n) ⟨min 1 n,rfl,by omega,by omega,by simp,by simp,by simp,m.clock + 2,?_⟩ ?_
 ·cases n with
  | zero => simp
  | succ n => simp [Nat.min_eq_left (show 1 ≤ n + 1 by omega)]
 rintro d s' m' ⟨k,rfl,hk0,hk,e8,hkp,hlt,w,hg⟩ hsame Q' hn' he
 have e7:s'.at 7 = .sl m.next 0 n 2 true (some n):=(hsame 7 (by kernel_rfl)).trans (by simp)
 clear hsame
 have ln:∀ (R:TypeId) (m':Mem),abuiltin Tryz.prog .len #[66] R [.sl m.next 0 n 2 true (some n)] m' = some (int n,m'):=fun R m' => by rw [Abw Tryz.underlying66]
 simp [e7,e8,ln]
 refine Aad (fun h => ?_) fun h => ?_
 ·have hlt2:k < n:=by have:=of_decide_eq_true h; omega
  have s1:=A3b (id:=m.next) (off:=0) (len:=n) (cap:=some n) (l:=k) hk
  have s2:=A3c (id:=m.next) (len:=n) (cap:=some n) (h:=k) hk
  have el:srcOf m' (.sl m.next 0 k 2 true ((some n).map (· - 0))) = some (vals (List.replicate k v)):=by
   simp only [srcOf,elemsOf,hg]
   rw [if_pos ⟨by rw [Abg]; simp; omega,rfl⟩,List.drop_zero,Abo]
   have hc:=Ajv (List.replicate k v) (flat (vals (List.replicate (n - k) (0,0))))
   rw [List.length_replicate] at hc
   rw [hc]
  have c1:=Aj4 (k:=k) (n:=n - k) (cap:=(some n).map (· - k)) el hg (by simp) (by simp)
  simp only [List.length_replicate] at c1
  have wk:IntKind.i64.wrap ((k:Int) + ((min k (n - k):Nat):Int)) = ((k + min k (n - k):Nat):Int):=by rw [IntWalk.i64_in _ (by omega)]; omega
  rw [Nat.zero_add] at s1
  simp
  refine Aah (by kernel_rfl) (by kernel_rfl) ?_
  simp only [Option.map_some,Nat.sub_zero] at s1 s2 c1
  simp [e7,e8,s1,s2,bcopy,c1,wk]
  have hr:List.replicate k v ++ List.take (n - k) (List.replicate k v) ++ List.drop (min k (n - k)) (List.replicate (n - k) ((0,0):Val)) = List.replicate (k + min k (n - k)) v ++ List.replicate (n - (k + min k (n - k))) (0,0):=by
   rw [List.take_replicate,List.drop_replicate,List.replicate_append_replicate,Nat.min_comm (n - k) k]
   congr 2
   omega
  refine hn' (n - (k + min k (n - k))) _ _ (by omega) ⟨k + min k (n - k),rfl,by omega,by omega,by simp,hkp.set (Nat.le_refl _) _,by simpa using hlt,m'.clock + 1,?_⟩
  rw [← hr]
  simp
 ·have hge:k = n:=by have:=of_decide_eq_false h; omega
  subst hge
  simp
  refine he _ _ _ (by simp) ?_
  have fz:=Ady (m:=m') (id:=m.next) (k:=2) (ag:=true) (cap:=some k) (ys:=vals (List.replicate k v)) (v:=w) (f:=false) rfl (by simpa using hg) (Ab0 _) (Aa4 _)
  simp [e7]
  rw [Aav,List.length_replicate] at fz
  rw [fz]
  exact ⟨rfl,hkp.mark (Nat.le_refl _) _ _⟩
def within (n k:Int):Bool:=decide (0 ≤ n) && decide (n ≤ k)
theorem q135 (n k:Int):Gives Tryz.prog ca 135 [int n,int k] (.sc (.bool (within n k))):=by
 refine Aag Tryz.func135 rfl rfl rfl rfl (by simp) (by simp [Tryz.f135]) (by simp [Tryz.f135]) fun m => ?_
 simp [Tryz.f135,show ca.keepRes 135 = false from rfl]
 by_cases h:0 ≤ n
 ·simp [h,within]
 ·simp [h,within,undefV,undef]
theorem Aio {X:Nat → Prop} {A C:Nat} {n k kd:Int} {l la:List Val} {a:ArM} {m:Mem} (hA:Ar X A a m) (hX:∀ j,X j → j < m.next) (hXC:¬ X C) (hC:has m C (clC A n l k)) (h1:la.length < 2 ^ 21):wph Tryz.prog ca (.func 127) [.ptr C 0,.agg [int kd,int 0,.lst (vals la),.emp 0]] m fun v m' => v = valA (allocC a k ⟨kd,0,la,[]⟩).1 ∧ Cs X A C n l (allocC a k ⟨kd,0,la,[]⟩).2.1 (allocC a k ⟨kd,0,la,[]⟩).2.2 m m' :=
 Acz Tryz.func127 rfl rfl rfl (args:=[.ptr C 0,ceA ⟨kd,0,la,[]⟩]) (by simp [fzvs,fzv,fzs,fz1,ceA]) (by simp [fzvs]) (q127 hA hX hXC hC ⟨kd,0,la,[]⟩ h1 (by simp))
theorem Auq {X:Nat → Prop} {A C:Nat} {n k kd:Int} {l:List Val} {s:List UInt8} {a:ArM} {m:Mem} (hA:Ar X A a m) (hX:∀ j,X j → j < m.next) (hXC:¬ X C) (hC:has m C (clC A n l k)) (h1:s.length < 2 ^ 21):wph Tryz.prog ca (.func 127) [.ptr C 0,.agg [int kd,int 0,.emp 0,.lst (byts s)]] m fun v m' => v = valA (allocC a k ⟨kd,0,[],s⟩).1 ∧ Cs X A C n l (allocC a k ⟨kd,0,[],s⟩).2.1 (allocC a k ⟨kd,0,[],s⟩).2.2 m m' :=
 Acz Tryz.func127 rfl rfl rfl (args:=[.ptr C 0,ceA ⟨kd,0,[],s⟩]) (by simp [fzvs,fzv,fzs,fz1,ceA]) (by simp [fzvs]) (q127 hA hX hXC hC ⟨kd,0,[],s⟩ (by simp) h1)
theorem Aky (c:CeM):afield Tryz.prog 78 (ceA c) 2 = some (.lst (vals c.a)):=by
 have h1:(tfield Tryz.prog 78 2).map (fun fd => (fd.type,fd.offset)) = some (66,2):=by kernel_rfl
 obtain ⟨fd,h1,h2⟩:=Option.map_eq_some_iff.1 h1
 have h3:=congrArg Prod.fst h2
 have h4:=congrArg Prod.snd h2
 dsimp only at h3 h4
 simp only [afield,h1,ceA,h3,h4]
 rw [Afg Ayh]
 rfl
theorem Akx (c:CeM):afield Tryz.prog 78 (ceA c) 3 = some (.lst (byts c.s)):=by
 have h1:(tfield Tryz.prog 78 3).map (fun fd => (fd.type,fd.offset)) = some (76,3):=by kernel_rfl
 obtain ⟨fd,h1,h2⟩:=Option.map_eq_some_iff.1 h1
 have h3:=congrArg Prod.fst h2
 have h4:=congrArg Prod.snd h2
 dsimp only at h3 h4
 simp only [afield,h1,ceA,h3,h4]
 rw [Afg A1s]
 rfl
theorem Ar2 {a:ArM} (h:Small a) (v:Val):(getM a v).1.a.length ≤ 4096:=by
 unfold getM
 cases hi:ixM a v with
 | none => simp [zeroC]
 | some i =>
  obtain ⟨_,c,hc⟩:=Ab6 hi
  simp only [List.getD_eq_getElem?_getD,hc,Option.getD_some]
  exact (h c (List.mem_of_getElem? hc)).1
theorem kp1' {m:Mem} (cs cs':List AV) (w:Nat):Kp m ((m.new cs false).mark m.next cs' w):=(Kp.new _ _ _).mark (Nat.le_refl _) _ _
def argV (l:List Val) (i:Nat):Val:=match l[i]? with | some v => v | none => (0,0)
theorem Aui {l:List Val} {i:Nat} {x:Val} (h:l[i]? = some x):argV l i = x:=by simp [argV,h]
def fillV (l:List Val):Val:=match l[1]? with | some v => v | none => (2,0)
def vecsM (a:ArM) (n:Int) (l:List Val):Val × ArM × Int :=
 if n = 27 then (if 4096 < l.length then ((0,0),a,6) else allocC a 0 ⟨2,0,l,[]⟩)
 else if n = 28 then (if within (argV l 0).2 4096 then allocC a 0 ⟨2,0,List.replicate (argV l 0).2.toNat (fillV l),[]⟩ else ((0,0),a,6))
 else if n = 31 then ((1,((getM a (argV l 0)).1.a.length:Int)),a,0)
 else if within (argV l 1).2 ((getM a (argV l 0)).1.a.length - 1) then
  (if n = 29 then (argV (getM a (argV l 0)).1.a (argV l 1).2.toNat,a,0)
  else ((2,0),putA a (argV l 0).2.toNat (getM a (argV l 0)).1 (argV l 1).2.toNat (argV l 2),0))
 else ((0,0),a,6)
theorem q71 {X:Nat → Prop} {A C:Nat} {n:Int} {l:List Val} {a:ArM} {m:Mem} (hA:Ar X A a m) (hX:∀ j,X j → j < m.next) (hsm:Small a) (hXC:¬ X C) (hC:has m C (clC A n l 0)) (hll:l.length ≤ 4096)
  (hv0:n ≠ 27 → l[0]? = some (argV l 0)) (hv1:n = 29 ∨ n = 30 → l[1]? = some (argV l 1)) (hn:n = 27 ∨ n = 28 ∨ n = 29 ∨ n = 30 ∨ n = 31)
  (hv2:n = 30 → l[2]? = some (argV l 2) ∧ goodM a (argV l 2) = true ∧ ∃ p:Nat,argV l 0 = (7,(p:Int)) ∧ ∃ c,a.cells[p]? = some c ∧ c.k = 2):wph Tryz.prog ca (.func 71) [.ptr C 0] m fun v m' => v = valA (vecsM a n l).1 ∧ Cs X A C n l (vecsM a n l).2.1 (vecsM a n l).2.2 m m':=by
 have hCl:=hC.1
 refine Aas Tryz.func71 rfl rfl (by simp [Tryz.f71]) (by simp [Tryz.f71]) fun Q hQ => ?_
 simp only [Tryz.f71,show ca.keepRes 71 = false from rfl,show ca.keepArgs 71 = false from rfl] at hQ ⊢
 have ln:∀ (R:TypeId) (m:Mem),abuiltin Tryz.prog .len #[66] R [.lst (vals l)] m = some (int l.length,m):=fun R m => by rw [Aat Tryz.underlying66]; simp
 obtain ⟨M1,hM1⟩:∃ M1,M1 = m.new [int 0,int 0] false:=⟨_,rfl⟩
 have k1:Kp m M1:=by rw [hM1]; simp
 have n1:M1.next = m.next + 1:=by rw [hM1]; simp
 have b0:M1.get m.next = some (.cells [int 0,int 0] false (m.clock + 1)):=by rw [hM1]; simp
 have hA1:=hA.kp k1
 have hX1:∀ j,X j → j < M1.next:=fun j h => by have:=hX j h; omega
 have hC1:=hC.kp k1
 obtain ⟨_,w,gC⟩:=id hC1
 obtain ⟨_,w',gC0⟩:=id hC
 have c0:C ≠ m.next:=by omega
 obtain ⟨res,hres⟩:∃ res,res = vecsM a n l:=⟨_,rfl⟩
 rw [← hres] at hQ
 have fin:∀ (s':Sl) (m5:Mem) (v:Val),s'.at 2 = .ptr m.next 0 → (∃ w,(m5.set m.next [int v.1,int v.2]).get m.next = some (.cells [int v.1,int v.2] false w)) → res.1 = v → Cs X A C n l res.2.1 res.2.2 M1 m5 → Q .ret s' (m5.set m.next [int v.1,int v.2]):=by
  intro s' m5 v h6 ⟨w,hg⟩ hv hcs
  refine hQ _ _ _ ?_
  rw [Aaf]
  refine ⟨[valA v],by simp [aresult,h6,hg,aload,partOf,Aaa],?_⟩
  simp only [Bool.false_eq_true,if_false,oneOf,Aa5,hv]
  exact ⟨trivial,Cs.box k1 hX hCl hcs (by omega) (by omega) _⟩
 have got:∀ {m5:Mem} {a':ArM} {k':Int},Cs X A C n l a' k' M1 m5 → m5.get m.next = some (.cells [int 0,int 0] false (m.clock + 1)):=fun {m5 a' k'} hcs => by
  obtain ⟨X',_,_,kc5,_⟩:=id hcs
  exact (kc5.get m.next (by omega) (fun h => by rcases h with h | h; have:=hX _ h; omega; omega)).trans b0
 have bad:∀ {m5:Mem},KpC (fun j => j = C) M1 m5 ∧ has m5 C (clC A n l (failK 0 6)) → Cs X A C n l a 6 M1 m5:=fun {m5} h => Cs.of_c hA1 hX1 hXC h.1 h.2
 simp [gC0,c0]
 rw [← hM1]
 clear hM1
 by_cases q27:n = 27
 ·rw [vecsM,if_pos q27] at hres
  simp [q27,gC,ln]
  by_cases hz:4096 < l.length
  ·rw [if_pos hz] at hres
   have hz':(4096:Int) < l.length:=by omega
   simp [hz']
   refine Aae (q134 hC1 6) ?_
   rintro _ m5 ⟨rfl,hcs⟩
   have hcs:=bad hcs
   simp [got hcs,Aaa]
   exact fin _ _ (0,0) (by simp) ⟨_,by simp; rfl⟩ (by rw [hres]) (by rw [hres]; exact hcs)
  ·rw [if_neg hz] at hres
   have hz':¬ (4096:Int) < l.length:=by omega
   simp [hz',gC,abuild,placesOf,fillAt]
   refine Aae (Aio hA1 hX1 hXC hC1 (kd:=2) (la:=l) (by omega)) ?_
   rintro _ m5 ⟨rfl,hcs⟩
   simp [got hcs,Aaa]
   exact fin _ _ _ (by simp) ⟨_,by simp; rfl⟩ (by rw [hres]) (by rw [hres]; exact hcs)
 have v0:=hv0 q27
 have ix0:aindexAddr Tryz.prog 66 (.lst (vals l)) (int 0) = some ((valA (argV l 0)).cptr 0):=Aak (i:=0) v0
 by_cases q28:n = 28
 ·rw [vecsM,if_neg q27,if_pos q28] at hres
  simp [q27,q28,gC,ix0,(q135 _ _).go]
  cases hw:within (argV l 0).2 4096 with
  | false =>
   rw [hw,if_neg (by decide)] at hres
   simp
   refine Aae (q134 hC1 6) ?_
   rintro _ m5 ⟨rfl,hcs⟩
   have hcs:=bad hcs
   simp [got hcs,Aaa]
   exact fin _ _ (0,0) (by simp) ⟨_,by simp; rfl⟩ (by rw [hres]) (by rw [hres]; exact hcs)
  | true =>
   rw [hw,if_pos rfl] at hres
   obtain ⟨cnt,hcnt,hcl⟩:∃ cnt:Nat,(argV l 0).2 = cnt ∧ cnt ≤ 4096:=by
    simp [within] at hw
    exact ⟨(argV l 0).2.toNat,by omega,by omega⟩
   rw [hcnt,Int.toNat_natCast] at hres
   obtain ⟨M3,hM3⟩:∃ M3,M3 = (M1.new [int 0,int 0] false).set M1.next [int 2,int 0]:=⟨_,rfl⟩
   have k3:Kp M1 M3:=by rw [hM3]; simp
   have n3:M3.next = M1.next + 1:=by rw [hM3]; simp
   have b3:M3.get M1.next = some (.cells [int 2,int 0] false (M1.clock + 2)):=by rw [hM3]; simp
   have gC3:=(k3.get C (by omega)).trans gC
   have cM:C ≠ M1.next:=by omega
   simp [(q67 false).go,truV,valA,gC,cM,ln]
   rw [← hM3]
   clear hM3
   refine Aex (fun s' m' => s'.at 0 = .ptr C 0 ∧ s'.at 2 = .ptr m.next 0 ∧ s'.at 3 = .ptr M1.next 0 ∧ Kp M1 m' ∧ M1.next < m'.next ∧ ∃ w,m'.get M1.next = some (.cells [int (fillV l).1,int (fillV l).2] false w)) (fun h k' hk' => ?_) (fun h k' hk' => ?_) ?_
   ·have hlt:1 < l.length:=by have:=of_decide_eq_true h; omega
    obtain ⟨v,hv⟩:∃ v,l[1]? = some v:=⟨_,List.getElem?_eq_getElem hlt⟩
    have ix1:aindexAddr Tryz.prog 66 (.lst (vals l)) (int 1) = some ((valA v).cptr 0):=Aak (i:=1) hv
    simp [gC3,ix1,b3]
    exact hk' _ _ ⟨by simp,by simp,by simp,k3.set (Nat.le_refl _) _,by simp; omega,_,by simp [fillV,hv]; rfl⟩
   ·have hz:l[1]? = none:=List.getElem?_eq_none (by have:=of_decide_eq_false h; omega)
    simp
    exact hk' _ _ ⟨by simp,by simp,by simp,k3,by omega,_,by simp [fillV,hz]; exact b3⟩
   rintro s' m4 ⟨e0,e2,e3,k4,lt4,w4,b4⟩
   have gC4:=(k4.get C (by omega)).trans gC
   have cn4:C ≠ m4.next:=by omega
   have mn4:M1.next ≠ m4.next:=by omega
   have hfz:=Ady (m:=m4.new [int (fillV l).1,int (fillV l).2] false) (id:=m4.next) (k:=2) (ag:=true) (cap:=some 1) (ys:=vals [fillV l]) (v:=m4.clock + 1) (f:=false) rfl (by simp [vals,Aa2,Ahf]) (Ab0 _) (Aa4 _)
   rw [Aav] at hfz
   simp at hfz
   simp
   refine Aax (by kernel_rfl) ?_
   simp [e0,e3,b4,gC4,cn4,mn4,ix0,hcnt,abuildSlice,zeros,fillAt,placesOf]
   have hzs:fzvs (m4.new [int (fillV l).1,int (fillV l).2] false) [.sl m4.next 0 1 2 true (some 1),int cnt] = ([.lst [valA (fillV l)],int cnt],(m4.new [int (fillV l).1,int (fillV l).2] false).mark m4.next (flat (vals [fillV l])) (m4.clock + 1)):=by
    simp [fzvs,fzv,hfz]
    rfl
   rw [(q136 (fillV l) cnt hcl).goF hzs]
   obtain ⟨M6,hM6⟩:∃ M6,M6 = (m4.new [int (fillV l).1,int (fillV l).2] false).mark m4.next (flat (vals [fillV l])) (m4.clock + 1):=⟨_,rfl⟩
   have k6:Kp m4 M6:=by rw [hM6]; exact kp1' _ _ _
   have k16:=k4.trans k6
   have n6:M6.next = m4.next + 1:=by rw [hM6]; simp
   rw [← hM6]
   clear hM6 hzs hfz
   have gC6:=(k6.get C (by omega)).trans gC4
   simp [abuild,placesOf,fillAt]
   refine Aae (Aio (hA1.kp k16) (fun j h => by have:=hX1 j h; have:=k16.next; omega) hXC (hC1.kp k16) (kd:=2) (la:=List.replicate cnt (fillV l)) (by simp; omega)) ?_
   rintro _ m7 ⟨rfl,hcs⟩
   have hcs1:=hcs.after (.of (.of k16))
   have n7:M6.next ≤ m7.next:=by
    obtain ⟨X',_,_,kc5,_⟩:=id hcs
    exact kc5.next
   simp [got hcs1,Aaa,e2]
   refine Abh (l:=[(2,6),(2,9)]) (by kernel_rfl) (?_:List.all _ _ = true) ?_
   ·simp [metAtD,metOkD,rank,verKeptD,Region.wanted,Mem.ver,gC4,cn4,mn4,b4,e0,e3,objV]
   simp
   exact fin _ _ _ (by simp [e2]) ⟨_,by simp; rfl⟩ (by rw [hres]) (by rw [hres]; exact hcs1)
 have v0c:=q112 hA1 hsm hC1 (argV l 0)
 have lnc:∀ (R:TypeId) (m:Mem),abuiltin Tryz.prog .len #[66] R [.lst (vals (getM a (argV l 0)).1.a)] m = some (int (getM a (argV l 0)).1.a.length,m):=fun R m => by rw [Aat Tryz.underlying66]; simp
 simp [q27,q28,gC,ix0,Aaa,v0c.go,Aky]
 by_cases q31:n = 31
 ·rw [vecsM,if_neg q27,if_neg q28,if_pos q31] at hres
  simp [q31,gC,lnc,(q126 _).go,b0,Aaa]
  exact fin _ _ (1,((getM a (argV l 0)).1.a.length:Int)) (by simp) ⟨_,by simp; rfl⟩ (by rw [hres]) (by rw [hres]; exact Cs.refl hA1 hX1 hC1)
 have h2930:n = 29 ∨ n = 30:=by
  rcases hn with h | h | h | h | h
  ·exact absurd h q27
  ·exact absurd h q28
  ·exact .inl h
  ·exact .inr h
  ·exact absurd h q31
 have v1:=hv1 h2930
 have ix1:aindexAddr Tryz.prog 66 (.lst (vals l)) (int 1) = some ((valA (argV l 1)).cptr 0):=Aak (i:=1) v1
 rw [vecsM,if_neg q27,if_neg q28,if_neg q31] at hres
 have hln:=Ar2 hsm (argV l 0)
 have wl:IntKind.i64.wrap (((getM a (argV l 0)).1.a.length:Int) - 1) = ((getM a (argV l 0)).1.a.length:Int) - 1:=IntWalk.i64_in _ (by omega)
 simp [q31,gC,ix1,lnc,wl,(q135 _ _).go]
 cases hw:within (argV l 1).2 (((getM a (argV l 0)).1.a.length:Int) - 1) with
 | false =>
  rw [hw,if_neg (by decide)] at hres
  simp
  refine Aae (q134 hC1 6) ?_
  rintro _ m5 ⟨rfl,hcs⟩
  have hcs:=bad hcs
  simp [got hcs,Aaa]
  exact fin _ _ (0,0) (by simp) ⟨_,by simp; rfl⟩ (by rw [hres]) (by rw [hres]; exact hcs)
 | true =>
 rw [hw,if_pos rfl] at hres
 obtain ⟨i,hi,hil⟩:∃ i:Nat,(argV l 1).2 = i ∧ i < (getM a (argV l 0)).1.a.length:=by
  simp [within] at hw
  exact ⟨(argV l 1).2.toNat,by omega,by omega⟩
 rw [hi,Int.toNat_natCast] at hres
 simp [gC]
 by_cases q29:n = 29
 ·rw [if_pos q29] at hres
  obtain ⟨x,hx⟩:∃ x,(getM a (argV l 0)).1.a[i]? = some x:=⟨_,List.getElem?_eq_getElem hil⟩
  have ixi:aindexAddr Tryz.prog 66 (.lst (vals (getM a (argV l 0)).1.a)) (int i) = some ((valA x).cptr 0):=Aak hx
  simp [q29,hi,ixi,b0]
  exact fin _ _ x (by simp) ⟨_,by simp; rfl⟩ (by rw [hres]; exact Aui hx) (by rw [hres]; exact Cs.refl hA1 hX1 hC1)
 rw [if_neg q29] at hres
 obtain ⟨v2,hg2,p,hp,c,hc,hck⟩:=hv2 (h2930.resolve_left q29)
 have ix2:aindexAddr Tryz.prog 66 (.lst (vals l)) (int 2) = some ((valA (argV l 2)).cptr 0):=Aak (i:=2) v2
 have hgc:(getM a (argV l 0)).1 = c:=by rw [hp,getM,Al6 hc]; simp [List.getD_eq_getElem?_getD,hc]
 rw [hgc] at hil
 rw [hgc,hp] at hres
 simp only [Int.toNat_natCast] at hres
 have hag:AV.agg [int 7,int p] = valA (7,(p:Int)):=rfl
 simp [q29,hi]
 refine Aah (by kernel_rfl) (by kernel_rfl) ?_
 simp [gC,ix0,ix2,hp,hag,Aaa]
 refine Aae (q128 hA1 hc (.inr hck) hil hg2) ?_
 rintro _ m5 ⟨rfl,hup⟩
 obtain ⟨X',hA5,kc5,hX5⟩:=hup.out
 have hcs:Cs X A C n l (putA a p c i (argV l 2)) 0 M1 m5:=⟨X',hA5,hX5,kc5.mono fun j h => .inl h,hC1.kc kc5 hXC⟩
 simp [(q67 false).go,got hcs,Aaa,truV]
 exact fin _ _ (2,0) (by simp) ⟨_,by simp; rfl⟩ (by rw [hres]) (by rw [hres]; exact hcs)
theorem A19 {X:Nat → Prop} {A C:Nat} {l:List Val} {a:ArM} {m:Mem} (hA:Ar X A a m) (hX:∀ j,X j → j < m.next) (hsm:Small a) (hp:Pairs a) (hXC:¬ X C) (hC:has m C (clC A 15 l 0)) (hl:l.length ≤ 4096) {res:Val × ArM × Int} (hres:res = allocC a 0 ⟨1,0,l,[]⟩):wph Tryz.prog ca (.func 70) [.ptr C 0] m fun r m' => r = valA res.1 ∧ Cs X A C 15 l res.2.1 res.2.2 m m':=by
 have hC0:=hC
 obtain ⟨hCl,w,hg⟩:=hC
 refine Aas Tryz.func70 rfl rfl (by simp [Tryz.f70]) (by simp [Tryz.f70]) fun Q hQ => ?_
 simp only [Tryz.f70,show ca.keepRes 70 = false from rfl,show ca.keepArgs 70 = false from rfl] at hQ ⊢
 obtain ⟨M1,hM1⟩:∃ M1,M1 = (((m.new [.ptr C 0] false).new [int 0,int 0] false).new [int 0,int 0] false).set (m.next + 2) [int 4,int 0]:=⟨_,rfl⟩
 have k1:Kp m M1:=by rw [hM1]; simp
 have n1:M1.next = m.next + 3:=by rw [hM1]; simp
 have b0:M1.get m.next = some (.cells [.ptr C 0] false (m.clock + 1)):=by rw [hM1]; simp
 have b1:M1.get (m.next + 1) = some (.cells [int 0,int 0] false (m.clock + 2)):=by rw [hM1]; simp
 have b2:M1.get (m.next + 2) = some (.cells [int 4,int 0] false (m.clock + 4)):=by rw [hM1]; simp
 have bC:=(k1.get C hCl).trans hg
 have c0:C ≠ m.next:=by omega
 have c1:C ≠ m.next + 1:=by omega
 have c2:C ≠ m.next + 2:=by omega
 have hC1:=hC0.kp k1
 have hA1:=hA.kp k1
 simp [abuild,placesOf,fillAt,hg,c0,c1,c2]
 rw [← hM1]
 clear hM1
 have fin:∀ (s':Sl) (m7:Mem),s'.at 2 = .ptr (m.next + 1) 0 → (∃ w,m7.get (m.next + 1) = some (.cells [int res.1.1,int res.1.2] false w)) → Cs X A C 15 l res.2.1 res.2.2 m m7 → Q .ret s' m7:=by
  intro s' m7 h2 ⟨w,hg⟩ hcs
  refine hQ _ _ _ ?_
  rw [Aaf]
  refine ⟨[valA res.1],by simp [aresult,h2,hg,aload,partOf,Aaa],?_⟩
  simp only [Bool.false_eq_true,if_false,oneOf,Aa5]
  exact ⟨trivial,hcs⟩
 refine Aah (by kernel_rfl) (by kernel_rfl) ?_
 simp [b0,bC,abuild,placesOf,fillAt]
 refine Aae (Aio hA1 (fun j h => by have:=hX j h; omega) hXC hC1 (kd:=1) (la:=l) (by omega)) ?_
 rintro _ m5 ⟨rfl,hcs⟩
 obtain ⟨X',_,_,kc5,_⟩:=id hcs
 have e1:=(kc5.get (m.next + 1) (by omega) (fun h => by rcases h with h | h; have:=hX _ h; omega; omega)).trans b1
 simp [e1,Aaa]
 subst hres
 exact fin _ _ (by simp) ⟨_,by simp; rfl⟩ (Cs.box k1 hX hCl hcs (by omega) (by omega) _)
theorem A14 {X:Nat → Prop} {A C:Nat} {l:List Val} {a:ArM} {m:Mem} (hA:Ar X A a m) (hX:∀ j,X j → j < m.next) (hsm:Small a) (hp:Pairs a) (hXC:¬ X C) (hC:has m C (clC A 22 l 0)) (hl:l.length ≤ 4096) {res:Val × ArM × Int} (hres:res = (aheadM a 0 (4,0) l)):wph Tryz.prog ca (.func 70) [.ptr C 0] m fun r m' => r = valA res.1 ∧ Cs X A C 22 l res.2.1 res.2.2 m m':=by
 have hC0:=hC
 obtain ⟨hCl,w,hg⟩:=hC
 refine Aas Tryz.func70 rfl rfl (by simp [Tryz.f70]) (by simp [Tryz.f70]) fun Q hQ => ?_
 simp only [Tryz.f70,show ca.keepRes 70 = false from rfl,show ca.keepArgs 70 = false from rfl] at hQ ⊢
 obtain ⟨M1,hM1⟩:∃ M1,M1 = (((m.new [.ptr C 0] false).new [int 0,int 0] false).new [int 0,int 0] false).set (m.next + 2) [int 4,int 0]:=⟨_,rfl⟩
 have k1:Kp m M1:=by rw [hM1]; simp
 have n1:M1.next = m.next + 3:=by rw [hM1]; simp
 have b0:M1.get m.next = some (.cells [.ptr C 0] false (m.clock + 1)):=by rw [hM1]; simp
 have b1:M1.get (m.next + 1) = some (.cells [int 0,int 0] false (m.clock + 2)):=by rw [hM1]; simp
 have b2:M1.get (m.next + 2) = some (.cells [int 4,int 0] false (m.clock + 4)):=by rw [hM1]; simp
 have bC:=(k1.get C hCl).trans hg
 have c0:C ≠ m.next:=by omega
 have c1:C ≠ m.next + 1:=by omega
 have c2:C ≠ m.next + 2:=by omega
 have hC1:=hC0.kp k1
 have hA1:=hA.kp k1
 simp [abuild,placesOf,fillAt,hg,c0,c1,c2]
 rw [← hM1]
 clear hM1
 have fin:∀ (s':Sl) (m7:Mem),s'.at 2 = .ptr (m.next + 1) 0 → (∃ w,m7.get (m.next + 1) = some (.cells [int res.1.1,int res.1.2] false w)) → Cs X A C 22 l res.2.1 res.2.2 m m7 → Q .ret s' m7:=by
  intro s' m7 h2 ⟨w,hg⟩ hcs
  refine hQ _ _ _ ?_
  rw [Aaf]
  refine ⟨[valA res.1],by simp [aresult,h2,hg,aload,partOf,Aaa],?_⟩
  simp only [Bool.false_eq_true,if_false,oneOf,Aa5]
  exact ⟨trivial,hcs⟩
 refine Aah (by kernel_rfl) (by kernel_rfl) ?_
 simp [b0,b2,bC]
 have hag:AV.agg [int 4,int 0] = valA (4,0):=rfl
 rw [hag]
 refine Aae (q129 hA1 (fun j h => by have:=hX j h; omega) hXC hC1 l (by omega) (4,0)) ?_
 rintro _ m5 ⟨rfl,hcs⟩
 obtain ⟨X',_,_,kc5,_⟩:=id hcs
 have e1:=(kc5.get (m.next + 1) (by omega) (fun h => by rcases h with h | h; have:=hX _ h; omega; omega)).trans b1
 simp [e1,Aaa]
 subst hres
 exact fin _ _ (by simp) ⟨_,by simp; rfl⟩ (Cs.box k1 hX hCl hcs (by omega) (by omega) _)
theorem A18 {X:Nat → Prop} {A C:Nat} {l:List Val} {a:ArM} {m:Mem} (hA:Ar X A a m) (hX:∀ j,X j → j < m.next) (hsm:Small a) (hp:Pairs a) (hXC:¬ X C) (hC:has m C (clC A 16 l 0)) {v x y:Val} (hv:l[0]? = some v) (hp:(getM a v).1.a = [x,y]) {res:Val × ArM × Int} (hres:res = (x,a,0)):wph Tryz.prog ca (.func 70) [.ptr C 0] m fun r m' => r = valA res.1 ∧ Cs X A C 16 l res.2.1 res.2.2 m m':=by
 have hC0:=hC
 obtain ⟨hCl,w,hg⟩:=hC
 refine Aas Tryz.func70 rfl rfl (by simp [Tryz.f70]) (by simp [Tryz.f70]) fun Q hQ => ?_
 simp only [Tryz.f70,show ca.keepRes 70 = false from rfl,show ca.keepArgs 70 = false from rfl] at hQ ⊢
 obtain ⟨M1,hM1⟩:∃ M1,M1 = (((m.new [.ptr C 0] false).new [int 0,int 0] false).new [int 0,int 0] false).set (m.next + 2) [int 4,int 0]:=⟨_,rfl⟩
 have k1:Kp m M1:=by rw [hM1]; simp
 have n1:M1.next = m.next + 3:=by rw [hM1]; simp
 have b0:M1.get m.next = some (.cells [.ptr C 0] false (m.clock + 1)):=by rw [hM1]; simp
 have b1:M1.get (m.next + 1) = some (.cells [int 0,int 0] false (m.clock + 2)):=by rw [hM1]; simp
 have b2:M1.get (m.next + 2) = some (.cells [int 4,int 0] false (m.clock + 4)):=by rw [hM1]; simp
 have bC:=(k1.get C hCl).trans hg
 have c0:C ≠ m.next:=by omega
 have c1:C ≠ m.next + 1:=by omega
 have c2:C ≠ m.next + 2:=by omega
 have hC1:=hC0.kp k1
 have hA1:=hA.kp k1
 simp [abuild,placesOf,fillAt,hg,c0,c1,c2]
 rw [← hM1]
 clear hM1
 have fin:∀ (s':Sl) (m7:Mem),s'.at 2 = .ptr (m.next + 1) 0 → (∃ w,m7.get (m.next + 1) = some (.cells [int res.1.1,int res.1.2] false w)) → Cs X A C 16 l res.2.1 res.2.2 m m7 → Q .ret s' m7:=by
  intro s' m7 h2 ⟨w,hg⟩ hcs
  refine hQ _ _ _ ?_
  rw [Aaf]
  refine ⟨[valA res.1],by simp [aresult,h2,hg,aload,partOf,Aaa],?_⟩
  simp only [Bool.false_eq_true,if_false,oneOf,Aa5]
  exact ⟨trivial,hcs⟩
 have hix:aindexAddr Tryz.prog 66 (.lst (vals l)) (int 0) = some ((valA v).cptr 0):=Aak (i:=0) hv
 have vc:=q112 hA1 hsm hC1 v
 have hix2:aindexAddr Tryz.prog 66 (.lst (vals [x,y])) (int 0) = some ((valA x).cptr 0):=Aak (i:=0) rfl
 have w0:IntKind.i64.wrap 0 = 0:=IntWalk.i64_in 0 (by omega)
 have w1:IntKind.i64.wrap 1 = 1:=IntWalk.i64_in 1 (by omega)
 refine Aax (by kernel_rfl) ?_
 simp [b0,bC,hix,Aaa,vc.go,Aky,hp,hix2,b1,w0,w1]
 refine Abh (l:=[(7,9),(7,12)]) (by kernel_rfl) (?_:List.all _ _ = true) ?_
 ·simp [metAtD,metOkD,rank,verKeptD,Region.wanted,Mem.ver,b0,bC,b1]
 simp
 subst hres
 exact fin _ _ (by simp) ⟨_,by simp; rfl⟩ (Cs.box k1 hX hCl (Cs.refl hA1 (fun j h => by have:=hX j h; omega) hC1) (by omega) (by omega) _)
theorem A17 {X:Nat → Prop} {A C:Nat} {l:List Val} {a:ArM} {m:Mem} (hA:Ar X A a m) (hX:∀ j,X j → j < m.next) (hsm:Small a) (hp:Pairs a) (hXC:¬ X C) (hC:has m C (clC A 17 l 0)) {v x y:Val} (hv:l[0]? = some v) (hp:(getM a v).1.a = [x,y]) {res:Val × ArM × Int} (hres:res = (y,a,0)):wph Tryz.prog ca (.func 70) [.ptr C 0] m fun r m' => r = valA res.1 ∧ Cs X A C 17 l res.2.1 res.2.2 m m':=by
 have hC0:=hC
 obtain ⟨hCl,w,hg⟩:=hC
 refine Aas Tryz.func70 rfl rfl (by simp [Tryz.f70]) (by simp [Tryz.f70]) fun Q hQ => ?_
 simp only [Tryz.f70,show ca.keepRes 70 = false from rfl,show ca.keepArgs 70 = false from rfl] at hQ ⊢
 obtain ⟨M1,hM1⟩:∃ M1,M1 = (((m.new [.ptr C 0] false).new [int 0,int 0] false).new [int 0,int 0] false).set (m.next + 2) [int 4,int 0]:=⟨_,rfl⟩
 have k1:Kp m M1:=by rw [hM1]; simp
 have n1:M1.next = m.next + 3:=by rw [hM1]; simp
 have b0:M1.get m.next = some (.cells [.ptr C 0] false (m.clock + 1)):=by rw [hM1]; simp
 have b1:M1.get (m.next + 1) = some (.cells [int 0,int 0] false (m.clock + 2)):=by rw [hM1]; simp
 have b2:M1.get (m.next + 2) = some (.cells [int 4,int 0] false (m.clock + 4)):=by rw [hM1]; simp
 have bC:=(k1.get C hCl).trans hg
 have c0:C ≠ m.next:=by omega
 have c1:C ≠ m.next + 1:=by omega
 have c2:C ≠ m.next + 2:=by omega
 have hC1:=hC0.kp k1
 have hA1:=hA.kp k1
 simp [abuild,placesOf,fillAt,hg,c0,c1,c2]
 rw [← hM1]
 clear hM1
 have fin:∀ (s':Sl) (m7:Mem),s'.at 2 = .ptr (m.next + 1) 0 → (∃ w,m7.get (m.next + 1) = some (.cells [int res.1.1,int res.1.2] false w)) → Cs X A C 17 l res.2.1 res.2.2 m m7 → Q .ret s' m7:=by
  intro s' m7 h2 ⟨w,hg⟩ hcs
  refine hQ _ _ _ ?_
  rw [Aaf]
  refine ⟨[valA res.1],by simp [aresult,h2,hg,aload,partOf,Aaa],?_⟩
  simp only [Bool.false_eq_true,if_false,oneOf,Aa5]
  exact ⟨trivial,hcs⟩
 have hix:aindexAddr Tryz.prog 66 (.lst (vals l)) (int 0) = some ((valA v).cptr 0):=Aak (i:=0) hv
 have vc:=q112 hA1 hsm hC1 v
 have hix2:aindexAddr Tryz.prog 66 (.lst (vals [x,y])) (int 1) = some ((valA y).cptr 0):=Aak (i:=1) rfl
 have w0:IntKind.i64.wrap 0 = 0:=IntWalk.i64_in 0 (by omega)
 have w1:IntKind.i64.wrap 1 = 1:=IntWalk.i64_in 1 (by omega)
 refine Aax (by kernel_rfl) ?_
 simp [b0,bC,hix,Aaa,vc.go,Aky,hp,hix2,b1,w0,w1]
 refine Abh (l:=[(7,9),(7,12)]) (by kernel_rfl) (?_:List.all _ _ = true) ?_
 ·simp [metAtD,metOkD,rank,verKeptD,Region.wanted,Mem.ver,b0,bC,b1]
 simp
 subst hres
 exact fin _ _ (by simp) ⟨_,by simp; rfl⟩ (Cs.box k1 hX hCl (Cs.refl hA1 (fun j h => by have:=hX j h; omega) hC1) (by omega) (by omega) _)
theorem A16 {X:Nat → Prop} {A C:Nat} {l:List Val} {a:ArM} {m:Mem} (hA:Ar X A a m) (hX:∀ j,X j → j < m.next) (hsm:Small a) (hp:Pairs a) (hXC:¬ X C) (hC:has m C (clC A 18 l 0)) {x:Val} {p:Nat} {c:CeM} (hv:l[0]? = some (7,(p:Int))) (hx:l[1]? = some x) (hc:a.cells[p]? = some c) (hk:c.k = 1) (hl:c.a.length = 2) (hgx:goodM a x = true) {res:Val × ArM × Int} (hres:res = ((2,0),putA a p c 0 x,0)):wph Tryz.prog ca (.func 70) [.ptr C 0] m fun r m' => r = valA res.1 ∧ Cs X A C 18 l res.2.1 res.2.2 m m':=by
 have hC0:=hC
 obtain ⟨hCl,w,hg⟩:=hC
 refine Aas Tryz.func70 rfl rfl (by simp [Tryz.f70]) (by simp [Tryz.f70]) fun Q hQ => ?_
 simp only [Tryz.f70,show ca.keepRes 70 = false from rfl,show ca.keepArgs 70 = false from rfl] at hQ ⊢
 obtain ⟨M1,hM1⟩:∃ M1,M1 = (((m.new [.ptr C 0] false).new [int 0,int 0] false).new [int 0,int 0] false).set (m.next + 2) [int 4,int 0]:=⟨_,rfl⟩
 have k1:Kp m M1:=by rw [hM1]; simp
 have n1:M1.next = m.next + 3:=by rw [hM1]; simp
 have b0:M1.get m.next = some (.cells [.ptr C 0] false (m.clock + 1)):=by rw [hM1]; simp
 have b1:M1.get (m.next + 1) = some (.cells [int 0,int 0] false (m.clock + 2)):=by rw [hM1]; simp
 have b2:M1.get (m.next + 2) = some (.cells [int 4,int 0] false (m.clock + 4)):=by rw [hM1]; simp
 have bC:=(k1.get C hCl).trans hg
 have c0:C ≠ m.next:=by omega
 have c1:C ≠ m.next + 1:=by omega
 have c2:C ≠ m.next + 2:=by omega
 have hC1:=hC0.kp k1
 have hA1:=hA.kp k1
 simp [abuild,placesOf,fillAt,hg,c0,c1,c2]
 rw [← hM1]
 clear hM1
 have fin:∀ (s':Sl) (m7:Mem),s'.at 2 = .ptr (m.next + 1) 0 → (∃ w,m7.get (m.next + 1) = some (.cells [int res.1.1,int res.1.2] false w)) → Cs X A C 18 l res.2.1 res.2.2 m m7 → Q .ret s' m7:=by
  intro s' m7 h2 ⟨w,hg⟩ hcs
  refine hQ _ _ _ ?_
  rw [Aaf]
  refine ⟨[valA res.1],by simp [aresult,h2,hg,aload,partOf,Aaa],?_⟩
  simp only [Bool.false_eq_true,if_false,oneOf,Aa5]
  exact ⟨trivial,hcs⟩
 have hix:aindexAddr Tryz.prog 66 (.lst (vals l)) (int 0) = some ((valA (7,(p:Int))).cptr 0):=Aak (i:=0) hv
 have hix1:aindexAddr Tryz.prog 66 (.lst (vals l)) (int 1) = some ((valA x).cptr 0):=Aak (i:=1) hx
 refine Aah (by kernel_rfl) (by kernel_rfl) ?_
 simp [b0,bC,hix,hix1,Aaa]
 have hag:AV.agg [int 7,int p] = valA (7,(p:Int)):=rfl
 try rw [hag]
 refine Aae (q128 hA1 hc (.inl hk) (i:=0) (by omega) hgx) ?_
 rintro _ m5 ⟨rfl,hup⟩
 obtain ⟨X',hA5,kc5,hX5⟩:=hup.out
 have hcs:Cs X A C 18 l (putA a p c 0 x) 0 M1 m5:=⟨X',hA5,hX5,kc5.mono fun j h => .inl h,hC1.kc kc5 hXC⟩
 have e1:=(kc5.get (m.next + 1) (by omega) (fun h => by have:=hX _ h; omega)).trans b1
 simp [(q67 false).go,e1,Aaa,truV]
 subst hres
 exact fin _ _ (by simp) ⟨_,by simp; rfl⟩ (Cs.box k1 hX hCl hcs (by omega) (by omega) _)
theorem A15 {X:Nat → Prop} {A C:Nat} {l:List Val} {a:ArM} {m:Mem} (hA:Ar X A a m) (hX:∀ j,X j → j < m.next) (hsm:Small a) (hp:Pairs a) (hXC:¬ X C) (hC:has m C (clC A 19 l 0)) {x:Val} {p:Nat} {c:CeM} (hv:l[0]? = some (7,(p:Int))) (hx:l[1]? = some x) (hc:a.cells[p]? = some c) (hk:c.k = 1) (hl:c.a.length = 2) (hgx:goodM a x = true) {res:Val × ArM × Int} (hres:res = ((2,0),putA a p c 1 x,0)):wph Tryz.prog ca (.func 70) [.ptr C 0] m fun r m' => r = valA res.1 ∧ Cs X A C 19 l res.2.1 res.2.2 m m':=by
 have hC0:=hC
 obtain ⟨hCl,w,hg⟩:=hC
 refine Aas Tryz.func70 rfl rfl (by simp [Tryz.f70]) (by simp [Tryz.f70]) fun Q hQ => ?_
 simp only [Tryz.f70,show ca.keepRes 70 = false from rfl,show ca.keepArgs 70 = false from rfl] at hQ ⊢
 obtain ⟨M1,hM1⟩:∃ M1,M1 = (((m.new [.ptr C 0] false).new [int 0,int 0] false).new [int 0,int 0] false).set (m.next + 2) [int 4,int 0]:=⟨_,rfl⟩
 have k1:Kp m M1:=by rw [hM1]; simp
 have n1:M1.next = m.next + 3:=by rw [hM1]; simp
 have b0:M1.get m.next = some (.cells [.ptr C 0] false (m.clock + 1)):=by rw [hM1]; simp
 have b1:M1.get (m.next + 1) = some (.cells [int 0,int 0] false (m.clock + 2)):=by rw [hM1]; simp
 have b2:M1.get (m.next + 2) = some (.cells [int 4,int 0] false (m.clock + 4)):=by rw [hM1]; simp
 have bC:=(k1.get C hCl).trans hg
 have c0:C ≠ m.next:=by omega
 have c1:C ≠ m.next + 1:=by omega
 have c2:C ≠ m.next + 2:=by omega
 have hC1:=hC0.kp k1
 have hA1:=hA.kp k1
 simp [abuild,placesOf,fillAt,hg,c0,c1,c2]
 rw [← hM1]
 clear hM1
 have fin:∀ (s':Sl) (m7:Mem),s'.at 2 = .ptr (m.next + 1) 0 → (∃ w,m7.get (m.next + 1) = some (.cells [int res.1.1,int res.1.2] false w)) → Cs X A C 19 l res.2.1 res.2.2 m m7 → Q .ret s' m7:=by
  intro s' m7 h2 ⟨w,hg⟩ hcs
  refine hQ _ _ _ ?_
  rw [Aaf]
  refine ⟨[valA res.1],by simp [aresult,h2,hg,aload,partOf,Aaa],?_⟩
  simp only [Bool.false_eq_true,if_false,oneOf,Aa5]
  exact ⟨trivial,hcs⟩
 have hix:aindexAddr Tryz.prog 66 (.lst (vals l)) (int 0) = some ((valA (7,(p:Int))).cptr 0):=Aak (i:=0) hv
 have hix1:aindexAddr Tryz.prog 66 (.lst (vals l)) (int 1) = some ((valA x).cptr 0):=Aak (i:=1) hx
 refine Aah (by kernel_rfl) (by kernel_rfl) ?_
 simp [b0,bC,hix,hix1,Aaa]
 have hag:AV.agg [int 7,int p] = valA (7,(p:Int)):=rfl
 try rw [hag]
 refine Aae (q128 hA1 hc (.inl hk) (i:=1) (by omega) hgx) ?_
 rintro _ m5 ⟨rfl,hup⟩
 obtain ⟨X',hA5,kc5,hX5⟩:=hup.out
 have hcs:Cs X A C 19 l (putA a p c 1 x) 0 M1 m5:=⟨X',hA5,hX5,kc5.mono fun j h => .inl h,hC1.kc kc5 hXC⟩
 have e1:=(kc5.get (m.next + 1) (by omega) (fun h => by have:=hX _ h; omega)).trans b1
 simp [(q67 false).go,e1,Aaa,truV]
 subst hres
 exact fin _ _ (by simp) ⟨_,by simp; rfl⟩ (Cs.box k1 hX hCl hcs (by omega) (by omega) _)
end Go.Proofs.YtnhcmcfgemoehaaGreat
namespace Go.V
variable {P:Program}
theorem Amy {a b:ByteArray} (h:a.data.toList = b.data.toList):a = b:=by
 obtain ⟨⟨a⟩⟩:=a
 obtain ⟨⟨b⟩⟩:=b
 simp at h
 rw [h]
theorem Ak7 {t:TypeId} {x y:Operand} {a b:List UInt8} (h:a.length + b.length < 2 ^ 62):abin P .add t x y (.sc (.string ⟨⟨a⟩⟩)) (.sc (.string ⟨⟨b⟩⟩)) = some (.sc (.string ⟨⟨a ++ b⟩⟩)):=by
 have e:abin P .add t x y (.sc (.string ⟨⟨a⟩⟩)) (.sc (.string ⟨⟨b⟩⟩)) = some (.sc (.string ((⟨⟨a⟩⟩:ByteArray) ++ ⟨⟨b⟩⟩))):=by
  simp only [abin,plain,eqGuard,binOp]
  simp
  unfold Op.stringOp
  have hs:((⟨⟨a⟩⟩:ByteArray).size + (⟨⟨b⟩⟩:ByteArray).size) = a.length + b.length:=rfl
  have hm:IntKind.i64.max = 9223372036854775807:=rfl
  dsimp only
  rw [hs,hm,if_neg (by omega)]
  rfl
 rw [e]
 congr 3
theorem Age {i n:Nat} {code:BoundsCode} (h:i ≤ n):pureRun P (Instr.sliceBound (.int .i64 i) n code) = some i:=by
 unfold Instr.sliceBound
 rw [Aai]
 have:pureRun P (asIntOf (.int .i64 (i:Int))) = some (.i64,(i:Int)):=rfl
 rw [this]
 simp only [Option.bind_some]
 have h1:(0:Int) ≤ i ∧ (i:Int) ≤ n:=⟨by omega,by omega⟩
 simp [h1,Abk]
theorem Ajy {T:TypeId} (hT:P.underlying T = some .string) {l:List UInt8} {i j:Nat} (h1:i ≤ j) (h2:j ≤ l.length):aslice P T (.sc (.string ⟨⟨l⟩⟩)) (some (.sc (.int .i64 i))) (some (.sc (.int .i64 j))) none = some (.sc (.string ⟨⟨(l.take j).drop i⟩⟩)):=by
 have hs:(⟨⟨l⟩⟩:ByteArray).size = l.length:=rfl
 have e:pureRun P (Instr.sliceAt T (.string ⟨⟨l⟩⟩) (some (.int .i64 i)) (some (.int .i64 j)) none) = some (.string ((⟨⟨l⟩⟩:ByteArray).extract i j)):=by
  unfold Instr.sliceAt
  rw [Aai,Aal hT]
  simp only [Option.bind_some]
  unfold Instr.slice
  rw [Aai,Aal hT]
  simp only [Option.bind_some,Option.isSome_none,Bool.false_eq_true,if_false]
  simp only [Instr.sliceBounds,Aai,Abk,Option.bind_some,hs,Age h2,Age h1]
 show Option.map AV.sc (pureRun P (Instr.sliceAt T (.string ⟨⟨l⟩⟩) (some (.int .i64 i)) (some (.int .i64 j)) none)) = _
 rw [e]
 simp only [Option.map_some]
 congr 3
 apply Amy
 simp
 rw [List.drop_take]
theorem Aol {T:TypeId} (hT:P.underlying T = some .string) {l:List UInt8} {i:Nat} (h1:i ≤ l.length):aslice P T (.sc (.string ⟨⟨l⟩⟩)) (some (.sc (.int .i64 i))) none none = some (.sc (.string ⟨⟨l.drop i⟩⟩)):=by
 have hs:(⟨⟨l⟩⟩:ByteArray).size = l.length:=rfl
 have e:pureRun P (Instr.sliceAt T (.string ⟨⟨l⟩⟩) (some (.int .i64 i)) none none) = some (.string ((⟨⟨l⟩⟩:ByteArray).extract i l.length)):=by
  unfold Instr.sliceAt
  rw [Aai,Aal hT]
  simp only [Option.bind_some]
  unfold Instr.slice
  rw [Aai,Aal hT]
  simp only [Option.bind_some,Option.isSome_none,Bool.false_eq_true,if_false]
  simp only [Instr.sliceBounds,Aai,Abk,Option.bind_some,hs,Age h1]
 show Option.map AV.sc (pureRun P (Instr.sliceAt T (.string ⟨⟨l⟩⟩) (some (.int .i64 i)) none none)) = _
 rw [e]
 simp only [Option.map_some]
 congr 3
 apply Amy
 simp
 exact List.take_of_length_le (by simp)
end Go.V
