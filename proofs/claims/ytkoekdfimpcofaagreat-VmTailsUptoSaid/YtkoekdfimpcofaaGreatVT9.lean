/- Part of a proof. -/
import Derived.Test.YtkoekdfimpcofaaGreatVT8
set_option maxHeartbeats 64000000
set_option linter.unusedSimpArgs false
set_option linter.unusedVariables false
set_option linter.unusedSectionVars false
namespace Go.Proofs.YtkoekdfimpcofaaGreat
set_option maxRecDepth 8000
open Go.V
attribute [local simp] Nat.add_assoc
theorem Chg.none {R:Nat → Prop} {t t':Ro} {m m':Mem} (c:Chg R t t' m m') {j:Nat} (h:t j = none) (hj:j < m.next):t' j = none:=by
 cases e:t' j with
 | none => rfl
 | some r =>
  by_cases hr:R r
  ·rcases c.new j r e hr with ⟨r',a,_⟩ | a
   ·rw [h] at a; cases a
   ·omega
  ·have:=(c.same j r hr).1 e
   rw [h] at this; cases this
def mapF (g:Bool) (w:Nat):AMap:=if g then ⟨[(.string ⟨⟨nmF⟩⟩,valA clV,0)],1,w⟩ else ⟨[],0,w⟩
structure Beside (m0:Mem) (t:Ro) (T G B:Nat) (g:Bool) (m:Mem):Prop where
 lo:Lo m0 t
 kp:Kp m0 m
 tG:t G = none
 tB:t B = none
 bG:m0.next ≤ G ∧ G < m.next
 bB:m0.next ≤ B ∧ B < m.next
 gB:∃ w,m.get B = some (.cells [.ptr T 0,nilA,.mp G,nilA] false w)
 mG:∃ w,m.map G = some (mapF g w)
section
variable {m0 m m':Mem} {t t':Ro} {T P A G B:Nat} {g:Bool} {K:Int} {i:Nat}
theorem ResI.gone {pr:PrM} {p:PgM} {s2:MaM} {nm:List UInt8} {l:List Val} (h:ResI t T P A pr p s2 m m') (h2:s2.status ≠ 2):ResQ t T P A pr p s2 (fun q' => s2.status = 2 → q'.nm = nm ∧ q'.n = 0 ∧ q'.args = .lst (vals l)) m m':=by
 obtain ⟨t',now',q',a,b,c⟩:=h
 exact ⟨t',now',q',a,b,c,fun e => absurd e h2⟩
theorem Ay6 {X:Mem} {w:Nat} {nm:List UInt8} (h:X.map G = some (mapF g w)):alookup Tryz.prog 40 (.mp G) (.sc (.string ⟨⟨nm⟩⟩)) true X = some (.tup [valA (if g = true ∧ nm = nmF then clV else (0,0)),.sc (.bool (decide (g = true ∧ nm = nmF)))]):=by
 cases g with
 | false =>
  rw [Aeh (P:=Tryz.prog) Anh Tryz.underlying9 h (ks:=[]) rfl]
  simp [valA]
 | true =>
  rw [Aeh (P:=Tryz.prog) Anh Tryz.underlying9 h (ks:=[nmF]) rfl]
  by_cases e:nm = nmF
  ·subst e
   simp [mapF,valA]
  ·have e':¬ nmF = nm:=fun h => e h.symm
   simp [valA,e,e',List.findIdx?_cons]
theorem Beside.kp' (h:Beside m0 t T G B g m) (k:Kp m m'):Beside m0 t T G B g m':=by
 obtain ⟨lo,kp,tG,tB,bG,bB,⟨w,gB⟩,⟨v,mG⟩⟩:=h
 exact ⟨lo,kp.trans k,tG,tB,⟨bG.1,Nat.lt_of_lt_of_le bG.2 k.next⟩,⟨bB.1,Nat.lt_of_lt_of_le bB.2 k.next⟩,⟨w,(k.get B bB.2).trans gB⟩,⟨v,(k.3 G bG.2).2.trans mG⟩⟩
theorem Beside.chg {R:Nat → Prop} (h:Beside m0 t T G B g m) (c:Chg R t t' m m'):Beside m0 t' T G B g m':=by
 obtain ⟨lo,kp,tG,tB,bG,bB,⟨w,gB⟩,⟨v,mG⟩⟩:=h
 have nG:¬ ∃ r,t G = some r ∧ R r:=fun ⟨r,e,_⟩ => by rw [tG] at e; cases e
 have nB:¬ ∃ r,t B = some r ∧ R r:=fun ⟨r,e,_⟩ => by rw [tB] at e; cases e
 exact ⟨c.lo lo kp.next,c.kp0 lo kp,c.none tG bG.2,c.none tB bB.2,⟨bG.1,Nat.lt_of_lt_of_le bG.2 c.kc.next⟩,⟨bB.1,Nat.lt_of_lt_of_le bB.2 c.kc.next⟩,⟨w,(c.kc.get B bB.2 nB).trans gB⟩,⟨v,(c.kc.x G bG.2 nG).2.trans mG⟩⟩
def InvT (K:Int) (T P A G B:Nat) (m0:Mem) (i:Nat) (m:Mem):Prop:=∃ t now q s nm l g,Ph K i s nm l g ∧ TkA t T P A (tailP K) (pgT K) s now q m ∧ ChA t m s.frames now ∧ (s.status = 2 → q.nm = nm ∧ q.n = 0 ∧ q.args = .lst (vals l)) ∧ Beside m0 t T G B g m
theorem Aq4 {s2:MaM} {nm:List UInt8} {l:List Val} (h:Beside m0 t T G B g m) (ph:Ph K i s2 nm l g) (r:ResQ t T P A (tailP K) (pgT K) s2 (fun q' => s2.status = 2 → q'.nm = nm ∧ q'.n = 0 ∧ q'.args = .lst (vals l)) m m'):InvT K T P A G B m0 i m':=by
 obtain ⟨t',now',q',a,b,c,d⟩:=r
 exact ⟨t',now',q',s2,nm,l,g,ph,a,b,d,h.chg c⟩
theorem Beside.put (h:Beside m0 t T G B false m) (bd:∀ j,t j ≠ none → j < m.next):∃ m',amapUpdate Tryz.prog 40 (.mp G) (.sc (.string ⟨⟨nmF⟩⟩)) (valA clV) m = some m' ∧ Beside m0 t T G B true m' ∧ Kt (fun _ => False) t t m m' ∧ m'.next = m.next ∧ ∀ j,m'.get j = m.get j:=by
 obtain ⟨lo,kp,tG,tB,bG,bB,⟨w,gB⟩,⟨v,mG⟩⟩:=h
 have u:=Ad4 (P:=Tryz.prog) Anh Tryz.underlying9 mG (ks:=[]) rfl (k:=nmF) rfl (valA clV)
 refine ⟨_,u,⟨lo,?_,tG,tB,⟨bG.1,by simpa using bG.2⟩,⟨bB.1,by simpa using bB.2⟩,⟨w,by simpa using gB⟩,⟨_,by simp [mapF]; rfl⟩⟩,⟨?_,fun _ _ _ => Iff.rfl,fun j hj => by simpa using bd j hj⟩,by simp,fun j => by simp⟩
 ·refine ⟨by simpa using kp.next,fun id hi => by simpa using kp.get id hi,fun id hi => ?_⟩
  have:id ≠ G:=by omega
  simpa [this] using kp.3 id hi
 ·refine ⟨by simp,fun id _ _ => by simp,fun id _ hn => ?_⟩
  have:id ≠ G:=by
   rintro rfl
   exact hn fun r e => by rw [tG] at e; cases e
  simp [this]
end
abbrev insB (a b:Int):AV:=.agg [int a,int b,int 0]
theorem bs31 (k:Int) (m:Mem):abuildSlice Tryz.prog 31 2 [(0,.agg [int 1,int k,strS [],.emp 0,.emp 0,.emp 0]),(1,.agg [int 1,int 1,strS [],.emp 0,.emp 0,.emp 0])] m = some (.sl m.next 0 2 6 true (some 2),m.new [int 1,int k,strS [],.lst [],.lst [],.lst [],int 1,int 1,strS [],.lst [],.lst [],.lst []] false):=by
 simp [abuildSlice,fillAt,zeros,zeroCells,Aqc]
theorem bs32 (m:Mem):abuildSlice Tryz.prog 32 3 [(0,strS nmZ),(1,strS nmM),(2,strS nmF)] m = some (.sl m.next 0 3 1 false (some 3),m.new [strS nmZ,strS nmM,strS nmF] false):=by
 simp [abuildSlice,fillAt,zeros,Aqb]
theorem bs76a (m:Mem):abuildSlice Tryz.prog 76 6 [(0,insB 12 1),(1,insB 9 2),(2,insB 16 0),(3,insB 4 2),(4,insB 1 0),(5,insB 14 1)] m = some (.sl m.next 0 6 3 true (some 6),m.new [int 12,int 1,int 0,int 9,int 2,int 0,int 16,int 0,int 0,int 4,int 2,int 0,int 1,int 0,int 0,int 14,int 1,int 0] false):=by
 simp [abuildSlice,fillAt,zeros,Al1]
theorem bs76b (m:Mem):abuildSlice Tryz.prog 76 12 [(0,insB 4 0),(1,insB 2 0),(2,insB 13 1),(3,insB 11 6),(4,insB 2 0),(5,insB 15 0),(6,insB 4 2),(7,insB 4 1),(8,insB 2 0),(9,insB 1 1),(10,insB 13 2),(11,insB 14 1)] m = some (.sl m.next 0 12 3 true (some 12),m.new [int 4,int 0,int 0,int 2,int 0,int 0,int 13,int 1,int 0,int 11,int 6,int 0,int 2,int 0,int 0,int 15,int 0,int 0,int 4,int 2,int 0,int 4,int 1,int 0,int 2,int 0,int 0,int 1,int 1,int 0,int 13,int 2,int 0,int 14,int 1,int 0] false):=by
 simp [abuildSlice,fillAt,zeros,Al1]
abbrev cellsA:List AV:=[int 12,int 1,int 0,int 9,int 2,int 0,int 16,int 0,int 0,int 4,int 2,int 0,int 1,int 0,int 0,int 14,int 1,int 0]
abbrev cellsB:List AV:=[int 4,int 0,int 0,int 2,int 0,int 0,int 13,int 1,int 0,int 11,int 6,int 0,int 2,int 0,int 0,int 15,int 0,int 0,int 4,int 2,int 0,int 4,int 1,int 0,int 2,int 0,int 0,int 1,int 1,int 0,int 13,int 2,int 0,int 14,int 1,int 0]
theorem bs30 {M:Mem} {i1 i2 w1 w2:Nat} (h1:M.get i1 = some (.cells cellsA false w1)) (h2:M.get i2 = some (.cells cellsB false w2)) (hn:i1 ≠ i2):abuildSlice Tryz.prog 30 2 [(0,.agg [int 0,int 0,int 0,int 2,.sl i1 0 6 3 true (some 6)]),(1,.agg [int 1,int 0,int 0,int 4,.sl i2 0 12 3 true (some 12)])] M =
  some (.sl M.next 0 2 5 true (some 2),((M.mark i1 cellsA w1).mark i2 cellsB w2).new [int 0,int 0,int 0,int 2,.lst (inss [(12,1,0),(9,2,0),(16,0,0),(4,2,0),(1,0,0),(14,1,0)]),int 1,int 0,int 0,int 4,.lst (inss [(4,0,0),(2,0,0),(13,1,0),(11,6,0),(2,0,0),(15,0,0),(4,2,0),(4,1,0),(2,0,0),(1,1,0),(13,2,0),(14,1,0)])] false):=by
 simp [abuildSlice,fillAt,zeros,Aqd,fzvs,fzv,fzs,fz1,h1,h2,Ne.symm hn,chunk]
 rfl
theorem u6 {n:Int} (h:0 ≤ n ∧ n < 600):Gives Tryz.prog ca 6 [int n] (prgA (tailP (n + 2))):=by
 have hw:IntKind.i64.wrap (n + 2) = n + 2:=IntWalk.i64_in _ (by omega)
 have b2:∀ x y:Int,abuild Tryz.prog 75 [(0,int x),(1,int y)] = some (insB x y):=fun x y => by simp [abuild,placesOf,fillAt]
 have b1:∀ x:Int,abuild Tryz.prog 75 [(0,int x)] = some (insB x 0):=fun x => by simp [abuild,placesOf,fillAt]
 have d2:∀ x y:Int,abuild Tryz.prog 71 [(0,int x),(1,int y)] = some (.agg [int x,int y,strS [],.emp 0,.emp 0,.emp 0]):=fun x y => by simp [abuild,placesOf,fillAt,zeroCells]
 have e2:∀ (x:Int) (y:AV),y.cells = [y] → y.okc = true → abuild Tryz.prog 78 [(3,int x),(4,y)] = some (.agg [int 0,int 0,int 0,int x,y]):=fun x y h1 h2 => by simp [abuild,placesOf,fillAt,h1,h2]
 have e3:∀ (z x:Int) (y:AV),y.cells = [y] → y.okc = true → abuild Tryz.prog 78 [(0,int z),(3,int x),(4,y)] = some (.agg [int z,int 0,int 0,int x,y]):=fun z x y h1 h2 => by simp [abuild,placesOf,fillAt,h1,h2]
 refine Aae Tryz.func6 rfl rfl rfl rfl (by simp) (by simp [Tryz.f6]) (by simp [Tryz.f6]) fun m => ?_
 simp only [Tryz.f6,show ca.keepRes 6 = false from rfl]
 simp [hw,b2,b1,d2,bs31,bs32,bs76a,bs76b,e2,e3]
 obtain ⟨M,hM⟩:∃ M,M = ((((m.new [.emp 0,.emp 0,.emp 0] false).new [int 1,int (n + 2),strS [],.lst [],.lst [],.lst [],int 1,int 1,strS [],.lst [],.lst [],.lst []] false).new [strS nmZ,strS nmM,strS nmF] false).new cellsA false).new cellsB false:=⟨_,rfl⟩
 have kM:Kp m M:=by rw [hM]; exact ((((Kp.new m _ _).newr _ _).newr _ _).newr _ _).newr _ _
 have nM:M.next = m.next + 5:=by rw [hM]; simp
 have g0:M.get m.next = some (.cells [.emp 0,.emp 0,.emp 0] false (m.clock + 1)):=by rw [hM]; simp
 have g1:M.get (m.next + 1) = some (.cells [int 1,int (n + 2),strS [],.lst [],.lst [],.lst [],int 1,int 1,strS [],.lst [],.lst [],.lst []] false (m.clock + 2)):=by rw [hM]; simp
 have g2:M.get (m.next + 2) = some (.cells [strS nmZ,strS nmM,strS nmF] false (m.clock + 3)):=by rw [hM]; simp
 have g3:M.get (m.next + 3) = some (.cells cellsA false (m.clock + 4)):=by rw [hM]; simp
 have g4:M.get (m.next + 4) = some (.cells cellsB false (m.clock + 5)):=by rw [hM]; simp
 have b30:=bs30 g3 g4 (by omega)
 rw [← hM,b30]
 clear hM b30
 obtain ⟨X,hX⟩:∃ X,X = (M.mark (m.next + 3) cellsA (m.clock + 4)).mark (m.next + 4) cellsB (m.clock + 5):=⟨_,rfl⟩
 rw [← hX]
 have kX:Kp m X:=by rw [hX]; exact (kM.mark (by omega) _ _).mark (by omega) _ _
 have nX:X.next = m.next + 5:=by rw [hX]; simp [nM]
 have x0:X.get m.next = some (.cells [.emp 0,.emp 0,.emp 0] false (m.clock + 1)):=by rw [hX]; simp [g0]
 have x1:X.get (m.next + 1) = some (.cells [int 1,int (n + 2),strS [],.lst [],.lst [],.lst [],int 1,int 1,strS [],.lst [],.lst [],.lst []] false (m.clock + 2)):=by rw [hX]; simp [g1]
 have x2:X.get (m.next + 2) = some (.cells [strS nmZ,strS nmM,strS nmF] false (m.clock + 3)):=by rw [hX]; simp [g2]
 clear hX g0 g1 g2 g3 g4
 have hb34:∀ x y z:AV,x.cells = [x] → x.okc = true → y.cells = [y] → y.okc = true → z.cells = [z] → z.okc = true → abuild Tryz.prog 34 [(1,x),(2,y),(0,z)] = some (.agg [z,x,y]):=fun x y z h1 h2 h3 h4 h5 h6 => by simp [abuild,placesOf,fillAt,h1,h2,h3,h4,h5,h6]
 have a0:m.next ≠ X.next:=by omega
 simp [hb34,x0,a0,nX]
 have c1:¬ m.next + 5 = m.next:=by omega
 simp [fz1,nM,nX,x1,x2,chunk]
 exact ⟨rfl,kX⟩
theorem law3 (n:Int) (hn:0 ≤ n ∧ n < 65536):Gives Tryz.prog ca 3 [.sc (.int .u16 n)] (.sc (.bool true)):=by
 refine Aae Tryz.func3 rfl rfl rfl rfl (by simp) (by simp [Tryz.f3]) (by simp [Tryz.f3]) fun m => ?_
 simp only [Tryz.f3,show ca.keepRes 3 = false from rfl]
 obtain ⟨N,hN⟩:∃ N,N = n.tmod 600:=⟨_,rfl⟩
 have hN0:0 ≤ N ∧ N < 600:=by rw [hN,Int.tmod_eq_emod_of_nonneg hn.1]; omega
 have wN:IntKind.i64.wrap N = N:=IntWalk.i64_in _ (by omega)
 obtain ⟨K,hK⟩:∃ K,K = N + 2:=⟨_,rfl⟩
 have hK2:2 ≤ K ∧ K ≤ 601:=by omega
 obtain ⟨tA,M1,qA,k1,arA,loA,bdA,nA⟩:=newAr m
 have q6:=u6 hN0
 rw [← hK] at q6
 simp [qA.go,Aob,← hN,wN,q6.go]
 have sm0:Small ar0:=fun c hc => by simp [ar0] at hc
 refine Aad (w7 arA bdA sm0 (An1 hK2)) ?_
 rintro v m2 ⟨t2,c2,hv⟩
 have hcv:=Amv hK2
 rw [if_neg (by simp [An4 hK2]),if_neg (by rw [show (⟨100,[],[]⟩:ArM) = ar0 from rfl,hcv]; simp)] at hv
 obtain ⟨P,rfl,pb⟩:=hv
 rw [show (⟨100,[],[]⟩:ArM) = ar0 from rfl,hcv] at pb
 have lo2:Lo m t2:=c2.lo loA (by omega)
 have kp2:=c2.kp0 loA k1
 simp [(c4 _).go,ptr34]
 refine Aad (w8 pb) ?_
 rintro _ m3 ⟨T,F,t3,q3,rfl,tk3,ch3,c3⟩
 have lo3:Lo m t3:=c3.lo lo2 kp2.next
 have kp3:=c3.kp0 lo2 kp2
 have hb43:∀ x y:AV,x.cells = [x] → x.okc = true → y.cells = [y] → y.okc = true → abuild Tryz.prog 43 [(0,x),(2,y)] = some (.agg [x,nilA,y,nilA]):=fun x y h1 h2 h3 h4 => by simp [abuild,placesOf,fillAt,h1,h2,h3,h4]
 have wN4:IntKind.i64.wrap (N + 4) = N + 4:=IntWalk.i64_in _ (by omega)
 have wL:IntKind.i64.wrap (20 * (N + 4)) = 20 * (N + 4):=IntWalk.i64_in _ (by omega)
 simp [Abv Anh,hb43,Aob,← hN,wN,wN4,Aoc,wL]
 obtain ⟨G,hG⟩:∃ G,G = m3.next:=⟨_,rfl⟩
 obtain ⟨B,hB⟩:∃ B,B = m3.next + 1:=⟨_,rfl⟩
 obtain ⟨M5,hM5⟩:∃ M5,M5 = m3.newMap.new [.ptr T 0,nilA,.mp m3.next,nilA] false:=⟨_,rfl⟩
 have k5:Kp m3 M5:=by rw [hM5]; simp
 have bs5:Beside m t3 T G B false M5:=by
  have tn:∀ j,m3.next ≤ j → t3 j = none:=fun j hj => by
   cases e:t3 j with
   | none => rfl
   | some r => have:=tk3.b.bd j (by rw [e]; simp); omega
  have:=kp3.next
  refine ⟨lo3,kp3.trans k5,tn G (by omega),tn B (by omega),⟨by omega,by rw [hM5]; simp; omega⟩,⟨by omega,by rw [hM5]; simp; omega⟩,⟨_,by rw [hM5,hB,hG]; simp; rfl⟩,⟨_,by rw [hM5,hG]; simp [mapF]; rfl⟩⟩
 have c5:Chg (fun _ => False) t3 t3 m3 M5:=Chg.refl tk3.b.bd k5
 have tk5:=tk3.keep c5.kt (by simp) (by simp) (by simp) (by simp)
 have ch5:=ChA.keep c5.kt _ _ (by simp) ch3
 have inv0:InvT K T P (m.next + 1) G B m 0 M5:=⟨t3,.ptr F 0,q3,s0 ar0,[],[],false,.m0 0 (by omega),tk5,ch5,fun h => by simp [s0] at h,bs5⟩
 obtain ⟨L,hL⟩:∃ L:Nat,(L:Int) = 20 * (N + 4):=⟨(20 * (N + 4)).toNat,by omega⟩
 rw [← hM5,← hB,← hL]
 clear hM5
 refine Aas 56 L (fun i s' m' => InvT K T P (m.next + 1) G B m i m') (by simp) (by omega) inv0 ?_
 rintro i s' m' hi e56 ⟨t,now,q,s,nm,l,g,ph,tk,ch,hq,bs⟩ hsame hw Q' hn he
 have e7:s'.at 7 = .ptr T 0:=(hsame 7 (by kernel_rfl)).trans (by simp)
 have e8:s'.at 8 = .ptr B 0:=(hsame 8 (by kernel_rfl)).trans (by simp)
 have e55:s'.at 55 = int L:=(hsame 55 (by kernel_rfl)).trans (by simp)
 clear hsame
 obtain ⟨hst,hsteps,hop,hdeep⟩:=ph_st ph
 by_cases hlt:i < L
 ·have nd:¬ 2 < (atM s).2.2:=by omega
  simp [e56,e55,hlt,e7,(w12 tk.tk ch (fun h => (hop h).1)).go,nd]
  have bd:=tk.b.bd
  by_cases h2:s.status = 2
  ·obtain ⟨d1,d2,d3⟩:=hq h2
   obtain ⟨f,hf,hfl,hcase⟩:=A0y ph h2
   have hl2:l.length ≤ 4096:=by
    rcases hcase with ⟨_,_,rfl,_⟩ | ⟨_,rfl,_⟩ <;> simp
   have qa:=u10 tk.tk h2 d3 hl2
   obtain ⟨X1,hX1⟩:∃ X1,X1 = (m'.new [int 0,strS [],int 0,.emp 0] false).set m'.next [int s.op,strS nm,int 0,.lst (vals l)]:=⟨_,rfl⟩
   have kX:Kp m' X1:=by rw [hX1]; simp
   have nX:X1.next = m'.next + 1:=by rw [hX1]; simp
   have bX:X1.get m'.next = some (.cells [int s.op,strS nm,int 0,.lst (vals l)] false (m'.clock + 2)):=by rw [hX1]; simp
   have cX:Chg (fun _ => False) t t m' X1:=Chg.refl bd kX
   have tkX:=tk.keep cX.kt (by simp) (by simp) (by simp) (by simp)
   have chX:=ChA.keep cX.kt _ _ (by simp) ch
   have bsX:=bs.kp' kX
   obtain ⟨wB,gB⟩:=bsX.gB
   obtain ⟨wG,mG⟩:=bsX.mG
   have look:=Ay6 (nm:=nm) mG
   obtain ⟨y,hy⟩:∃ y,y = (if g = true ∧ nm = nmF then clV else (0,0)):=⟨_,rfl⟩
   rw [← hy] at look
   have nB:B ≠ X1.next:=by have:=bsX.bB; omega
   have nm':m'.next ≠ X1.next:=by omega
   simp [qa.go,e7,askA,d1,d2]
   rw [← hX1]
   clear hX1
   refine Aaq (by kernel_rfl) ?_
   simp [e8,gB,bX,look]
   refine Aa2 (l:=[(3,10),(5,10)]) (by kernel_rfl) (?_:List.all _ _ = true) ?_
   ·simp [metAtD,metOkD,rank,verKeptD,Region.wanted,Mem.ver,gB,bX,nB,nm']
   obtain ⟨X2,hX2⟩:∃ X2,X2 = (X1.new [int 0,int 0] false).set X1.next [int y.1,int y.2]:=⟨_,rfl⟩
   have k2:Kp X1 X2:=by rw [hX2]; simp
   have n2:X2.next = m'.next + 2:=by rw [hX2]; simp [nX]
   have b2:∃ w,X2.get X1.next = some (.cells [int y.1,int y.2] false w):=⟨_,by rw [hX2]; simp; rfl⟩
   have bX2:=(k2.get m'.next (by omega)).trans bX
   obtain ⟨w2,b2⟩:=b2
   simp [Aab]
   rw [← hX2]
   clear hX2
   obtain ⟨ans,ha1,ha2,ha3⟩:∃ ans:Val,((g = true ∧ nm = nmF) → ans = clV) ∧ (¬ (g = true ∧ nm = nmF) → ∃ b,∀ M,EH Tryz.prog ca (.func 12) [.sc (.string ⟨⟨nm⟩⟩)] M (.tup [valA ans,.sc (.bool b)]) M) ∧ ((s.op = 3 ∧ nm = nmF ∧ l = [clV] ∧ g = false ∧ Ph K (i + 1) (gotM s f [] ans) [] [] true) ∨ (s.op = 1 ∧ g = true ∧ Ph K (i + 1) (gotM s f [] ans) [] [] true)):=by
    rcases hcase with ⟨o,rfl,rfl,rfl,p⟩ | ⟨o,rfl,rfl,⟨rfl,p⟩ | ⟨rfl,p⟩ | ⟨rfl,p⟩⟩
    ·exact ⟨(6,0),fun h => by simp at h,fun _ => ⟨_,u12f⟩,.inl ⟨o,rfl,rfl,rfl,p _⟩⟩
    ·exact ⟨clV,fun _ => rfl,fun h => absurd ⟨rfl,rfl⟩ h,.inr ⟨o,rfl,p⟩⟩
    ·exact ⟨zeV,fun h => by simp at h,fun _ => ⟨_,u12z⟩,.inr ⟨o,rfl,p⟩⟩
    ·exact ⟨miV,fun h => by simp at h,fun _ => ⟨_,u12m⟩,.inr ⟨o,rfl,p⟩⟩
   refine Arr (fun s2 m2 => Kp X1 m2 ∧ (∃ w,m2.get X1.next = some (.cells [int ans.1,int ans.2] false w)) ∧ s2.at 7 = .ptr T 0 ∧ s2.at 8 = .ptr B 0 ∧ s2.at 12 = .ptr m'.next 0 ∧ s2.at 14 = .ptr X1.next 0 ∧ s2.at 56 = int i) (fun h k' hk' => ?_) (fun h k' hk' => ?_) ?_
   ·have hn':¬ (g = true ∧ nm = nmF):=by simpa [Decidable.imp_iff_not_or] using h
    obtain ⟨b,q12⟩:=ha2 hn'
    simp [bX2,(q12 _).go,b2,Aab]
    exact hk' _ _ ⟨k2.set (by omega) _,⟨_,by simp; rfl⟩,by simp [e7],by simp [e8],by simp,by simp,by simp [e56]⟩
   ·have hy':g = true ∧ nm = nmF:=by simpa using h
    rw [if_pos hy'] at hy
    simp
    exact hk' _ _ ⟨k2,⟨w2,by rw [b2,hy,ha1 hy']⟩,by simp [e7],by simp [e8],by simp,by simp,by simp [e56]⟩
   rintro s2 X3 ⟨k3,⟨w3,b3⟩,f7,f8,f12,f14,f56⟩
   have cX3:Chg (fun _ => False) t t m' X3:=Chg.refl bd (kX.trans k3)
   have tk3':=tk.keep cX3.kt (by simp) (by simp) (by simp) (by simp)
   have ch3':=ChA.keep cX3.kt _ _ (by simp) ch
   rw [hf] at ch3'
   have bs3:=bs.kp' (kX.trans k3)
   have bX3:=(k3.get m'.next (by omega)).trans bX
   rcases ha3 with ⟨o,rfl,rfl,rfl,p⟩ | ⟨o,hg,p⟩
   ·simp [f12,bX3,o]
    obtain ⟨X4,u4,bs4,kt4,n4,g4⟩:=bs3.put tk3'.b.bd
    obtain ⟨wB3,gB3⟩:=bs3.gB
    refine Aat (by kernel_rfl) (by kernel_rfl) ?_
    have hix:aindexAddr Tryz.prog 46 (.lst (vals [clV])) (int 0) = some ((valA clV).cptr 0):=Abp (i:=0) rfl
    have u4':amapUpdate Tryz.prog 40 (.mp G) (.sc (.string ⟨⟨nmF⟩⟩)) (.agg [int 7,int 0]) X3 = some X4:=u4
    simp [f8,f12,gB3,bX3,hix,u4']
    have tk4:=tk3'.keep kt4 (by simp) (by simp) (by simp) (by simp)
    have ch4:=ChA.keep kt4 _ _ (by simp) ch3'
    have b4:=(g4 X1.next).trans b3
    simp [f7,f14,b4,Aab]
    refine Aad (u13 tk4 ch4 h2 (hop h2).2 (by omega) ans) ?_
    rintro _ m9 ⟨rfl,r9⟩
    have inv:=Aq4 bs4 p (r9.gone (by simp [gotM,setT]))
    simp [f56,hw]
    exact hn _ _ hlt (by simp) inv
   ·subst hg
    simp [f12,bX3,o,f7,f14,b3,Aab]
    refine Aad (u13 tk3' ch3' h2 (hop h2).2 (by omega) ans) ?_
    rintro _ m9 ⟨rfl,r9⟩
    have inv:=Aq4 bs3 p (r9.gone (by simp [gotM,setT]))
    simp [f56,hw]
    exact hn _ _ hlt (by simp) inv
  ·have qa:=u10n tk.tk h2
   obtain ⟨X1,hX1⟩:∃ X1,X1 = (m'.new [int 0,strS [],int 0,.emp 0] false).set m'.next [int 0,strS [],int 0,.lst []]:=⟨_,rfl⟩
   have kX:Kp m' X1:=by rw [hX1]; simp
   have cX:Chg (fun _ => False) t t m' X1:=Chg.refl bd kX
   have tkX:=tk.keep cX.kt (by simp) (by simp) (by simp) (by simp)
   have chX:=ChA.keep cX.kt _ _ (by simp) ch
   have bsX:=bs.kp' kX
   simp [qa.go,e7,askA]
   rw [← hX1]
   clear hX1
   by_cases h1:s.status = 1
   ·obtain ⟨f,fs,c,x,s2,nm2,l2,hf,hc,hx,hlen,hins,ph2⟩:=Ayt hK2 ph h1
    rw [hf] at chX
    refine Aad (w24g tkX chX h1 (by omega) hc hx hlen (fun t m F px cx sx u hI => hins t T P _ _ F px cx sx u m hI)) ?_
    rintro _ m9 ⟨rfl,r9⟩
    have inv:=Aq4 bsX ph2 r9
    simp [e56,hw]
    exact hn _ _ hlt (by simp) inv
   ·obtain ⟨ph3,_,_⟩:=Aqq ph (by omega)
    refine Aad (u11d tkX.tk h1) ?_
    rintro _ m9 ⟨rfl,rfl⟩
    simp [e56,hw]
    exact hn _ _ hlt (by simp) ⟨t,now,q,s,nm,l,g,ph3,tkX,chX,hq,bsX⟩
 ·have hge:i = L:=by omega
  subst hge
  have h3:=A0x hK2 ph (by omega)
  obtain ⟨_,_,hv⟩:=Aqq ph h3
  have q13:=w13 tk.tk
  rw [valueM,if_pos h3,hv] at q13
  simp [e56,e55]
  refine he _ _ _ (by simp) ?_
  clear he hn
  have hb53:abuild Tryz.prog 53 [(0,int 1)] = some (valA (1,0)):=by simp [abuild,placesOf,fillAt,valA]
  have hag:AV.agg [int 1,int 0] = valA (1,0):=rfl
  simp [e7,q13.go,h3,hb53,hag,And]
  exact bs.kp.trans (by simp)
end Go.Proofs.YtkoekdfimpcofaaGreat
