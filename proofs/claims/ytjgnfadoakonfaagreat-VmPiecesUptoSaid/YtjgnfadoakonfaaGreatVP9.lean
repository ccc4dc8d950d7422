/- Part of a proof. -/
import Derived.Test.YtjgnfadoakonfaaGreatVP8
set_option maxHeartbeats 64000000
set_option linter.unusedSimpArgs false
set_option linter.unusedVariables false
set_option linter.unusedSectionVars false
namespace Go.Proofs.YtjgnfadoakonfaaGreat
set_option maxRecDepth 4000
open Go.V
attribute [local simp] Nat.add_assoc
theorem Air {p:PgM} (hp:OkPg p):∀ (n:Nat) {s:MaM},Safe p s → ∃ r,r ≤ n ∧ runM p n s = runM p r s ∧ (runM p n s).steps = s.steps + r
 | 0,s,_ => ⟨0,Nat.le_refl _,rfl,rfl⟩
 | n + 1,s,hs => by
  by_cases h1:s.status = 1
  ·obtain ⟨r,a,b,c⟩:=Air hp n (Ak5 hp hs h1)
   refine ⟨r + 1,by omega,?_,?_⟩
   ·rw [runM,if_pos h1,runM,if_pos h1,b]
   ·rw [runM,if_pos h1,c,Ag4 hp hs h1]
    omega
  ·exact ⟨0,by omega,by rw [Ag6 h1]; rfl,by rw [Ag6 h1]; rfl⟩
theorem okPg0 {pr:PrM} (hf:PrFit pr) {a:ArM} (hn:Nice pr.codes a) (hc:checkM pr = 0) (hv:(cvM pr.consts a).2.2 = 0):OkPg (pg0 pr (cvM pr.consts a).2.1) ∧ Nice pr.codes (cvM pr.consts a).1:=by
 obtain ⟨o1,o2,o3,o4⟩:=Ao8 hc
 obtain ⟨l1,l2,l3,l4⟩:=Al9 o4
 obtain ⟨n1,n2⟩:=Ar8 (cs:=pr.codes) pr.consts (a,[],0) hn (by simp [NoPrim])
 have hlen:(cvM pr.consts a).2.1.length = pr.consts.length:=by
  have:=Anv pr.consts (a,[],0) hv
  unfold cvM
  rw [this]
  simp
 refine ⟨⟨fun c hc' => ?_,⟨l3,l1⟩,l4,n2⟩,n1⟩
 have:=A00 o3 hc'
 show OkCode pr.codes (cvM pr.consts a).2.1.length pr.names.length c
 rw [hlen]
 exact this
theorem safe0 {pr:PrM} {cv:List Val} {a:ArM} (hp:OkPg (pg0 pr cv)) (hn:Nice pr.codes a):Safe (pg0 pr cv) (s0 a):=by
 refine ⟨hn,.inl rfl,fun _ => ⟨⟨0,0,[],[],[]⟩,[],rfl,?_,by simp⟩,by simp [s0],by simp [s0],by simp [s0]⟩
 have hl:=hp.few.1
 obtain ⟨c,hc⟩:∃ c,(pg0 pr cv).codes[0]? = some c:=⟨_,List.getElem?_eq_getElem (by omega)⟩
 obtain ⟨h1,h2⟩:=hp.first c hc
 have okc:=hp.codes c (List.mem_of_getElem? hc)
 obtain ⟨s,hs,hm⟩:=okc.flow
 have hnn:∀ y ∈ c.ins,0 ≤ needM y:=fun y hy => by
  obtain ⟨i,hi,e⟩:=List.mem_iff_getElem.1 hy
  exact okc.need i y (by rw [List.getElem?_eq_getElem hi,e])
 have ha:s.1 = aheadC c:=by unfold aheadC; rw [hs]; rfl
 exact ⟨⟨c,hc,by simp [h1],by simp [h2],by rw [← ha]; exact (Ans hnn hm hs).1⟩,by simp [NoPrim],by simp [NoPrim],by simp [NoPrim]⟩
def Dis (t t2:Ro):Prop:=∀ j,t j ≠ none → t2 j = none
def Lo (m:Mem) (t:Ro):Prop:=∀ j,t j ≠ none → m.next ≤ j
section
variable {R:Nat → Prop} {t t' t2:Ro} {m m' m0:Mem}
theorem Chg.other (c:Chg R t t' m m') (d:Dis t t2) (b2:∀ j,t2 j ≠ none → j < m.next):Kt (fun _ => False) t2 t2 m m' ∧ Dis t' t2:=by
 refine ⟨⟨c.kc.mono fun j ⟨r,h1,_⟩ r' h2 => ?_,fun _ _ _ => Iff.rfl,fun j h => Nat.lt_of_lt_of_le (b2 j h) c.kc.next⟩,fun j hj => ?_⟩
 ·have:=d j (by rw [h1]; simp)
  rw [this] at h2
  cases h2
 ·cases h:t' j with
  | none => exact absurd h hj
  | some r =>
   by_cases e:R r
   ·rcases c.new j r h e with ⟨r',a,_⟩ | a
    ·exact d j (by rw [a]; simp)
    ·cases h2:t2 j with
     | none => rfl
     | some x => have:=b2 j (by rw [h2]; simp); omega
   ·exact d j (by rw [(c.same j r e).1 h]; simp)
theorem Dis.symm (d:Dis t t2):Dis t2 t:=fun j hj => by
 cases h:t j with
 | none => rfl
 | some r => exact absurd (d j (by rw [h]; simp)) hj
theorem Chg.lo (c:Chg R t t' m m') (l:Lo m0 t) (hn:m0.next ≤ m.next):Lo m0 t':=by
 intro j hj
 cases h:t' j with
 | none => exact absurd h hj
 | some r =>
  by_cases e:R r
  ·rcases c.new j r h e with ⟨r',a,_⟩ | a
   ·exact l j (by rw [a]; simp)
   ·omega
  ·exact l j (by rw [(c.same j r e).1 h]; simp)
theorem Chg.kp0 (c:Chg R t t' m m') (l:Lo m0 t) (k:Kp m0 m):Kp m0 m':=Aek c.kc k fun j ⟨r,h,_⟩ => l j (by rw [h]; simp)
end
theorem newAr (m:Mem):∃ t m',EH Tryz.prog ca (.func 6) [int 2000] m (.tup [.ptr (m.next + 1) 0,int 0]) m' ∧ Kp m m' ∧ ArR t (m.next + 1) ⟨2000,[],[]⟩ m' ∧ Lo m t ∧ (∀ j,t j ≠ none → j < m'.next) ∧ m'.next = m.next + 2:=by
 have q:=q20 (m:=m) (n:=2000) (by omega) (by omega)
 have a:=A3z (m:=m) (n:=2000) (by omega) (by omega)
 obtain ⟨m',hm'⟩:∃ m',m' = m.newMap.new [int 2000,.emp 0,.emp 0,.mp m.next] false:=⟨_,rfl⟩
 rw [← hm'] at q a
 have n':m'.next = m.next + 2:=by rw [hm']; simp
 have kp:Kp m m':=by
  rw [hm']
  refine ⟨by simp,fun id hi => ?_,fun id hi => ?_⟩
  ·have a1:id ≠ m.next:=by omega
   have a2:id ≠ m.next + 1:=by omega
   simp [a1,a2]
  ·have a1:id ≠ m.next:=by omega
   simp [a1]
 refine ⟨fun j => if m.next ≤ j ∧ j < m'.next then some 3 else none,m',q,kp,a.mono fun j hj hx => if_pos ⟨hx,hj⟩,fun j hj => ?_,fun j hj => ?_,n'⟩
 ·simp only at hj
  split at hj
  ·rename_i h; exact h.1
  ·exact absurd rfl hj
 ·simp only at hj
  split at hj
  ·rename_i h; exact h.2
  ·exact absurd rfl hj
end Go.Proofs.YtjgnfadoakonfaaGreat
namespace Go.Proofs.YtjgnfadoakonfaaGreat
set_option maxRecDepth 8000
open Go.V
attribute [local simp] Nat.add_assoc
theorem len27 (l:List UInt8) (R:TypeId) (m:Mem):abuiltin Tryz.prog .len #[27] R [.lst (byts l)] m = some (int l.length,m):=by rw [Abn Tryz.underlying27]; simp [byts]
theorem Ays {l:List UInt8} {i:Nat} {b:UInt8} (h:l[i]? = some b):aindexAddr Tryz.prog 27 (.lst (byts l)) (int i) = some ((AV.sc (.int .u8 b.toNat)).cptr 0):=Aae (P:=Tryz.prog) (q:=.i64) Tryz.underlying27 Aog (by simp [byts,h]) (by simp)
theorem law3 (p:PrM) (hf:PrFit p) (bs:List UInt8) (hb:bs.length < 2 ^ 60):Gives Tryz.prog ca 3 [prgA p,.lst (byts bs)] (.sc (.bool true)):=by
 refine Aaf Tryz.func3 rfl rfl rfl rfl (by simp) (by simp [Tryz.f3]) (by simp [Tryz.f3]) fun m => ?_
 simp only [Tryz.f3,show ca.keepRes 3 = false from rfl]
 obtain ⟨M1,hM1⟩:∃ M1,M1 = m.new [.lst (cods p.codes),.lst (encs p.consts),.lst (strs p.names)] false:=⟨_,rfl⟩
 have k1:Kp m M1:=by rw [hM1]; simp
 have n1:M1.next = m.next + 1:=by rw [hM1]; simp
 have b1:M1.get m.next = some (.cells [.lst (cods p.codes),.lst (encs p.consts),.lst (strs p.names)] false (m.clock + 1)):=by rw [hM1]; simp
 have q5:=c5 p hf
 simp [(c4 _).go]
 rw [← hM1]
 clear hM1
 simp [b1,Adh,q5.go]
 cases hfew:fewM p with
 | false =>
  simp [(c4 _).go]
  exact k1
 | true =>
 obtain ⟨tA,M2,qA,kA,arA,loA,bdA,nA⟩:=newAr M1
 obtain ⟨tB,M3,qB,kB,arB,loB,bdB,nB⟩:=newAr M2
 have b3:=(kB.get m.next (by omega)).trans ((kA.get m.next (by omega)).trans b1)
 simp [qA.go,qB.go,b3,Adh]
 have arA3:ArR tA (M1.next + 1) ⟨2000,[],[]⟩ M3:=arA.keep (Chg.refl (R:=fun _ => False) bdA kB).kt (by simp)
 have bdA3:∀ j,tA j ≠ none → j < M3.next:=fun j h => by have:=bdA j h; omega
 have dAB:Dis tA tB:=fun j h => by
  have:=bdA j h
  cases hj:tB j with
  | none => rfl
  | some r => have:=loB j (by rw [hj]; simp); omega
 have sm0:Small (⟨2000,[],[]⟩:ArM):=fun c hc => by simp at hc
 refine Aac (w7 arA3 bdA3 sm0 hf) ?_
 rintro v m4 ⟨tA4,cA4,hv⟩
 obtain ⟨ktB4,dAB4⟩:=cA4.other dAB bdB
 have arB4:=arB.keep ktB4 (by simp)
 have loA':Lo M1 tA:=loA
 have loB':Lo M1 tB:=fun j h => by have:=loB j h; omega
 have k13:Kp M1 M3:=kA.trans kB
 have kp4:=cA4.kp0 loA' k13
 have b4:=(kp4.get m.next (by omega)).trans b1
 have loB4:Lo M1 tB:=loB'
 have loA4:Lo M1 tA4:=cA4.lo loA' (by omega)
 have n4:=cA4.kc.next
 by_cases hgood:checkM p = 0 ∧ (cvM p.consts ⟨2000,[],[]⟩).2.2 = 0
 rotate_left
 ·obtain ⟨e,he0,he⟩:∃ e:Int,e ≠ 0 ∧ ∀ (v:AV) (X:Prop),(if checkM p ≠ 0 then v = .tup [nilA,int (checkM p)] else if (cvM p.consts ⟨2000,[],[]⟩).2.2 ≠ 0 then v = .tup [nilA,int (cvM p.consts ⟨2000,[],[]⟩).2.2] else X) → v = .tup [nilA,int e]:=by
   by_cases hc:checkM p = 0
   ·refine ⟨(cvM p.consts ⟨2000,[],[]⟩).2.2,fun h => hgood ⟨hc,h⟩,fun v X h => ?_⟩
    rw [if_neg (by simp [hc]),if_pos (fun h => hgood ⟨hc,h⟩)] at h
    exact h
   ·refine ⟨checkM p,hc,fun v X h => ?_⟩
    rw [if_pos hc] at h
    exact h
  have hv:=he _ _ hv
  subst hv
  simp [b4,Adh]
  refine Aac (w7 arB4 ktB4.bd sm0 hf) ?_
  rintro v m5 ⟨tB5,cB5,hv⟩
  have hv:=he _ _ hv
  subst hv
  have kp5:=cB5.kp0 loB4 kp4
  simp [he0]
  exact k1.trans kp5
 obtain ⟨hchk,hz⟩:=hgood
 rw [if_neg (by simp [hchk]),if_neg (by simp [hz])] at hv
 obtain ⟨P,rfl,pbA⟩:=hv
 simp [b4,Adh]
 refine Aac (w7 arB4 ktB4.bd sm0 hf) ?_
 rintro v m5 ⟨tB5,cB5,hv⟩
 rw [if_neg (by simp [hchk]),if_neg (by simp [hz])] at hv
 obtain ⟨Q2,rfl,pbB⟩:=hv
 have kp5:=cB5.kp0 loB4 kp4
 have loB5:Lo M1 tB5:=cB5.lo loB4 (by omega)
 obtain ⟨ktA5,dBA5⟩:=cB5.other dAB4.symm pbA.bd
 have pbA5:PrB tA4 P (M1.next + 1) p (cvM p.consts ⟨2000,[],[]⟩).2.1 (cvM p.consts ⟨2000,[],[]⟩).1 m5:=by
  obtain ⟨bd,tP,⟨cx,hp,hcx⟩,ar⟩:=pbA
  exact ⟨ktA5.bd,tP,⟨cx,ktA5.has tP (by simp) hp,hcx.keep ktA5 (by simp)⟩,ar.keep ktA5 (by simp)⟩
 obtain ⟨hpg,hni⟩:=okPg0 hf (a:=⟨2000,[],[]⟩) (fun c hc => by simp at hc) hchk hz
 obtain ⟨cv,hcv⟩:∃ cv,cv = (cvM p.consts ⟨2000,[],[]⟩).2.1:=⟨_,rfl⟩
 obtain ⟨a0,ha0⟩:∃ a0,a0 = (cvM p.consts ⟨2000,[],[]⟩).1:=⟨_,rfl⟩
 rw [← hcv] at pbA5 pbB hpg
 rw [← ha0] at pbA5 pbB hni
 have hsafe:=safe0 hpg hni
 have n5:=cB5.kc.next
 simp
 refine Aac (w8 pbA5) ?_
 rintro v m6 ⟨T,F,tA6,qA6,rfl,tkA6,chA6,cA6⟩
 obtain ⟨ktB6,dAB6⟩:=cA6.other dBA5.symm pbB.bd
 have loA6:Lo M1 tA6:=cA6.lo loA4 (by omega)
 have kp6:=cA6.kp0 loA4 kp5
 have n6:=cA6.kc.next
 have pbB6:PrB tB5 Q2 (M2.next + 1) p cv a0 m6:=by
  obtain ⟨bd,tP,⟨cx,hp,hcx⟩,ar⟩:=pbB
  exact ⟨ktB6.bd,tP,⟨cx,ktB6.has tP (by simp) hp,hcx.keep ktB6 (by simp)⟩,ar.keep ktB6 (by simp)⟩
 simp
 refine Aac (w8 pbB6) ?_
 rintro v m7 ⟨U,G,tB7,qB7,rfl,tkB7,chB7,cB7⟩
 obtain ⟨ktA7,dBA7⟩:=cB7.other dAB6.symm tkA6.b.bd
 have loB7:Lo M1 tB7:=cB7.lo loB5 (by omega)
 have kp7:=cB7.kp0 loB5 kp6
 have n7:=cB7.kc.next
 have tkA7:=tkA6.keep ktA7 (by simp) (by simp) (by simp) (by simp)
 have chA7:=ChA.keep ktA7 _ _ (by simp) chA6
 obtain ⟨pg,hpgd⟩:∃ pg,pg = pg0 p cv:=⟨_,rfl⟩
 rw [← hpgd] at hpg hsafe tkA7 tkB7
 have hnn:pg.nn = p.names.length:=by rw [hpgd]; rfl
 have ln:=len27 bs
 obtain ⟨L,hL⟩:∃ L,L = min bs.length 20:=⟨_,rfl⟩
 have hmin:min (bs.length:Int) 20 = (L:Int):=by omega
 have hsl:aslice Tryz.prog 27 (.lst (byts bs)) none (some (int (L:Int))) none = some (.lst (byts (bs.take L))):=by
  have:=Acl (P:=Tryz.prog) (T:=27) (xs:=byts bs) (k:=1) (lo:=none) (hi:=some (int (L:Int))) (l:=none) (h:=some L) Tryz.underlying27 Aog Aa3 (Abg (n:=L)) (by simp) (by simp [byts]; omega) (Akm bs)
  rw [this]
  simp [byts,List.map_take]
 have ln2:∀ (R:TypeId) (m:Mem),abuiltin Tryz.prog .len #[27] R [.lst (byts (bs.take L))] m = some (int L,m):=fun R m => by rw [len27]; simp; omega
 simp [ln,amin2,hmin,hsl,ln2]
 refine Aan 76 L (fun i s' m' => ∃ (k:Nat) (tA:Ro) (now:AV) (q:RestA),s'.at 15 = int k ∧ (runM pg k (s0 a0)).steps = k ∧ k ≤ 255 * i ∧ TkA tA T P (M1.next + 1) p pg (runM pg k (s0 a0)) now q m' ∧ ChA tA m' (runM pg k (s0 a0)).frames now ∧ TkA tB7 U Q2 (M2.next + 1) p pg (s0 a0) (.ptr G 0) qB7 m' ∧ ChA tB7 m' (s0 a0).frames (.ptr G 0) ∧ Dis tA tB7 ∧ Lo M1 tA ∧ Kp M1 m') (by simp) (by omega) ⟨0,tA6,.ptr F 0,qA6,by simp,rfl,by omega,tkA7,chA7,tkB7,chB7,dBA7.symm,loA6,kp7⟩ ?_
 rintro i s' m' hi e76 ⟨k,tA,now,q,e15,hk,hkb,tk,ch,tkB,chB,dis,lo,kp⟩ hsame hw Q' hn he
 have e13:s'.at 13 = .ptr T 0:=(hsame 13 (by kernel_rfl)).trans (by simp)
 have e14:s'.at 14 = .ptr U 0:=(hsame 14 (by kernel_rfl)).trans (by simp)
 have e74:s'.at 74 = .lst (byts (bs.take L)):=(hsame 74 (by kernel_rfl)).trans (by simp)
 have e75:s'.at 75 = int L:=(hsame 75 (by kernel_rfl)).trans (by simp)
 clear hsame
 have hsk:=Aju hpg k hsafe
 have k6:m.next < M1.next:=by omega
 have kpn:=kp.next
 by_cases hlt:i < L
 ·obtain ⟨b,hbi⟩:∃ b,(bs.take L)[i]? = some b:=⟨_,List.getElem?_eq_getElem (by simp; omega)⟩
  have hb255:b.toNat < 256:=b.toNat_lt
  have wb:IntKind.i64.wrap (b.toNat:Int) = (b.toNat:Int):=IntWalk.i64_in _ (by omega)
  obtain ⟨r,hr1,hr2,hr3⟩:=Air hpg b.toNat hsk
  simp [e76,e75,hlt,e74,Ays hbi,e15,e13,wb]
  refine Aac (w9 hpg hnn tk ch hsk (b.toNat:Int) (by rw [hk]; simp; omega)) ?_
  rintro _ m8 ⟨rfl,tA8,now8,q8,tk8,ch8,c8⟩
  rw [Int.toNat_natCast] at tk8 ch8
  have hr4:runM pg b.toNat (runM pg k (s0 a0)) = runM pg (k + r) (s0 a0):=by rw [hr2,← Agn]
  rw [hr4] at tk8 ch8
  obtain ⟨ktB8,dis8⟩:=c8.other dis tkB.b.bd
  have hst:(runM pg (k + r) (s0 a0)).steps = k + r:=by rw [← hr4,hr3,hk]
  have hdiff:(runM pg b.toNat (runM pg k (s0 a0))).steps - (runM pg k (s0 a0)).steps = r:=by rw [hr3]; omega
  have wk:IntKind.i64.wrap ((k:Int) + r) = ((k + r:Nat):Int):=by rw [IntWalk.i64_in _ (by omega)]; omega
  rw [Int.toNat_natCast,hdiff]
  simp [e15,wk,e76,hw]
  exact hn _ _ hlt (by simp) ⟨k + r,tA8,now8,q8,by simp,hst,by omega,tk8,ch8,tkB.keep ktB8 (by simp) (by simp) (by simp) (by simp),ChA.keep ktB8 _ _ (by simp) chB,dis8,c8.lo lo (by omega),c8.kp0 lo kp⟩
 have hge:i = L:=by omega
 subst hge
 simp [e76,e75]
 refine he _ _ _ (by simp) ?_
 clear he hn
 simp [e15,e14]
 refine Aac (w9 hpg hnn tkB chB hsafe (k:Int) (by simp [s0]; omega)) ?_
 rintro _ m8 ⟨rfl,tB8,now8,q8,tkB8,chB8,c8⟩
 rw [Int.toNat_natCast] at tkB8 chB8
 have hd0:(runM pg k (s0 a0)).steps - (s0 a0).steps = k:=by rw [hk]; rfl
 rw [Int.toNat_natCast,hd0]
 obtain ⟨ktA8,dis8⟩:=c8.other dis.symm tk.b.bd
 have tk8:=tk.keep ktA8 (by simp) (by simp) (by simp) (by simp)
 have ch8:=ChA.keep ktA8 _ _ (by simp) ch
 have loB8:Lo M1 tB8:=c8.lo loB7 (by omega)
 have kp8:=c8.kp0 loB7 kp
 obtain ⟨s,hs⟩:∃ s,s = runM pg k (s0 a0):=⟨_,rfl⟩
 rw [← hs] at tk8 ch8 tkB8 chB8 hsk hk
 have hop:s.status = 2 → s.op ≠ 4:=fun h => by have:=hsk.op h; omega
 have hl:∀ f ∈ s.frames,f.stack.length ≤ 4096:=fun f h => by have:=hsk.short f h; omega
 obtain ⟨M9,hM9⟩:∃ M9,M9 = (m8.new [int 0,int 0] false).set m8.next [int (valueM s).1,int (valueM s).2]:=⟨_,rfl⟩
 have k9:Kp m8 M9:=by rw [hM9]; simp
 have n9:M9.next = m8.next + 1:=by rw [hM9]; simp
 have g9:M9.get m8.next = some (.cells [int (valueM s).1,int (valueM s).2] false (m8.clock + 2)):=by rw [hM9]; simp
 obtain ⟨M10,hM10⟩:∃ M10,M10 = (M9.new [int 0,int 0] false).set M9.next [int (valueM s).1,int (valueM s).2]:=⟨_,rfl⟩
 have k10:Kp M9 M10:=by rw [hM10]; simp
 have n10:M10.next = m8.next + 2:=by rw [hM10]; simp [n9]
 have g10:M10.get M9.next = some (.cells [int (valueM s).1,int (valueM s).2] false (M9.clock + 2)):=by rw [hM10]; simp
 have g910:=(k10.get m8.next (by omega)).trans g9
 have k810:=k9.trans k10
 have cA10:Chg (fun _ => False) tA tA m8 M10:=Chg.refl tk8.b.bd k810
 have cB10:Chg (fun _ => False) tB8 tB8 m8 M10:=Chg.refl tkB8.b.bd k810
 have tA10:=tk8.keepR cA10.kt (by simp)
 have tB10:=tkB8.keepR cB10.kt (by simp)
 have chA10:=ChA.keep cA10.kt _ _ (by simp) ch8
 have chB10:=ChA.keep cB10.kt _ _ (by simp) chB8
 obtain ⟨M11,hM11⟩:∃ M11,M11 = M10.new [.ptr T 0] false:=⟨_,rfl⟩
 have k11:Kp M10 M11:=by rw [hM11]; simp
 have n11:M11.next = M10.next + 1:=by rw [hM11]; simp
 have h11:has M11 M10.next [.ptr T 0]:=⟨by omega,M10.clock + 1,by rw [hM11]; simp⟩
 obtain ⟨M12,hM12⟩:∃ M12,M12 = M11.new [.ptr U 0] false:=⟨_,rfl⟩
 have k12:Kp M11 M12:=by rw [hM12]; simp
 have h12:has M12 M11.next [.ptr U 0]:=⟨by rw [hM12]; simp,M11.clock + 1,by rw [hM12]; simp⟩
 have cA11:Chg (fun _ => False) tA tA M10 M11:=Chg.refl cA10.bd k11
 have cA12:Chg (fun _ => False) tA tA M10 M12:=cA11.trans (Chg.refl cA11.bd k12)
 have cB12:Chg (fun _ => False) tB8 tB8 M10 M12:=Chg.refl cB10.bd (k11.trans k12)
 have qA15:=w15 (t:=tA) cA11.bd h11 (tA10.keepR cA11.kt (by simp)).tk (ChA.keep cA11.kt _ _ (by simp) chA10) hop hl
 have qB15:=w15 (t:=tB8) cB12.bd h12 (tB10.keepR cB12.kt (by simp)).tk (ChA.keep cB12.kt _ _ (by simp) chB10) hop hl
 have q16a:=w16 T M10
 rw [← hM11] at q16a
 have q16b:=w16 U M11
 rw [← hM12] at q16b
 have hsl:(stackM s).length ≤ 4096:=by
  unfold stackM
  cases hsh:shownM s with
  | nil => simp
  | cons f fs =>
   have hm:f ∈ s.frames:=by
    have:f ∈ shownM s:=by rw [hsh]; simp
    unfold shownM at this
    split at this
    ·exact this
    ·cases this
   exact hl f hm
 have q14:=w14 (stackM s).reverse (by simpa using hsl)
 have tA12:=tA10.keepR cA12.kt (by simp)
 have chA12:=ChA.keep cA12.kt _ _ (by simp) chA10
 have kp12:Kp M1 M12:=kp8.trans (k810.trans (k11.trans k12))
 simp [e13,e14,e15,(w10 tk8.tk).go,(w10 tkB8.tk).go,(w11 tk8.tk).go,(w11 tkB8.tk).go,hk,(w12 tk8.tk ch8 hop).go,(w12 tkB8.tk chB8 hop).go,(w13 tk8.tk).go]
 rw [← hM9]
 have cB9:Chg (fun _ => False) tB8 tB8 m8 M9:=Chg.refl tkB8.b.bd k9
 have q13b:=w13 (tkB8.keepR cB9.kt (by simp)).tk
 rw [q13b.go]
 simp
 rw [← hM10]
 have n89:m8.next ≠ M9.next:=by omega
 simp [n89,g9,g910,g10,Aad,Aq7,e13,e14,q16a.go,qA15.go,q16b.go,qB15.go,q14.go]
 refine Aac (w9 hpg hnn tA12 chA12 hsk 0 (by rw [hk]; simp; omega)) ?_
 rintro _ m13 ⟨rfl,tA13,now13,q13,tk13,ch13,c13⟩
 simp only [Int.toNat_zero,runM] at tk13 ch13
 simp [runM,e13]
 refine Aac (w9 hpg hnn tk13 ch13 hsk (-1) (by rw [hk]; simp; omega)) ?_
 rintro _ m14 ⟨rfl,tA14,now14,q14',tk14,ch14,c14⟩
 have kp13:=c13.kp0 lo kp12
 have lo13:Lo M1 tA13:=c13.lo lo (by have:=kp12.next; omega)
 have kp14:=c14.kp0 lo13 kp13
 simp [runM]
 exact k1.trans kp14
end Go.Proofs.YtjgnfadoakonfaaGreat
namespace Go.Proofs.YtjgnfadoakonfaaGreat
set_option maxRecDepth 4000
open Go.V
theorem Anx:Tryz.prog.cellsOf 60 = 6:=by kernel_rfl
theorem Apb:Tryz.prog.cellsOf 3 = 1:=by kernel_rfl
theorem Azg:Tryz.prog.cellsOf 2 = 1:=by kernel_rfl
theorem Azf:Tryz.prog.cellsOf 9 = 1:=by kernel_rfl
theorem A1v:Tryz.prog.cellsOf 58 = 1:=by kernel_rfl
theorem Atj:Tryz.prog.cellsOf 23 = 1:=by kernel_rfl
section
variable {H:Type} {en:TypeId × Value → H} {W:World}
theorem Apc {d:DataW H} {l:List (DataW H)} (h:d ∈ l):Rows.uptoBulk d ≤ Rows.uptoBulkAll l:=by
 induction l with
 | nil => cases h
 | cons x r ih =>
  simp only [Rows.uptoBulkAll]
  cases List.mem_cons.1 h with
  | inl e => subst e; omega
  | inr e => have:=ih e; omega
theorem Ayt (d:DataW H):1 ≤ Rows.uptoBulk d:=by
 cases d with
 | lit l => cases l <;> simp [Rows.uptoBulk]
 | _ => simp [Rows.uptoBulk]
theorem Ao5:∀ {l:List Dat},(∀ d ∈ l,d.fits) → fitss l
 | [],_ => trivial
 | d :: l,h => ⟨h d (by simp),Ao5 fun x hx => h x (by simp [hx])⟩
theorem Aex (l:List (DataW H)):l.length ≤ Rows.uptoBulkAll l:=by
 induction l with
 | nil => simp [Rows.uptoBulkAll]
 | cons x r ih => have:=Ayt x; simp only [Rows.uptoBulkAll,List.length_cons]; omega
theorem A0v {fuel:Nat} {v:Value} {d:DataW H} {ps:List MemPlace} (h:rd en Tryz.prog W fuel 58 [v] = some (d,ps)) (hb:Rows.uptoBulk d ≤ 1048576):∃ M:List Int,Rel (G.start W) (.lst (M.map int)) v ∧ M.length < 2 ^ 21:=by
 obtain ⟨ys,h1,h2⟩:=Art (α:=Int) Tryz.underlying58 (by rw [Apb]; decide) h int (fun _ _ => True) (fun cs x p _ hr hl => by
  obtain ⟨n,rfl,_,_⟩:=Ad2 Tryz.underlying3 hr
  exact ⟨n,_,rfl,rfl,trivial⟩)
 refine ⟨ys,h1,?_⟩
 rcases h2 with ⟨_,rfl⟩ | ⟨l,r,rfl,hl,_⟩
 ·simp
 ·have:=Aex l
  simp only [Rows.uptoBulk] at hb
  omega
theorem Ayd (fuel:Nat):∀ (cs:List Value) (d:DataW H) (ps:List MemPlace),rd en Tryz.prog W fuel 60 cs = some (d,ps) → Rows.uptoBulk d ≤ 1048576 → ∃ x:Dat,Rel (G.start W) (enc x) (.agg cs.toArray) ∧ x.fits:=by
 induction fuel using Nat.strongRecOn with
 | _ fuel ih =>
  intro cs d ps h hb
  cases fuel with
  | zero => cases h
  | succ fuel =>
   have lists:∀ (v:Value) (d:DataW H) (ps:List MemPlace),rd en Tryz.prog W fuel 23 [v] = some (d,ps) → Rows.uptoBulk d ≤ 1048576 → ∃ L:List Dat,Rel (G.start W) (.lst (encs L)) v ∧ fitss L ∧ L.length < 2 ^ 21:=by
    intro v d ps h hb
    have hf:fuel ≠ 0:=by rintro rfl; cases h
    obtain ⟨ys,h1,h2⟩:=Art (α:=Dat) Tryz.underlying23 (by rw [Anx]; decide) h enc (fun _ y => y.fits) (fun cs x p hx hr hl => by
     obtain ⟨l,r,rfl,hm⟩:=hx
     have hb2:Rows.uptoBulk x ≤ 1048576:=by
      have:=Apc hm
      simp only [Rows.uptoBulk] at hb
      omega
     obtain ⟨y,y1,y2⟩:=ih (fuel - 1) (by omega) cs x p hr hb2
     exact ⟨y,_,y1,by simp [Value.cells],y2⟩)
    rw [← Aa9] at h1
    refine ⟨ys,h1,?_⟩
    rcases h2 with ⟨_,rfl⟩ | ⟨l,r,rfl,hl,hc⟩
    ·exact ⟨trivial,by simp⟩
    ·have:=Aex l
     simp only [Rows.uptoBulk] at hb
     refine ⟨Ao5 fun y hy => ?_,by omega⟩
     obtain ⟨i,hi,e⟩:=List.getElem_of_mem hy
     exact hc i _ y (List.getElem?_eq_getElem (by omega)) (by rw [List.getElem?_eq_getElem hi,e])
   simp only [rd,DataW.trod,Tryz.underlying60,Anx] at h
   split at h
   ·rename_i hlen
    rw [Option.map_eq_some_iff] at h
    obtain ⟨xs,h1,h2⟩:=h
    cases h2
    obtain ⟨c0,c1,c2,c3,c4,c5,rfl⟩:∃ c0 c1 c2 c3 c4 c5,cs = [c0,c1,c2,c3,c4,c5]:=by
     rcases cs with _ | ⟨c0,_ | ⟨c1,_ | ⟨c2,_ | ⟨c3,_ | ⟨c4,_ | ⟨c5,_ | ⟨c6,cs⟩⟩⟩⟩⟩⟩⟩ <;> simp at hlen
     exact ⟨_,_,_,_,_,_,rfl⟩
    simp only [List.mapM_cons,List.mapM_nil,Option.bind_eq_bind,Option.bind_eq_some_iff,Option.pure_def,Option.some.injEq,Apb,Azg,Azf,A1v,Atj,List.drop_zero,List.drop_succ_cons,List.take_succ_cons,List.take_zero] at h1
    obtain ⟨x0,q0,_,⟨x1,q1,_,⟨x2,q2,_,⟨x3,q3,_,⟨x4,q4,_,⟨x5,q5,_,rfl,rfl⟩,rfl⟩,rfl⟩,rfl⟩,rfl⟩,rfl⟩:=h1
    simp only [List.map_cons,List.map_nil,Rows.uptoBulk,Rows.uptoBulkAll] at hb
    obtain ⟨K,rK,_,_⟩:=Ad2 Tryz.underlying3 (d:=x0.1) (ps:=x0.2) q0
    obtain ⟨N,rN,_,wN⟩:=Ad2 Tryz.underlying2 (d:=x1.1) (ps:=x1.2) q1
    obtain ⟨S,rS,dS⟩:=Ala Tryz.underlying9 (d:=x2.1) (ps:=x2.2) q2
    obtain ⟨M,rM,lM⟩:=A0v (d:=x3.1) (ps:=x3.2) q3 (by omega)
    obtain ⟨L,rL,fL,lL⟩:=lists c4 x4.1 x4.2 q4 (by omega)
    obtain ⟨T,rT,fT,lT⟩:=lists c5 x5.1 x5.2 q5 (by omega)
    cases rK; cases rN; cases rS
    refine ⟨.mk K N S M L T,?_,?_⟩
    ·refine ⟨[_,_,_,_,_,_],rfl,.cons rfl (.cons rfl (.cons rfl (.cons rM (.cons rL (.cons rT .nil))))),?_⟩
     intro u hu
     have one:∀ {x:List AV} {v:Value},Rel (G.start W) (.lst x) v → v.oneCell' = true:=by
      intro x v hr
      simp only [Rel] at hr
      obtain ⟨_,_,_,_,rfl,_⟩:=hr
      rfl
     simp only [List.mem_cons,List.not_mem_nil,or_false] at hu
     rcases hu with rfl | rfl | rfl | rfl | rfl | rfl
     ·rfl
     ·rfl
     ·rfl
     ·exact one rM
     ·exact one rL
     ·exact one rT
    ·rw [Dat.fits]
     refine ⟨⟨?_,?_,lM,lL,lT⟩,fL,fT⟩
     ·simpa [Lit.wf,IntKind.min,IntKind.max,IntKind.signed,IntKind.bits] using wN
     ·rw [dS] at hb
      simp only [Rows.uptoBulk] at hb
      omega
   ·cases h
end
end Go.Proofs.YtjgnfadoakonfaaGreat
