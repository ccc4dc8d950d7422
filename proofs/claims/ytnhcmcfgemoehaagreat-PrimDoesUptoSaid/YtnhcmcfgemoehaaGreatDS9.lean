/- Part of a proof. -/
import Derived.Test.YtnhcmcfgemoehaaGreatDS8
set_option maxHeartbeats 64000000
set_option linter.unusedSimpArgs false
set_option linter.unusedVariables false
set_option linter.unusedSectionVars false
namespace Go.Proofs.YtnhcmcfgemoehaaGreat
set_option maxRecDepth 4000
open Go.V
attribute [local simp] Nat.add_assoc
def digit (d:Nat):UInt8:=UInt8.ofNat (48 + d)
def textL:Nat → Nat → List UInt8 → List UInt8
 | 0,_,suf => suf
 | f + 1,n,suf => if n / 10 = 0 then digit (n % 10) :: suf else textL f (n / 10) (digit (n % 10) :: suf)
def txtR (a:Int):List UInt8 × Int:=if isIn a then (if a < 0 then 45 :: textL 20 a.natAbs [] else textL 20 a.natAbs [],0) else ([],1)
theorem Amu {d:Nat} (h:d < 10):(digit d).toNat = 48 + d:=by
 unfold digit
 rw [UInt8.toNat_ofNat']
 omega
theorem Afw (c:UInt8) (l:List UInt8):byts (c :: l) = .sc (.int .u8 c.toNat) :: byts l:=rfl
theorem Ae1 (a b:List UInt8):byts (a ++ b) = byts a ++ byts b:=by simp [byts]
theorem Anl (k:Nat) (c d:UInt8) (a l:List UInt8) (h:a.length = k):splice (byts (a ++ d :: l)) k [.sc (.int .u8 c.toNat)] = byts (a ++ c :: l):=by
 rw [splice,Ae1,Ae1,Afw,Afw]
 have hl:(byts a).length = k:=by simpa using h
 rw [List.take_left' hl,List.drop_append,List.drop_eq_nil_of_le (by simp; omega)]
 simp [hl]
theorem Ajw:∀ l:List UInt8,chunk 1 false l.length (byts l) = byts l
 | [] => rfl
 | c :: l => by
  rw [Afw,List.length_cons,chunk]
  simp [Ajw l]
theorem Ayx:tzero Tryz.prog 207 = some (.agg (byts (List.replicate 20 0))):=by kernel_rfl
theorem Ayw:tarr Tryz.prog 207 = some (20,5):=by kernel_rfl
theorem Ayp {id i:Nat} {q:IntKind} (h:i < 20):aindexAddr Tryz.prog 207 (.ptr id 0) (.sc (.int q i)) = some (.ptr id i):=by
 unfold aindexAddr
 simp [Ayw,telem,h]
theorem Ayv {id off:Nat} {lo hi mx:Option AV}:aslice Tryz.prog 207 (.ptr id off) lo hi mx = none:=by
 unfold aslice aslice1
 simp [telem,Tryz.underlying207]
theorem cv207 {id off len:Nat} {c:Option Nat}:aconvert Tryz.prog 76 9 (.sl id off len 1 false c) = none:=by
 unfold aconvert aconvB
 rfl
theorem Ao4 {id k:Nat} {m:Mem} {w:Nat} {a l:List UInt8} (h:m.get id = some (.cells (byts (a ++ l)) false w)) (ha:a.length = k) (hl:k + l.length = 20):aarr Tryz.prog 207 (.ptr id 0) (some (int k)) none none m = some (.sl id k l.length 1 false (some l.length),m):=by
 unfold aarr
 simp only [Ayw,Alj,tagg5,Afj,Aea,h,Option.getD_some,Option.getD_none]
 rw [if_pos]
 ·have e:20 - k = l.length:=by omega
  simp [e]
 ·refine ⟨by omega,by omega,?_⟩
  simp
  omega
theorem Afd {id k:Nat} {m:Mem} {w:Nat} {a l:List UInt8} {c:Option Nat} (h:m.get id = some (.cells (byts (a ++ l)) false w)) (ha:a.length = k):aconvM Tryz.prog 76 9 (.sl id k l.length 1 false c) m = some (strA l,m):=by
 have hd:(byts (a ++ l)).drop k = byts l:=by rw [Ae1]; exact List.drop_left' (by simpa using ha)
 have hf:elemsOf m (.sl id k l.length 1 false c) = some (byts l):=by
  simp only [elemsOf,h]
  rw [if_pos ⟨by simp; omega,by decide⟩,hd,Ajw]
 unfold aconvM
 rw [hf]
 dsimp only
 simp only [aconvB,Tryz.underlying76,Tryz.underlying9,Tryz.underlying5,bytesOf,Afx l]
 rfl
theorem Ao3 {id k:Nat} {m:Mem} {w:Nat} {a l:List UInt8} {c d:UInt8} (h:m.get id = some (.cells (byts (a ++ d :: l)) false w)) (ha:a.length = k):astore Tryz.prog 5 (.ptr id k) (.sc (.int .u8 c.toNat)) m = some (m.set id (byts (a ++ c :: l))):=by
 rw [Abz]
 simp only [h]
 rw [if_pos ⟨rfl,by rw [Alj]; rfl,by simp; omega⟩]
 have:=Anl k c d a l ha
 rw [show (AV.sc (.int .u8 c.toNat)).cells = [.sc (.int .u8 c.toNat)] from rfl,this]
theorem rem10 {t:TypeId} {x y:Operand} {n r:Nat} (h:n % 10 = r):abin Tryz.prog .rem t x y (.sc (.int .u64 n)) (.sc (.int .u64 10)) = some (.sc (.int .u64 (r:Int))):=by
 have:=Anf (P:=Tryz.prog) (t:=t) (xo:=x) (yo:=y) (x:=n) (y:=10) (by omega)
 rw [h] at this
 exact this
theorem quo10 {t:TypeId} {x y:Operand} {n q:Nat} (h:n / 10 = q) (hn:n < 18446744073709551616):abin Tryz.prog .quo t x y (.sc (.int .u64 n)) (.sc (.int .u64 10)) = some (.sc (.int .u64 (q:Int))):=by
 rw [Aep (by decide)]
 have:(n:Int).tdiv 10 = (q:Int):=by rw [Int.tdiv_eq_ediv_of_nonneg (by omega)]; omega
 rw [this,IntWalk.u64_in _ (by omega)]
theorem All:∀ (f n:Nat) (suf:List UInt8),(textL f n suf).length ≤ f + suf.length
 | 0,n,suf => by simp [textL]
 | f + 1,n,suf => by
  rw [textL]
  split
  ·simp; omega
  ·have:=All f (n / 10) (digit (n % 10) :: suf)
   simp at this
   omega
theorem Ao0 (a:Int):(txtR a).1.length < 2 ^ 21:=by
 have:=All 20 a.natAbs []
 simp at this
 unfold txtR
 split
 ·split
  ·simp; omega
  ·simp; omega
 ·simp
theorem q142 (a:Int):Gives Tryz.prog ca 142 [int a] (.tup [.sc (.string ⟨⟨(txtR a).1⟩⟩),int (txtR a).2]):=by
 refine Aag Tryz.func142 rfl rfl rfl rfl (by simp [AV.bel,AV.bels]) (by simp [Tryz.f142]) (by simp [Tryz.f142]) fun m => ?_
 simp [Tryz.f142,show ca.keepRes 142 = false from rfl,(q74 a).go]
 unfold txtR
 cases hin:isIn a with
 | false => simp
 | true =>
 have hia:=Aa0.1 hin
 have ok207:(AV.agg (byts (List.replicate 20 0))).okc = true:=by kernel_rfl
 simp only [Bool.not_true,Ami]
 simp [Ayx,(q168 hin).go,ok207]
 obtain ⟨T,hT0⟩:∃ T,T = textL 20 a.natAbs []:=⟨_,rfl⟩
 rw [← hT0]
 refine Aar 13 20 (fun i s' m' => Kp m m' ∧ m.next < m'.next ∧ ∃ (p left:Nat) (suf:List UInt8),suf.length = i ∧ i + p = 19 ∧ left < 10 ^ p ∧ T = (if 0 < i ∧ left = 0 then suf else textL (p + 1) left suf) ∧ s'.at 5 = int ((p:Int) + 1) ∧ s'.at 6 = .sc (.int .u64 left) ∧ ∃ w,m'.get m.next = some (.cells (byts (List.replicate (p + 1) 0 ++ suf)) false w)) (by simp) (by omega) ⟨by simp,by simp,19,a.natAbs,[],rfl,rfl,by omega,by rw [if_neg (by omega)]; exact hT0,by simp,by simp,m.clock + 1,by simp; rfl⟩ ?_
 rintro i s' m' hi e13 ⟨hkp,hlt,p,left,suf,hsl,hip,hleft,hT,e5,e6,w,hg⟩ hsame hw Q' hn he
 have e0:s'.at 0 = int a:=(hsame 0 (by kernel_rfl)).trans (by simp)
 have e4:s'.at 4 = .ptr m.next 0:=(hsame 4 (by kernel_rfl)).trans (by simp)
 clear hsame
 have hi20:(i:Int) < 20:=by omega
 have wp:IntKind.i64.wrap (p:Int) = p:=IntWalk.i64_in _ (by omega)
 simp [e13,hi20]
 have hrep:List.replicate (p + 1) (0:UInt8) ++ suf = List.replicate p 0 ++ 0 :: suf:=by rw [List.replicate_succ']; simp
 by_cases hx:0 < i ∧ left = 0
 ·rw [if_pos hx] at hT
  have hx1:(0:Int) < i:=by omega
  have hx2:(left:Int) = 0:=by omega
  simp [hx.1,e6,hx.2]
  refine he _ _ _ (by simp) ?_
  simp [e0]
  by_cases hneg:a < 0
  ·have hp:=Ao3 (c:=45) (by rw [← hrep]; exact hg) (List.length_replicate (n:=p) (a:=(0:UInt8)))
   have hg2:(m'.set m.next (byts (List.replicate p 0 ++ 45 :: suf))).get m.next = some (.cells (byts (List.replicate p 0 ++ 45 :: suf)) false (m'.clock + 1)):=by simp
   have ha:=Ao4 hg2 (List.length_replicate (n:=p) (a:=(0:UInt8))) (by simp; omega)
   have hc:=Afd (c:=some (45 :: suf).length) hg2 (List.length_replicate (n:=p) (a:=(0:UInt8)))
   have hix:=Ayp (id:=m.next) (i:=p) (q:=.i64) (by omega)
   have h45:((45:UInt8).toNat:Int) = 45:=rfl
   rw [h45] at hp
   simp only [List.length_cons] at hc ha
   simp [-Abz,hneg,e5,e4,wp,hix,hp,Ayv,ha,cv207,hc]
   exact ⟨hT.symm,hkp⟩
  ·have ha:=Ao4 hg (List.length_replicate (n:=p + 1) (a:=(0:UInt8))) (by simp; omega)
   have hc:=Afd (c:=some suf.length) hg (List.length_replicate (n:=p + 1) (a:=(0:UInt8)))
   rw [Int.natCast_add,Int.natCast_one] at ha
   simp [hneg,e5,e4,Ayv,ha,cv207,hc]
   exact ⟨hT.symm,hkp⟩
 ·rw [if_neg hx] at hT
  have hp0:p ≠ 0:=by
   rintro rfl
   exact hx ⟨by omega,by simpa using hleft⟩
  obtain ⟨p',rfl⟩:∃ p',p = p' + 1:=⟨p - 1,by omega⟩
  obtain ⟨r,hr⟩:∃ r,left % 10 = r:=⟨_,rfl⟩
  obtain ⟨q,hq⟩:∃ q,left / 10 = q:=⟨_,rfl⟩
  have hr10:r < 10:=by omega
  have hlb:left < 18446744073709551616:=by
   have:10 ^ (p' + 1) ≤ 10 ^ 19:=Nat.pow_le_pow_right (by decide) (by omega)
   have:(10:Nat) ^ 19 < 18446744073709551616:=by decide
   omega
  have w48:IntKind.u64.wrap (48 + (r:Int)) = 48 + (r:Int):=IntWalk.u64_in _ (by omega)
  have w8:IntKind.u8.wrap (48 + (r:Int)) = ((digit r).toNat:Int):=by rw [IntWalk.u8_in _ (by omega),Amu hr10]; omega
  have hp:=Ao3 (c:=digit r) (by rw [← hrep]; exact hg) (List.length_replicate (n:=p' + 1) (a:=(0:UInt8)))
  have hix:=Ayp (id:=m.next) (i:=p' + 1) (q:=.i64) (by omega)
  rw [Int.natCast_add,Int.natCast_one] at hix wp
  have step:Kp m (m'.set m.next (byts (List.replicate (p' + 1) 0 ++ digit r :: suf))) ∧ m.next < (m'.set m.next (byts (List.replicate (p' + 1) 0 ++ digit r :: suf))).next:=⟨hkp.set (Nat.le_refl _) _,by simpa using hlt⟩
  have hT':T = (if 0 < i + 1 ∧ q = 0 then digit r :: suf else textL (p' + 1) q (digit r :: suf)):=by
   rw [hT,textL,hr,hq]
   by_cases h0:q = 0
   ·simp [h0]
   ·simp [h0]
  have hq':q < 10 ^ p':=by rw [Nat.pow_succ] at hleft; omega
  rcases (show ¬ 0 < i ∨ (0 < i ∧ left ≠ 0) by omega) with hi0 | ⟨hi0,hl0⟩
  ·have hx1:¬ (0:Int) < i:=by omega
   simp [-Abz,hi0,undefV,undef,e5,e6,wp,e4,hix,rem10 hr,w48,w8,hp,quo10 hq hlb,hw,e13]
   refine hn _ _ (by omega) (by simp) ⟨step.1,step.2,p',q,digit r :: suf,by simp; omega,by omega,hq',hT',by simp,by simp,m'.clock + 1,by simp⟩
  ·have hx1:(0:Int) < i:=by omega
   have hx2:¬ (left:Int) = 0:=by omega
   simp [-Abz,hi0,hl0,e5,e6,wp,e4,hix,rem10 hr,w48,w8,hp,quo10 hq hlb,hw,e13]
   refine hn _ _ (by omega) (by simp) ⟨step.1,step.2,p',q,digit r :: suf,by simp; omega,by omega,hq',hT',by simp,by simp,m'.clock + 1,by simp⟩
def isDig (c:UInt8):Bool:=decide (48 ≤ c.toNat) && decide (c.toNat ≤ 57)
def numS (n:Nat) (c:UInt8):Nat:=10 * n + (c.toNat - 48)
def numL (n:Nat) (l:List UInt8):Nat:=l.foldl numS n
def parseD (minus:Bool) (all:Nat) (d:List UInt8):Int × Int:=if d = [] then (0,5) else if d.head? = some 48 ∧ 1 < all then (0,5) else if d.all isDig = false then (0,5) else if 19 < d.length then (0,10) else sgnR 0 (numL 0 d) minus
def parseR (s:List UInt8):Int × Int:=if s.head? = some 45 then parseD true s.length s.tail else parseD false s.length s
theorem Adw (n:Nat):numL n [] = n:=by unfold numL; rw [List.foldl_nil]
theorem Adk (n:Nat) (c:UInt8) (l:List UInt8):numL n (c :: l) = numL (10 * n + (c.toNat - 48)) l:=by unfold numL; rw [List.foldl_cons,numS]
theorem u8_of {c:UInt8} {k:Nat} (h:(c.toNat:Int) = (k:Int)) (hk:k < 256):c = UInt8.ofNat k:=by
 apply UInt8.toNat_inj.1
 rw [UInt8.toNat_ofNat']
 omega
theorem q140 (s:List UInt8) (hs:s.length < 2 ^ 60):Gives Tryz.prog ca 140 [strA s] (.tup [int (parseR s).1,int (parseR s).2]):=by
 refine Aag Tryz.func140 rfl rfl rfl rfl (by simp [AV.bel,AV.bels]) (by simp [Tryz.f140]) (by simp [Tryz.f140]) fun m => ?_
 simp only [Tryz.f140,show ca.keepRes 140 = false from rfl]
 cases s with
 | nil => simp [Abi Tryz.underlying9,parseR,parseD,undefV,undef]
 | cons c l =>
 have ix0:=Aip (P:=Tryz.prog) (q:=.i64) Tryz.underlying9 (b:=c) (l:=l)
 have hlen:(0:Int) < ((c :: l).length:Int):=by simp only [List.length_cons]; omega
 have sl1:=Aol (P:=Tryz.prog) Tryz.underlying9 (l:=c :: l) (i:=1) (by simp)
 simp only [List.drop_succ_cons,List.drop_zero] at sl1
 have sl1':aslice Tryz.prog 9 (strA (c :: l)) (some (int 1)) none none = some (strA l):=sl1
 obtain ⟨minus,d,hmd⟩:∃ (minus:Bool) (d:List UInt8),minus = decide (c = 45) ∧ d = (if c = 45 then l else c :: l):=⟨_,_,rfl,rfl⟩
 obtain ⟨hmin,hd⟩:=hmd
 have hres:parseR (c :: l) = parseD minus (c :: l).length d:=by
  unfold parseR
  rw [hmin,hd]
  by_cases h:c = 45
  ·subst h; simp
  ·simp [h]
 rw [hres]
 have hc45:decide ((c.toNat:Int) = 45) = minus:=by
  rw [hmin]
  by_cases h:c = 45
  ·subst h; rfl
  ·have:¬ (c.toNat:Int) = 45:=fun e => h (by have:=u8_of (k:=45) e (by omega); exact this)
   simp [h,this]
 have hdl:d.length ≤ (c :: l).length:=by rw [hd]; split <;> simp
 simp [Abi Tryz.underlying9,hlen,ix0]
 refine Aex (fun s' m' => m' = m ∧ s'.at 0 = strA (c :: l) ∧ s'.at 4 = .sc (.bool minus) ∧ s'.at 5 = strA d) (fun h k' hk' => ?_) (fun h k' hk' => ?_) ?_
 ·have hm:minus = true:=by rw [← hc45]; exact h
  have hc:c = 45:=by rw [hmin] at hm; exact of_decide_eq_true hm
  simp [sl1']
  refine hk' _ _ ⟨rfl,by simp,by rw [← hc45]; simp,by rw [hd,if_pos hc]; simp⟩
 ·have hm:minus = false:=by rw [← hc45]; exact h
  have hc:¬ c = 45:=by rw [hmin] at hm; exact of_decide_eq_false hm
  simp
  refine hk' _ _ ⟨rfl,by simp,by rw [← hc45]; simp,by rw [hd,if_neg hc]; simp⟩
 rintro s' m' ⟨hm,e0,e4,e5⟩
 rw [hm]
 clear hm m'
 clear hc45 hres hmin ix0 sl1 sl1'
 have ln5:∀ (R:TypeId) (m:Mem),abuiltin Tryz.prog .len #[9] R [strA d] m = some (int d.length,m):=fun R m => Abi Tryz.underlying9
 have ln0:∀ (R:TypeId) (m:Mem),abuiltin Tryz.prog .len #[9] R [strA (c :: l)] m = some (int (l.length + 1),m):=fun R m => by rw [Abi Tryz.underlying9]; rfl
 simp only [List.length_cons] at hs hdl
 clear hlen hd
 cases hd0:d[0]? with
 | none =>
  have hz:d = []:=by cases d with | nil => rfl | cons x y => simp at hd0
  have hP:parseD minus (l.length + 1) d = (0,5):=by rw [parseD,if_pos hz]
  rw [hP]
  have hz':d.length = 0:=by rw [hz]; rfl
  simp [e5,ln5,hz',undefV,undef]
 | some c' =>
 have hne:d ≠ []:=by rintro rfl; simp at hd0
 have hhead:d.head? = some c':=by rw [← hd0]; cases d <;> rfl
 have hlp:¬ d.length = 0:=fun e => hne (List.eq_nil_of_length_eq_zero e)
 have ix5:aindex Tryz.prog 9 (strA d) (int 0) = some (.sc (.int .u8 c'.toNat)):=Abd Tryz.underlying9 hd0
 by_cases h48:c' = 48
 ·have h48':(c'.toNat:Int) = 48:=by rw [h48]; rfl
  by_cases hall1:1 < l.length + 1
  ·have hP:parseD minus (l.length + 1) d = (0,5):=by rw [parseD,if_neg hne,if_pos ⟨by rw [hhead,h48],hall1⟩]
   rw [hP]
   have hl1:(1:Int) < (l.length:Int) + 1:=by omega
   simp [e5,ln5,hlp,ix5,h48',e0,ln0,hl1]
  have hl1:¬ (1:Int) < (l.length:Int) + 1:=by omega
  have hP:parseD minus (l.length + 1) d = if d.all isDig = false then (0,5) else if 19 < d.length then (0,10) else sgnR 0 (numL 0 d) minus:=by rw [parseD,if_neg hne,if_neg (fun q => hall1 q.2)]
  simp [e5,ln5,hlp,ix5,h48',e0,ln0,hl1]
  refine Aar 40 d.length (fun i s' m' => Kp m m' ∧ (d.take i).all isDig = true ∧ ∃ nn:Nat,s'.at 6 = .sc (.int .u64 nn) ∧ (¬ 19 < d.length → numL 0 d = numL nn (d.drop i) ∧ nn < 10 ^ i)) (by simp) (by omega) ⟨.refl _,by simp,0,by simp,fun _ => ⟨by simp,by simp⟩⟩ ?_
  rintro i s2 m2 hi e40 ⟨hkp,hall,nn,e6,hnn⟩ hsame hw Q' hn he
  have f4:s2.at 4 = .sc (.bool minus):=(hsame 4 (by kernel_rfl)).trans (by simp [e4])
  have f5:s2.at 5 = strA d:=(hsame 5 (by kernel_rfl)).trans (by simp [e5])
  have f7:s2.at 7 = .sc (.bool (decide (19 < d.length))):=(hsame 7 (by kernel_rfl)).trans (by simp; omega)
  have f39:s2.at 39 = int d.length:=(hsame 39 (by kernel_rfl)).trans (by simp)
  clear hsame
  simp [e40,f39]
  refine Aad (fun h => ?_) fun h => ?_
  ·have hlt:i < d.length:=by simpa using h
   obtain ⟨b,hb⟩:∃ b,d[i]? = some b:=⟨_,List.getElem?_eq_getElem hlt⟩
   have ixb:aindex Tryz.prog 9 (strA d) (int i) = some (.sc (.int .u8 b.toNat)):=Abd Tryz.underlying9 hb
   have hbl:=b.toNat_lt
   have bad:isDig b = false → parseD minus (l.length + 1) d = (0,5):=fun hb5 => by
    rw [hP]
    have:d.all isDig = false:=List.all_eq_false.2 ⟨b,List.mem_of_getElem? hb,by simp [hb5]⟩
    simp [this]
   have htake:(d.take (i + 1)).all isDig = ((d.take i).all isDig && isDig b):=by
    rw [List.take_add_one,hb]
    simp
   simp [e40,f5,ixb]
   by_cases g1:b.toNat < 48
   ·have g1':(b.toNat:Int) < 48:=by omega
    simp [g1',undefV,undef]
    refine he _ _ _ (by simp) ?_
    rw [bad (by simp [isDig]; omega)]
    simp
    exact hkp
   have g1':¬ (b.toNat:Int) < 48:=by omega
   by_cases g2:57 < b.toNat
   ·have g2':(57:Int) < b.toNat:=by omega
    simp [g1',g2']
    refine he _ _ _ (by simp) ?_
    rw [bad (by simp [isDig]; omega)]
    simp
    exact hkp
   have g2':¬ (57:Int) < b.toNat:=by omega
   have hdb:isDig b = true:=by simp [isDig]; omega
   by_cases hov:19 < d.length
   ·simp [g1',g2',f7,hov,e40,hw]
    exact hn _ _ hlt (by simp) ⟨hkp,by rw [htake,hall,hdb]; rfl,nn,by simp [e6],fun h => absurd hov h⟩
   ·obtain ⟨h1,h2⟩:=hnn hov
    have p18:10 ^ i ≤ 10 ^ 18:=Nat.pow_le_pow_right (by decide) (by omega)
    have n18:(10:Nat) ^ 18 = 1000000000000000000:=by decide
    have pw:10 ^ (i + 1) = 10 ^ i * 10:=Nat.pow_succ ..
    have w1:IntKind.u64.wrap (10 * (nn:Int)) = 10 * (nn:Int):=IntWalk.u64_in _ (by omega)
    have w2:IntKind.u8.wrap ((b.toNat:Int) - 48) = (b.toNat:Int) - 48:=IntWalk.u8_in _ (by omega)
    have w3:IntKind.u64.wrap ((b.toNat:Int) - 48) = (b.toNat:Int) - 48:=IntWalk.u64_in _ (by omega)
    have w4:IntKind.u64.wrap (10 * (nn:Int) + ((b.toNat:Int) - 48)) = ((10 * nn + (b.toNat - 48):Nat):Int):=by rw [IntWalk.u64_in _ (by omega)]; omega
    have hdr:d.drop i = b :: d.drop (i + 1):=by
     obtain ⟨q1,q2⟩:=List.getElem?_eq_some_iff.1 hb
     rw [List.drop_eq_getElem_cons q1,q2]
    rw [hdr,Adk] at h1
    simp [g1',g2',f7,hov,e6,Add,w1,w2,w3,w4,e40,hw]
    refine hn _ _ hlt (by simp) ⟨hkp,by rw [htake,hall,hdb]; rfl,10 * nn + (b.toNat - 48),by simp,fun _ => ⟨h1,by omega⟩⟩
  ·have hge:i = d.length:=by have:=of_decide_eq_false h; omega
   subst hge
   rw [List.take_length] at hall
   simp
   refine he _ _ _ (by simp) ?_
   by_cases hov:19 < d.length
   ·rw [hP]
    simp [f7,hov,hall]
    exact hkp
   ·obtain ⟨h1,_⟩:=hnn hov
    rw [List.drop_length,Adw] at h1
    rw [hP]
    have q9:Gives Tryz.prog ca 169 [.sc (.int .u64 0),.sc (.int .u64 nn),.sc (.bool minus)] _:=q169 0 nn minus
    simp [f7,hov,hall,e6,f4,q9.go,h1]
    exact hkp
 ·have h48':¬ (c'.toNat:Int) = 48:=fun e => h48 (u8_of (k:=48) e (by omega))
  have hP:parseD minus (l.length + 1) d = if d.all isDig = false then (0,5) else if 19 < d.length then (0,10) else sgnR 0 (numL 0 d) minus:=by rw [parseD,if_neg hne,if_neg (fun q => h48 (by rw [hhead] at q; exact Option.some.inj q.1))]
  simp [e5,ln5,hlp,ix5,h48',undefV,undef]
  refine Aar 40 d.length (fun i s' m' => Kp m m' ∧ (d.take i).all isDig = true ∧ ∃ nn:Nat,s'.at 6 = .sc (.int .u64 nn) ∧ (¬ 19 < d.length → numL 0 d = numL nn (d.drop i) ∧ nn < 10 ^ i)) (by simp) (by omega) ⟨.refl _,by simp,0,by simp,fun _ => ⟨by simp,by simp⟩⟩ ?_
  rintro i s2 m2 hi e40 ⟨hkp,hall,nn,e6,hnn⟩ hsame hw Q' hn he
  have f4:s2.at 4 = .sc (.bool minus):=(hsame 4 (by kernel_rfl)).trans (by simp [e4])
  have f5:s2.at 5 = strA d:=(hsame 5 (by kernel_rfl)).trans (by simp [e5])
  have f7:s2.at 7 = .sc (.bool (decide (19 < d.length))):=(hsame 7 (by kernel_rfl)).trans (by simp; omega)
  have f39:s2.at 39 = int d.length:=(hsame 39 (by kernel_rfl)).trans (by simp)
  clear hsame
  simp [e40,f39]
  refine Aad (fun h => ?_) fun h => ?_
  ·have hlt:i < d.length:=by simpa using h
   obtain ⟨b,hb⟩:∃ b,d[i]? = some b:=⟨_,List.getElem?_eq_getElem hlt⟩
   have ixb:aindex Tryz.prog 9 (strA d) (int i) = some (.sc (.int .u8 b.toNat)):=Abd Tryz.underlying9 hb
   have hbl:=b.toNat_lt
   have bad:isDig b = false → parseD minus (l.length + 1) d = (0,5):=fun hb5 => by
    rw [hP]
    have:d.all isDig = false:=List.all_eq_false.2 ⟨b,List.mem_of_getElem? hb,by simp [hb5]⟩
    simp [this]
   have htake:(d.take (i + 1)).all isDig = ((d.take i).all isDig && isDig b):=by
    rw [List.take_add_one,hb]
    simp
   simp [e40,f5,ixb]
   by_cases g1:b.toNat < 48
   ·have g1':(b.toNat:Int) < 48:=by omega
    simp [g1',undefV,undef]
    refine he _ _ _ (by simp) ?_
    rw [bad (by simp [isDig]; omega)]
    simp
    exact hkp
   have g1':¬ (b.toNat:Int) < 48:=by omega
   by_cases g2:57 < b.toNat
   ·have g2':(57:Int) < b.toNat:=by omega
    simp [g1',g2']
    refine he _ _ _ (by simp) ?_
    rw [bad (by simp [isDig]; omega)]
    simp
    exact hkp
   have g2':¬ (57:Int) < b.toNat:=by omega
   have hdb:isDig b = true:=by simp [isDig]; omega
   by_cases hov:19 < d.length
   ·simp [g1',g2',f7,hov,e40,hw]
    exact hn _ _ hlt (by simp) ⟨hkp,by rw [htake,hall,hdb]; rfl,nn,by simp [e6],fun h => absurd hov h⟩
   ·obtain ⟨h1,h2⟩:=hnn hov
    have p18:10 ^ i ≤ 10 ^ 18:=Nat.pow_le_pow_right (by decide) (by omega)
    have n18:(10:Nat) ^ 18 = 1000000000000000000:=by decide
    have pw:10 ^ (i + 1) = 10 ^ i * 10:=Nat.pow_succ ..
    have w1:IntKind.u64.wrap (10 * (nn:Int)) = 10 * (nn:Int):=IntWalk.u64_in _ (by omega)
    have w2:IntKind.u8.wrap ((b.toNat:Int) - 48) = (b.toNat:Int) - 48:=IntWalk.u8_in _ (by omega)
    have w3:IntKind.u64.wrap ((b.toNat:Int) - 48) = (b.toNat:Int) - 48:=IntWalk.u64_in _ (by omega)
    have w4:IntKind.u64.wrap (10 * (nn:Int) + ((b.toNat:Int) - 48)) = ((10 * nn + (b.toNat - 48):Nat):Int):=by rw [IntWalk.u64_in _ (by omega)]; omega
    have hdr:d.drop i = b :: d.drop (i + 1):=by
     obtain ⟨q1,q2⟩:=List.getElem?_eq_some_iff.1 hb
     rw [List.drop_eq_getElem_cons q1,q2]
    rw [hdr,Adk] at h1
    simp [g1',g2',f7,hov,e6,Add,w1,w2,w3,w4,e40,hw]
    refine hn _ _ hlt (by simp) ⟨hkp,by rw [htake,hall,hdb]; rfl,10 * nn + (b.toNat - 48),by simp,fun _ => ⟨h1,by omega⟩⟩
  ·have hge:i = d.length:=by have:=of_decide_eq_false h; omega
   subst hge
   rw [List.take_length] at hall
   simp
   refine he _ _ _ (by simp) ?_
   by_cases hov:19 < d.length
   ·rw [hP]
    simp [f7,hov,hall]
    exact hkp
   ·obtain ⟨h1,_⟩:=hnn hov
    rw [List.drop_length,Adw] at h1
    rw [hP]
    have q9:Gives Tryz.prog ca 169 [.sc (.int .u64 0),.sc (.int .u64 nn),.sc (.bool minus)] _:=q169 0 nn minus
    simp [f7,hov,hall,e6,f4,q9.go,h1]
    exact hkp
theorem Aeh {a:ArM} (h:Small a) (v:Val):(getM a v).1.s.length ≤ 4096:=by
 unfold getM
 cases hi:ixM a v with
 | none => simp [zeroC]
 | some i =>
  obtain ⟨_,c,hc⟩:=Ab6 hi
  simp only [List.getD_eq_getElem?_getD,hc,Option.getD_some]
  exact (h c (List.mem_of_getElem? hc)).2
theorem cby (s:List UInt8):aconvert Tryz.prog 76 9 (.lst (byts s)) = some (strA s):=Air Tryz.underlying76 Tryz.underlying9 Tryz.underlying5 (Afx s)
theorem csb (s:List UInt8):aconvert Tryz.prog 9 76 (strA s) = some (.lst (byts s)):=Aiq Tryz.underlying9 Tryz.underlying76 Tryz.underlying5
section
variable {X:Nat → Prop} {A C:Nat} {a:ArM} {n:Int} {l:List Val} {m:Mem}
theorem q141 (hA:Ar X A a m) {i:Nat} {s:List UInt8} (hs:a.names[i]? = some s):EH Tryz.prog ca (.func 141) [.ptr A 0,valA (5,(i:Int))] m (.tup [strA s,int 0]) m:=by
 have hlt:=(List.getElem?_eq_some_iff.1 hs).1
 have k1:Kp m (m.new [int 5,int i] false):=by simp
 have q1:=q34 (hA.kp k1)
 have q2:=q41 (hA.kp k1) (5,(i:Int))
 have hg:goodM a (5,(i:Int)) = true:=by simp [goodM,below]; omega
 rw [hg] at q2
 have q2':EH Tryz.prog ca (.func 41) [.ptr A 0,.agg [int 5,int i]] (m.new [int 5,int i] false) (.sc (.bool true)) (m.new [int 5,int i] false):=q2
 have hAl:=hA.lt
 obtain ⟨t,M,cs,ns,xs,h,hx⟩:=hA
 obtain ⟨w,hv⟩:=h.get
 refine Abj Tryz.func141 rfl rfl rfl rfl (args1:=[.ptr A 0,valA (5,(i:Int))]) (m1:=m) (by simp [fzvs]) (by simp [AV.bel,AV.bels]) (by simp [Tryz.f141]) (by simp [Tryz.f141]) ?_
 simp only [Tryz.f141,show ca.keepRes 141 = false from rfl]
 have nA:A ≠ m.next:=by omega
 obtain ⟨e,_⟩ | ⟨_,id,u,rfl,hid,htid,hgid⟩:=h.names
 ·have:=congrArg List.length e
  simp at this
  rw [this] at hlt
  simp at hlt
 have hix:=Aaj (P:=Tryz.prog) (q:=.i64) (ag:=false) (c:=none) (id:=id) (off:=0) (len:=(a.names.map strA).length) (i:=i) Tryz.underlying85 Ao1 (by simpa using hlt)
 have ok:okAll 1 (a.names.map strA) = true:=by
  generalize a.names = l
  induction l with
  | nil => rfl
  | cons x l ih => rw [List.map_cons,Aao,ih]; simp
 obtain ⟨f1,f2⟩:=Abq (k:=1) (ys:=a.names.map strA) (j:=i) (y:=strA s) ok (by simp [hs])
 have hat:(flat (a.names.map strA))[i]? = some (strA s):=by
  have:=congrArg (fun l => l[0]?) f2
  simp only [Nat.mul_one,List.getElem?_take_of_lt (show 0 < 1 by omega),List.getElem?_drop] at this
  simpa using this
 have nid:id ≠ m.next:=by omega
 simp only [List.length_map] at hix
 simp [q1.go,q2'.go]
 refine Aah (by kernel_rfl) (by kernel_rfl) ?_
 simp [hv,nA,hix,nid,hgid,hat]
def textC (a:ArM) (s:List UInt8):Val × ArM × Int:=allocC a 0 ⟨3,0,[],s⟩
theorem q138 (hA:Ar X A a m) (hX:∀ j,X j → j < m.next) (hXC:¬ X C) (hC:has m C (clC A n l 0)) (s:List UInt8) (hs:s.length < 2 ^ 21):wph Tryz.prog ca (.func 138) [.ptr C 0,strA s] m fun v m' => v = valA (textC a s).1 ∧ Cs X A C n l (textC a s).2.1 (textC a s).2.2 m m':=by
 have hCl:=hC.1
 refine Aas Tryz.func138 rfl rfl (by simp [Tryz.f138]) (by simp [Tryz.f138]) fun Q hQ => ?_
 simp only [Tryz.f138,show ca.keepRes 138 = false from rfl,show ca.keepArgs 138 = false from rfl] at hQ ⊢
 obtain ⟨M1,hM1⟩:∃ M1,M1 = m.new [int 0,int 0] false:=⟨_,rfl⟩
 have k1:Kp m M1:=by rw [hM1]; simp
 have n1:M1.next = m.next + 1:=by rw [hM1]; simp
 have b0:M1.get m.next = some (.cells [int 0,int 0] false (m.clock + 1)):=by rw [hM1]; simp
 have cs:=csb s
 simp only [strA] at cs
 simp [cs,abuild,placesOf,fillAt]
 rw [← hM1]
 clear hM1
 refine Aae (Auq (hA.kp k1) (fun j h => by have:=hX j h; omega) hXC (hC.kp k1) (kd:=3) (s:=s) hs) ?_
 rintro _ m5 ⟨rfl,hcs⟩
 obtain ⟨X',_,_,kc5,_⟩:=id hcs
 have g5:=(kc5.get m.next (by omega) (fun h => by rcases h with h | h; have:=hX _ h; omega; omega)).trans b0
 simp [g5,Aaa]
 refine hQ _ _ _ ?_
 rw [Aaf]
 refine ⟨[valA (textC a s).1],by simp [aresult,aload,partOf,Aaa,textC],?_⟩
 simp only [Bool.false_eq_true,if_false,oneOf,Aa5]
 exact ⟨trivial,Cs.box k1 hX hCl hcs (by omega) (by omega) _⟩
def symC (a:ArM) (s:List UInt8):Val × ArM × Int:=if Sym s = true then (if (symM a s).2.2 ≠ 0 then ((0,0),(symM a s).1,8) else ((symM a s).2.1,(symM a s).1,0)) else ((0,0),a,6)
theorem q139 (hA:Ar X A a m) (hX:∀ j,X j → j < m.next) (hXC:¬ X C) (hC:has m C (clC A n l 0)) (s:List UInt8) (hs:s.length < 2 ^ 21):wph Tryz.prog ca (.func 139) [.ptr C 0,strA s] m fun v m' => v = valA (symC a s).1 ∧ Cs X A C n l (symC a s).2.1 (symC a s).2.2 m m':=by
 have hCl:=hC.1
 refine Aas Tryz.func139 rfl rfl (by simp [Tryz.f139]) (by simp [Tryz.f139]) fun Q hQ => ?_
 simp only [Tryz.f139,show ca.keepRes 139 = false from rfl,show ca.keepArgs 139 = false from rfl] at hQ ⊢
 obtain ⟨M1,hM1⟩:∃ M1,M1 = m.new [int 0,int 0] false:=⟨_,rfl⟩
 have k1:Kp m M1:=by rw [hM1]; simp
 have n1:M1.next = m.next + 1:=by rw [hM1]; simp
 have b0:M1.get m.next = some (.cells [int 0,int 0] false (m.clock + 1)):=by rw [hM1]; simp
 have hA1:=hA.kp k1
 have hX1:∀ j,X j → j < M1.next:=fun j h => by have:=hX j h; omega
 have hC1:=hC.kp k1
 obtain ⟨_,w,gC⟩:=id hC1
 obtain ⟨res,hres⟩:∃ res,res = symC a s:=⟨_,rfl⟩
 rw [← hres] at hQ
 have fin:∀ (s':Sl) (m5:Mem) (v:Val),s'.at 4 = .ptr m.next 0 → (∃ w,(m5.set m.next [int v.1,int v.2]).get m.next = some (.cells [int v.1,int v.2] false w)) → res.1 = v → Cs X A C n l res.2.1 res.2.2 M1 m5 → Q .ret s' (m5.set m.next [int v.1,int v.2]):=by
  intro s' m5 v h6 ⟨w,hg⟩ hv hcs
  refine hQ _ _ _ ?_
  rw [Aaf]
  refine ⟨[valA v],by simp [aresult,h6,hg,aload,partOf,Aaa],?_⟩
  simp only [Bool.false_eq_true,if_false,oneOf,Aa5,hv]
  exact ⟨trivial,Cs.box k1 hX hCl hcs (by omega) (by omega) _⟩
 simp [(Ad2 (g12 s (by omega))).go]
 rw [← hM1]
 clear hM1
 cases hsy:Sym s with
 | false =>
  rw [symC,hsy,if_neg (by decide)] at hres
  simp
  refine Aae (q134 hC1 6) ?_
  rintro _ m5 ⟨rfl,kc,hc⟩
  have g5:=(kc.get m.next (by omega) (by omega)).trans b0
  simp [g5,Aaa]
  exact fin _ _ (0,0) (by simp) ⟨_,by simp; rfl⟩ (by rw [hres]) (by rw [hres]; exact Cs.of_c hA1 hX1 hXC kc hc)
 | true =>
 rw [symC,hsy,if_pos rfl] at hres
 simp [gC]
 refine Aae (q59 hA1 s (by omega)) ?_
 rintro _ m5 ⟨rfl,hup⟩
 obtain ⟨X',hA5,kc5,hX5⟩:=hup.out
 have n5:=kc5.next
 have b5:=(kc5.get m.next (by omega) (fun h => by have:=hX _ h; omega)).trans b0
 have k6:Kp m5 ((m5.new [int 0,int 0] false).set m5.next [int (symM a s).2.1.1,int (symM a s).2.1.2]):=by simp
 have z0:m.next ≠ m5.next:=by omega
 have hcs:Cs X A C n l (symM a s).1 0 M1 ((m5.new [int 0,int 0] false).set m5.next [int (symM a s).2.1.1,int (symM a s).2.1.2]):=⟨X',hA5.kp k6,fun j h => ⟨(hX5 j h).1,Nat.lt_of_lt_of_le (hX5 j h).2 k6.next⟩,(kc5.mono fun j h => .inl h).trans (.of (.of k6)),(hC1.kc kc5 hXC).kp k6⟩
 simp
 by_cases hz:(symM a s).2.2 = 0
 ·rw [if_neg (by simp [hz])] at hres
  simp [hz,b5,z0]
  exact fin _ _ _ (by simp) ⟨_,by simp; rfl⟩ (by rw [hres]) (by rw [hres]; exact hcs)
 ·rw [if_pos hz] at hres
  simp [hz]
  obtain ⟨X6,hA6,hX6,kc6,hC6⟩:=hcs
  refine Aae (q134 hC6 8) ?_
  rintro _ m7 ⟨rfl,kc7,hc7⟩
  have b6:=(kc6.get m.next (by omega) (fun h => by rcases h with h | h; have:=hX _ h; omega; omega)).trans b0
  have n6:=kc6.next
  have b7:=(kc7.get m.next (by omega) (by omega)).trans b6
  have hc8:has m7 C (clC A n l 8):=hc7
  simp [b7,Aaa]
  refine fin _ _ (0,0) (by simp) ⟨_,by simp; rfl⟩ (by rw [hres]) ?_
  rw [hres]
  exact ⟨X6,hA6.kc kc7 fun j h e => by
    have e:j = C:=e
    subst e
    rcases (hX6 j h).1 with h | h
    ·exact absurd h hXC
    ·omega,fun j h => ⟨(hX6 j h).1,Nat.lt_of_lt_of_le (hX6 j h).2 kc7.next⟩,kc6.trans (kc7.mono fun j h => .inr h),hc8⟩
def joinL (a:ArM):List UInt8 → List Val → Option (List UInt8)
 | acc,[] => some acc
 | acc,v :: l => if 256 < (acc ++ (getM a v).1.s).length then none else joinL a (acc ++ (getM a v).1.s) l
def joinC (a:ArM) (l:List Val):Val × ArM × Int:=match joinL a [] l with | some s => textC a s | none => ((0,0),a,6)
end
section
variable {X:Nat → Prop} {A C:Nat} {a:ArM} {n:Int} {l:List Val} {m:Mem}
theorem q137 (hA:Ar X A a m) (hX:∀ j,X j → j < m.next) (hsm:Small a) (hXC:¬ X C) (hC:has m C (clC A n l 0)) (hll:l.length ≤ 4096):wph Tryz.prog ca (.func 137) [.ptr C 0] m fun v m' => v = valA (joinC a l).1 ∧ Cs X A C n l (joinC a l).2.1 (joinC a l).2.2 m m':=by
 have hCl:=hC.1
 refine Aas Tryz.func137 rfl rfl (by simp [Tryz.f137]) (by simp [Tryz.f137]) fun Q hQ => ?_
 simp only [Tryz.f137,show ca.keepRes 137 = false from rfl,show ca.keepArgs 137 = false from rfl] at hQ ⊢
 have ln:∀ (R:TypeId) (m:Mem),abuiltin Tryz.prog .len #[66] R [.lst (vals l)] m = some (int l.length,m):=fun R m => by rw [Aat Tryz.underlying66]; simp
 obtain ⟨M1,hM1⟩:∃ M1,M1 = m.new [int 0,int 0] false:=⟨_,rfl⟩
 have k1:Kp m M1:=by rw [hM1]; simp
 have n1:M1.next = m.next + 1:=by rw [hM1]; simp
 have b0:M1.get m.next = some (.cells [int 0,int 0] false (m.clock + 1)):=by rw [hM1]; simp
 have hA1:=hA.kp k1
 have hX1:∀ j,X j → j < M1.next:=fun j h => by have:=hX j h; omega
 have hC1:=hC.kp k1
 obtain ⟨_,w,gC⟩:=id hC1
 obtain ⟨_,w',gC0⟩:=id hC
 have c0:C ≠ m.next:=by omega
 obtain ⟨res,hres⟩:∃ res,res = joinC a l:=⟨_,rfl⟩
 rw [← hres] at hQ
 have fin:∀ (s':Sl) (m5:Mem) (v:Val),s'.at 2 = .ptr m.next 0 → (∃ w,(m5.set m.next [int v.1,int v.2]).get m.next = some (.cells [int v.1,int v.2] false w)) → res.1 = v → Cs X A C n l res.2.1 res.2.2 M1 m5 → Q .ret s' (m5.set m.next [int v.1,int v.2]):=by
  intro s' m5 v h6 ⟨w,hg⟩ hv hcs
  refine hQ _ _ _ ?_
  rw [Aaf]
  refine ⟨[valA v],by simp [aresult,h6,hg,aload,partOf,Aaa],?_⟩
  simp only [Bool.false_eq_true,if_false,oneOf,Aa5,hv]
  exact ⟨trivial,Cs.box k1 hX hCl hcs (by omega) (by omega) _⟩
 have got:∀ {m5:Mem} {a':ArM} {k':Int},Cs X A C n l a' k' M1 m5 → m5.get m.next = some (.cells [int 0,int 0] false (m.clock + 1)):=fun {m5 a' k'} hcs => by
  obtain ⟨X',_,_,kc5,_⟩:=id hcs
  exact (kc5.get m.next (by omega) (fun h => by rcases h with h | h; have:=hX _ h; omega; omega)).trans b0
 have bad:∀ {m5:Mem},KpC (fun j => j = C) M1 m5 ∧ has m5 C (clC A n l (failK 0 6)) → Cs X A C n l a 6 M1 m5:=fun {m5} h => Cs.of_c hA1 hX1 hXC h.1 h.2
 simp [gC0,c0,ln]
 rw [← hM1]
 clear hM1
 refine Aar 11 l.length (fun i s' m' => Kp M1 m' ∧ ∃ acc,s'.at 3 = strA acc ∧ acc.length ≤ 256 ∧ joinL a [] l = joinL a acc (l.drop i)) (by simp) (by omega) ⟨.refl _,[],by simp,by simp,by simp⟩ ?_
 rintro i s' m' hi e11 ⟨hkp,acc,e3,hacc,hj⟩ hsame hw Q' hn he
 have e0:s'.at 0 = .ptr C 0:=(hsame 0 (by kernel_rfl)).trans (by simp)
 have e2:s'.at 2 = .ptr m.next 0:=(hsame 2 (by kernel_rfl)).trans (by simp)
 have e9:s'.at 9 = .lst (vals l):=(hsame 9 (by kernel_rfl)).trans (by simp)
 have e10:s'.at 10 = int l.length:=(hsame 10 (by kernel_rfl)).trans (by simp)
 clear hsame
 have n':=hkp.next
 have g':=(hkp.get m.next (by omega)).trans b0
 simp [e10,e11]
 refine Aad (fun h => ?_) fun h => ?_
 ·have hlt:i < l.length:=by simpa using h
  obtain ⟨v,hv⟩:∃ v,l[i]? = some v:=⟨_,List.getElem?_eq_getElem hlt⟩
  have hix:=Aak hv
  rw [Adg hv,joinL] at hj
  have k4:Kp m' ((m'.new [int 0,int 0] false).set m'.next [int v.1,int v.2]):=by simp
  have q:=q112 (hA1.kp (hkp.trans k4)) hsm (hC1.kp (hkp.trans k4)) v
  have gs:=Aeh hsm v
  have cat:=fun {t:TypeId} {x y:Operand} => Ak7 (P:=Tryz.prog) (t:=t) (x:=x) (y:=y) (a:=acc) (b:=(getM a v).1.s) (by omega)
  have z0:m.next ≠ m'.next:=by omega
  simp [e11,e9,hix,Aaa,e0,q.go,Akx,cby,e3,cat,Abi Tryz.underlying9]
  simp only [List.length_append] at hj
  by_cases hz:256 < acc.length + (getM a v).1.s.length
  ·rw [if_pos hz] at hj
   have hz':(256:Int) < (acc.length:Int) + ((getM a v).1.s.length:Int):=by omega
   simp [hz',e0]
   refine Aae (q134 (hC1.kp (hkp.trans k4)) 6) ?_
   rintro _ m5 ⟨rfl,kc,hc⟩
   have g5:m5.get m.next = some (.cells [int 0,int 0] false (m.clock + 1)):=(kc.get m.next (by have:=(hkp.trans k4).next; omega) (by omega)).trans (((hkp.trans k4).get m.next (by omega)).trans b0)
   simp [e2,g5,Aaa]
   refine he _ _ _ (by simp) ?_
   simp
   exact fin _ _ (0,0) (by simp [e2]) ⟨_,by simp; rfl⟩ (by rw [hres,joinC,hj]) (by rw [hres,joinC,hj]; exact bad ⟨KpC.trans (.of (.of (hkp.trans k4))) kc,hc⟩)
  ·rw [if_neg hz] at hj
   have hz':¬ (256:Int) < (acc.length:Int) + ((getM a v).1.s.length:Int):=by omega
   simp [hz',e11,hw]
   exact hn _ _ hlt (by simp) ⟨hkp.trans k4,acc ++ (getM a v).1.s,by simp,by simp; omega,hj⟩
 ·have hge:i = l.length:=by have:=of_decide_eq_false h; omega
  subst hge
  rw [List.drop_length,joinL] at hj
  simp
  refine he _ _ _ (by simp) ?_
  simp [e0,e3]
  refine Aae (q138 (hA1.kp hkp) (fun j h => by have:=hX j h; omega) hXC (hC1.kp hkp) acc (by omega)) ?_
  rintro _ m5 ⟨rfl,hcs⟩
  have hcs:=hcs.after (.of (.of hkp))
  simp [got hcs,e2,Aaa]
  exact fin _ _ _ (by simp [e2]) ⟨_,by simp; rfl⟩ (by rw [hres,joinC,hj]) (by rw [hres,joinC,hj]; exact hcs)
def textsM (a:ArM) (n:Int) (l:List Val):Val × ArM × Int :=
 if n = 32 then ((1,((getM a (argV l 0)).1.s.length:Int)),a,0)
 else if n = 33 then (if within (argV l 1).2 (((getM a (argV l 0)).1.s.length:Int) - 1) then ((3,(((getM a (argV l 0)).1.s.getD (argV l 1).2.toNat 0).toNat:Int)),a,0) else ((0,0),a,6))
 else if n = 34 then joinC a l
 else if n = 35 then (if within (argV l 1).2 (argV l 2).2 && within (argV l 2).2 ((getM a (argV l 0)).1.s.length:Int) then textC a (((getM a (argV l 0)).1.s.take (argV l 2).2.toNat).drop (argV l 1).2.toNat) else ((0,0),a,6))
 else if n = 36 then (truV (decide ((getM a (argV l 0)).1.s = (getM a (argV l 1)).1.s)),a,0)
 else if n = 38 then symC a (getM a (argV l 0)).1.s
 else if n = 40 then (if (parseR (getM a (argV l 0)).1.s).2 ≠ 0 then ((2,0),a,0) else ((1,(parseR (getM a (argV l 0)).1.s).1),a,0))
 else if n = 37 then textC a (a.names.getD (argV l 0).2.toNat [])
 else if n = 39 then textC a (txtR (argV l 0).2).1
 else if n = 42 then (if within (argV l 0).2 127 then ((3,(argV l 0).2),a,0) else ((0,0),a,6))
 else ((1,(argV l 0).2),a,0)
set_option maxRecDepth 20000 in
theorem q72 (hA:Ar X A a m) (hX:∀ j,X j → j < m.next) (hsm:Small a) (hXC:¬ X C) (hC:has m C (clC A n l 0)) (hll:l.length ≤ 4096)
  (hv0:n ≠ 34 → l[0]? = some (argV l 0)) (hv1:n = 33 ∨ n = 35 ∨ n = 36 → l[1]? = some (argV l 1)) (hv2:n = 35 → l[2]? = some (argV l 2))
  (hsy:n = 37 → ∃ (i:Nat) (s:List UInt8),argV l 0 = (5,(i:Int)) ∧ a.names[i]? = some s ∧ s.length < 2 ^ 21):wph Tryz.prog ca (.func 72) [.ptr C 0] m fun v m' => v = valA (textsM a n l).1 ∧ Cs X A C n l (textsM a n l).2.1 (textsM a n l).2.2 m m':=by
 have hCl:=hC.1
 refine Aas Tryz.func72 rfl rfl (by simp [Tryz.f72]) (by simp [Tryz.f72]) fun Q hQ => ?_
 simp only [Tryz.f72,show ca.keepRes 72 = false from rfl,show ca.keepArgs 72 = false from rfl] at hQ ⊢
 have ln:∀ (R:TypeId) (m:Mem),abuiltin Tryz.prog .len #[66] R [.lst (vals l)] m = some (int l.length,m):=fun R m => by rw [Aat Tryz.underlying66]; simp
 obtain ⟨M1,hM1⟩:∃ M1,M1 = m.new [int 0,int 0] false:=⟨_,rfl⟩
 have k1:Kp m M1:=by rw [hM1]; simp
 have n1:M1.next = m.next + 1:=by rw [hM1]; simp
 have b0:M1.get m.next = some (.cells [int 0,int 0] false (m.clock + 1)):=by rw [hM1]; simp
 have hA1:=hA.kp k1
 have hX1:∀ j,X j → j < M1.next:=fun j h => by have:=hX j h; omega
 have hC1:=hC.kp k1
 obtain ⟨_,w,gC⟩:=id hC1
 obtain ⟨_,w',gC0⟩:=id hC
 have c0:C ≠ m.next:=by omega
 obtain ⟨res,hres⟩:∃ res,res = textsM a n l:=⟨_,rfl⟩
 rw [← hres] at hQ
 have fin:∀ (s':Sl) (m5:Mem) (v:Val),s'.at 2 = .ptr m.next 0 → (∃ w,(m5.set m.next [int v.1,int v.2]).get m.next = some (.cells [int v.1,int v.2] false w)) → res.1 = v → Cs X A C n l res.2.1 res.2.2 M1 m5 → Q .ret s' (m5.set m.next [int v.1,int v.2]):=by
  intro s' m5 v h6 ⟨w,hg⟩ hv hcs
  refine hQ _ _ _ ?_
  rw [Aaf]
  refine ⟨[valA v],by simp [aresult,h6,hg,aload,partOf,Aaa],?_⟩
  simp only [Bool.false_eq_true,if_false,oneOf,Aa5,hv]
  exact ⟨trivial,Cs.box k1 hX hCl hcs (by omega) (by omega) _⟩
 have got:∀ {m5:Mem} {a':ArM} {k':Int},Cs X A C n l a' k' M1 m5 → m5.get m.next = some (.cells [int 0,int 0] false (m.clock + 1)):=fun {m5 a' k'} hcs => by
  obtain ⟨X',_,_,kc5,_⟩:=id hcs
  exact (kc5.get m.next (by omega) (fun h => by rcases h with h | h; have:=hX _ h; omega; omega)).trans b0
 have bad:∀ {m5:Mem},KpC (fun j => j = C) M1 m5 ∧ has m5 C (clC A n l (failK 0 6)) → Cs X A C n l a 6 M1 m5:=fun {m5} h => Cs.of_c hA1 hX1 hXC h.1 h.2
 simp [gC0,c0,ln]
 rw [← hM1]
 clear hM1
 have gs:=Aeh hsm (argV l 0)
 have v0c:=q112 hA1 hsm hC1 (argV l 0)
 refine Aex (fun s' m' => m' = M1 ∧ s'.at 0 = .ptr C 0 ∧ s'.at 2 = .ptr m.next 0 ∧ s'.at 3 = strA (getM a (argV l 0)).1.s) (fun h k' hk' => ?_) (fun h k' hk' => ?_) ?_
 ·have hlt:0 < l.length:=by have:=of_decide_eq_true h; omega
  have hv:l[0]? = some (argV l 0):=by rw [argV,List.getElem?_eq_getElem hlt]
  have hix:aindexAddr Tryz.prog 66 (.lst (vals l)) (int 0) = some ((valA (argV l 0)).cptr 0):=Aak (i:=0) hv
  simp [gC,hix,Aaa,v0c.go,Akx,cby]
  exact hk' _ _ ⟨rfl,by simp,by simp,by simp⟩
 ·have hz:l[0]? = none:=List.getElem?_eq_none (by have:=of_decide_eq_false h; omega)
  have he:(getM a (argV l 0)).1.s = []:=by simp [argV,hz,getM,ixM,goodM,zeroC]
  simp
  exact hk' _ _ ⟨rfl,by simp,by simp,by simp [he]⟩
 rintro s' m' ⟨hm,e0,e2,e3⟩
 rw [hm]
 clear hm m'
 simp [e0,gC]
 obtain ⟨s0,hs0⟩:∃ s0,s0 = (getM a (argV l 0)).1.s:=⟨_,rfl⟩
 rw [← hs0] at e3 gs
 by_cases d32:n = 32
 ·rw [textsM,if_pos d32] at hres
  rw [← hs0] at hres
  simp [d32,e3,Abi Tryz.underlying9,(q126 _).go,e2,b0,Aaa]
  exact fin _ _ (1,(s0.length:Int)) (by simp [e2]) ⟨_,by simp; rfl⟩ (by rw [hres]) (by rw [hres]; exact Cs.refl hA1 hX1 hC1)
 by_cases d33:n = 33
 ·rw [textsM,if_neg d32,if_pos d33] at hres
  rw [← hs0] at hres
  have v1:=hv1 (by simp [d33])
  have ix1:aindexAddr Tryz.prog 66 (.lst (vals l)) (int 1) = some ((valA (argV l 1)).cptr 0):=Aak (i:=1) v1
  have wl:IntKind.i64.wrap ((s0.length:Int) - 1) = (s0.length:Int) - 1:=IntWalk.i64_in _ (by omega)
  simp [d32,d33,e0,gC,ix1,e3,Abi Tryz.underlying9,wl,(q135 _ _).go]
  cases hw:within (argV l 1).2 ((s0.length:Int) - 1) with
  | false =>
   rw [hw,if_neg (by decide)] at hres
   simp [e0]
   refine Aae (q134 hC1 6) ?_
   rintro _ m5 ⟨rfl,hcs⟩
   have hcs:=bad hcs
   simp [got hcs,e2,Aaa]
   exact fin _ _ (0,0) (by simp [e2]) ⟨_,by simp; rfl⟩ (by rw [hres]) (by rw [hres]; exact hcs)
  | true =>
   rw [hw,if_pos rfl] at hres
   obtain ⟨i,hi,hil⟩:∃ i:Nat,(argV l 1).2 = i ∧ i < s0.length:=by
    simp [within] at hw
    exact ⟨(argV l 1).2.toNat,by omega,by omega⟩
   rw [hi,Int.toNat_natCast] at hres
   obtain ⟨b,hb⟩:∃ b,s0[i]? = some b:=⟨_,List.getElem?_eq_getElem hil⟩
   have hbx:=Abd (P:=Tryz.prog) (q:=.i64) Tryz.underlying9 hb
   have hwb:IntKind.i64.wrap (b.toNat:Int) = b.toNat:=IntWalk.i64_in _ (by have:=b.toNat_lt; omega)
   simp only [List.getD_eq_getElem?_getD,hb,Option.getD_some] at hres
   simp [e0,e3,gC,ix1,hi,hbx,hwb,abuild,placesOf,fillAt,e2,b0]
   exact fin _ _ (3,(b.toNat:Int)) (by simp [e2]) ⟨_,by simp; rfl⟩ (by rw [hres]) (by rw [hres]; exact Cs.refl hA1 hX1 hC1)
 by_cases d34:n = 34
 ·rw [textsM,if_neg d32,if_neg d33,if_pos d34] at hres
  simp [d32,d33,d34,e0]
  refine Aae (q137 hA1 hX1 hsm hXC hC1 hll) ?_
  rintro _ m5 ⟨rfl,hcs⟩
  simp [got hcs,e2,Aaa]
  exact fin _ _ _ (by simp [e2]) ⟨_,by simp; rfl⟩ (by rw [hres]) (by rw [hres]; exact hcs)
 by_cases d35:n = 35
 ·rw [textsM,if_neg d32,if_neg d33,if_neg d34,if_pos d35] at hres
  rw [← hs0] at hres
  have v1:=hv1 (by simp [d35])
  have ix1:aindexAddr Tryz.prog 66 (.lst (vals l)) (int 1) = some ((valA (argV l 1)).cptr 0):=Aak (i:=1) v1
  have v2:=hv2 d35
  have ix2:aindexAddr Tryz.prog 66 (.lst (vals l)) (int 2) = some ((valA (argV l 2)).cptr 0):=Aak (i:=2) v2
  simp [d32,d33,d34,d35]
  refine Aah (by kernel_rfl) (by kernel_rfl) ?_
  simp [e0,gC,ix1,ix2,e3,Abi Tryz.underlying9,(q135 _ _).go]
  cases hw:within (argV l 1).2 (argV l 2).2 with
  | false =>
   rw [hw,Bool.false_and,if_neg (by decide)] at hres
   simp [e0,undefV,undef]
   refine Aae (q134 hC1 6) ?_
   rintro _ m5 ⟨rfl,hcs⟩
   have hcs:=bad hcs
   simp [got hcs,e2,Aaa]
   exact fin _ _ (0,0) (by simp [e2]) ⟨_,by simp; rfl⟩ (by rw [hres]) (by rw [hres]; exact hcs)
  | true =>
  rw [hw,Bool.true_and] at hres
  simp [e0,e3,Abi Tryz.underlying9,(q135 _ _).go]
  cases hw2:within (argV l 2).2 (s0.length:Int) with
  | false =>
   rw [hw2,if_neg (by decide)] at hres
   simp [e0]
   refine Aae (q134 hC1 6) ?_
   rintro _ m5 ⟨rfl,hcs⟩
   have hcs:=bad hcs
   simp [got hcs,e2,Aaa]
   exact fin _ _ (0,0) (by simp [e2]) ⟨_,by simp; rfl⟩ (by rw [hres]) (by rw [hres]; exact hcs)
  | true =>
  rw [hw2,if_pos rfl] at hres
  obtain ⟨i,j,hi,hj,hij,hjl⟩:∃ i j:Nat,(argV l 1).2 = i ∧ (argV l 2).2 = j ∧ i ≤ j ∧ j ≤ s0.length:=by
   simp [within] at hw hw2
   exact ⟨(argV l 1).2.toNat,(argV l 2).2.toNat,by omega,by omega,by omega,by omega⟩
  rw [hi,hj,Int.toNat_natCast,Int.toNat_natCast] at hres
  have hsl:=Ajy (P:=Tryz.prog) Tryz.underlying9 hij hjl
  simp [e0,e3,hi,hj,hsl]
  refine Aae (q138 hA1 hX1 hXC hC1 ((s0.take j).drop i) (by simp; omega)) ?_
  rintro _ m5 ⟨rfl,hcs⟩
  simp [got hcs,e2,Aaa]
  exact fin _ _ _ (by simp [e2]) ⟨_,by simp; rfl⟩ (by rw [hres]) (by rw [hres]; exact hcs)
 by_cases d36:n = 36
 ·rw [textsM,if_neg d32,if_neg d33,if_neg d34,if_neg d35,if_pos d36] at hres
  rw [← hs0] at hres
  have v1:=hv1 (by simp [d36])
  have ix1:aindexAddr Tryz.prog 66 (.lst (vals l)) (int 1) = some ((valA (argV l 1)).cptr 0):=Aak (i:=1) v1
  have v1c:=q112 hA1 hsm hC1 (argV l 1)
  simp [d32,d33,d34,d35,d36,e0,gC,ix1,e3,Aaa,v1c.go,Akx,cby,(q67 _).go,e2,b0]
  exact fin _ _ (truV (decide (s0 = (getM a (argV l 1)).1.s))) (by simp [e2]) ⟨_,by simp; rfl⟩ (by rw [hres]) (by rw [hres]; exact Cs.refl hA1 hX1 hC1)
 by_cases d38:n = 38
 ·rw [textsM,if_neg d32,if_neg d33,if_neg d34,if_neg d35,if_neg d36,if_pos d38] at hres
  rw [← hs0] at hres
  simp [d32,d33,d34,d35,d36,d38,e0,e3]
  refine Aae (q139 hA1 hX1 hXC hC1 s0 (by omega)) ?_
  rintro _ m5 ⟨rfl,hcs⟩
  simp [got hcs,e2,Aaa]
  exact fin _ _ _ (by simp [e2]) ⟨_,by simp; rfl⟩ (by rw [hres]) (by rw [hres]; exact hcs)
 by_cases d40:n = 40
 ·rw [textsM,if_neg d32,if_neg d33,if_neg d34,if_neg d35,if_neg d36,if_neg d38,if_pos d40] at hres
  rw [← hs0] at hres
  simp [d32,d33,d34,d35,d36,d38,d40,e3,(q140 s0 (by omega)).go]
  by_cases hz:(parseR s0).2 = 0
  ·rw [if_neg (by simp [hz])] at hres
   simp [hz,(q126 _).go,e2,b0,Aaa]
   exact fin _ _ (1,(parseR s0).1) (by simp [e2]) ⟨_,by simp; rfl⟩ (by rw [hres]) (by rw [hres]; exact Cs.refl hA1 hX1 hC1)
  ·rw [if_pos hz] at hres
   simp [hz,(q67 false).go,e2,b0,Aaa,truV]
   exact fin _ _ (2,0) (by simp [e2]) ⟨_,by simp; rfl⟩ (by rw [hres]) (by rw [hres]; exact Cs.refl hA1 hX1 hC1)
 have v0:=hv0 d34
 have ix0:aindexAddr Tryz.prog 66 (.lst (vals l)) (int 0) = some ((valA (argV l 0)).cptr 0):=Aak (i:=0) v0
 simp [d32,d33,d34,d35,d36,d38,d40,e0,gC,ix0]
 by_cases d37:n = 37
 ·rw [textsM,if_neg d32,if_neg d33,if_neg d34,if_neg d35,if_neg d36,if_neg d38,if_neg d40,if_pos d37] at hres
  obtain ⟨i,s,hi,hs,hsl⟩:=hsy d37
  have qn:=q141 hA1 hs
  rw [hi] at hres
  simp only [Int.toNat_natCast,List.getD_eq_getElem?_getD,hs,Option.getD_some] at hres
  have hag:AV.agg [int 5,int i] = valA (5,(i:Int)):=rfl
  simp [d37]
  refine Aah (by kernel_rfl) (by kernel_rfl) ?_
  simp [e0,gC,ix0,hi,hag,qn.go]
  refine Aae (q138 hA1 hX1 hXC hC1 s hsl) ?_
  rintro _ m5 ⟨rfl,hcs⟩
  simp [got hcs,e2,Aaa]
  exact fin _ _ _ (by simp [e2]) ⟨_,by simp; rfl⟩ (by rw [hres]) (by rw [hres]; exact hcs)
 by_cases d39:n = 39
 ·rw [textsM,if_neg d32,if_neg d33,if_neg d34,if_neg d35,if_neg d36,if_neg d38,if_neg d40,if_neg d37,if_pos d39] at hres
  simp [d37,d39,(q142 _).go,e0]
  refine Aae (q138 hA1 hX1 hXC hC1 (txtR (argV l 0).2).1 (Ao0 _)) ?_
  rintro _ m5 ⟨rfl,hcs⟩
  simp [got hcs,e2,Aaa]
  exact fin _ _ _ (by simp [e2]) ⟨_,by simp; rfl⟩ (by rw [hres]) (by rw [hres]; exact hcs)
 by_cases d42:n = 42
 ·rw [textsM,if_neg d32,if_neg d33,if_neg d34,if_neg d35,if_neg d36,if_neg d38,if_neg d40,if_neg d37,if_neg d39,if_pos d42] at hres
  simp [d37,d39,d42,(q135 _ _).go]
  cases hw:within (argV l 0).2 127 with
  | false =>
   rw [hw,if_neg (by decide)] at hres
   simp [e0]
   refine Aae (q134 hC1 6) ?_
   rintro _ m5 ⟨rfl,hcs⟩
   have hcs:=bad hcs
   simp [got hcs,e2,Aaa]
   exact fin _ _ (0,0) (by simp [e2]) ⟨_,by simp; rfl⟩ (by rw [hres]) (by rw [hres]; exact hcs)
  | true =>
   rw [hw,if_pos rfl] at hres
   simp [abuild,placesOf,fillAt,e2,b0]
   exact fin _ _ (3,(argV l 0).2) (by simp [e2]) ⟨_,by simp; rfl⟩ (by rw [hres]) (by rw [hres]; exact Cs.refl hA1 hX1 hC1)
 rw [textsM,if_neg d32,if_neg d33,if_neg d34,if_neg d35,if_neg d36,if_neg d38,if_neg d40,if_neg d37,if_neg d39,if_neg d42] at hres
 simp [d37,d39,d42,(q126 _).go,e2,b0,Aaa]
 exact fin _ _ (1,(argV l 0).2) (by simp [e2]) ⟨_,by simp; rfl⟩ (by rw [hres]) (by rw [hres]; exact Cs.refl hA1 hX1 hC1)
end
def countP (n:Int) (k:Nat):Prop:=(rowOf n).2.1 ≤ k ∧ ((rowOf n).2.2 < 0 ∨ (k:Int) ≤ (rowOf n).2.2)
noncomputable def doM (a:ArM) (n:Int) (l:List Val) (res:Val × ArM × Int):Val × ArM × Int:=by
 classical
 exact if (rowOf n).1 = [] ∨ 64 ≤ n then ((0,0),a,7) else if ¬ countP n l.length then ((0,0),a,2)
 else if ¬ (∀ v ∈ l,equalM a v v = true) then ((0,0),a,1) else if ¬ (∀ (i:Nat) v,l[i]? = some v → goodP a n v i = true) then ((0,0),a,1)
 else if res.2.2 ≠ 0 then ((0,0),res.2.1,res.2.2) else (res.1,res.2.1,0)
theorem eq46 {x y:Operand} {i j:Nat}:abin Tryz.prog .eql 46 x y (.ptr i j) (.sc (.pointer none)) = some (.sc (.bool false)):=by
 have:nilTest Tryz.prog 46 (.ptr i j) (.sc (.pointer none)) = some false:=by
  unfold nilTest
  rw [Tryz.underlying46]
 simp [abin,plain,this]
theorem q22 {X:Nat → Prop} {A:Nat} {n:Int} {l:List Val} {a:ArM} {m:Mem} (hA:Ar X A a m) (hX:∀ j,X j → j < m.next) (hsm:Small a) (hll:l.length ≤ 4096) {res:Val × ArM × Int}
  (hdo:(rowOf n).1 ≠ [] → ¬ 64 ≤ n → countP n l.length → (∀ v ∈ l,equalM a v v = true) → (∀ (i:Nat) v,l[i]? = some v → goodP a n v i = true) → ∀ m1 C,Ar X A a m1 → (∀ j,X j → j < m1.next) → ¬ X C → has m1 C (clC A n l 0) → wph Tryz.prog ca (.func 39) [.ptr C 0] m1 fun r m' => r = valA res.1 ∧ Cs X A C n l res.2.1 res.2.2 m1 m') :
  wph Tryz.prog ca (.func 22) [.ptr A 0,int n,.lst (vals l)] m fun v m' => v = .tup [valA (doM a n l res).1,int (doM a n l res).2.2] ∧ Up X A (doM a n l res).2.1 m m':=by
 refine Aas Tryz.func22 rfl rfl (by simp [Tryz.f22]) (by simp [Tryz.f22]) fun Q hQ => ?_
 simp only [Tryz.f22,show ca.keepRes 22 = false from rfl,show ca.keepArgs 22 = false from rfl] at hQ ⊢
 obtain ⟨d,hd⟩:∃ d,d = doM a n l res:=⟨_,rfl⟩
 rw [← hd] at hQ
 have ln:∀ (R:TypeId) (m:Mem),abuiltin Tryz.prog .len #[66] R [.lst (vals l)] m = some (int l.length,m):=fun R m => by rw [Aat Tryz.underlying66,Aav]
 have fin:∀ (s':Sl) (m7:Mem),s'.at 6 = .ptr m.next 0 → s'.at 7 = int d.2.2 → (∃ w,m7.get m.next = some (.cells [int d.1.1,int d.1.2] false w)) → Up X A d.2.1 m m7 → Q .ret s' m7:=by
  intro s' m7 h6 h7 ⟨w,hg⟩ hu
  refine hQ _ _ _ ?_
  rw [Aaf]
  refine ⟨[valA d.1,int d.2.2],by simp [aresult,h6,h7,hg,aload,partOf,Aaa],?_⟩
  simp only [Bool.false_eq_true,if_false,oneOf]
  have hz:=Ah9 m7 d.1 d.2.2
  rw [Aaa] at hz
  rw [hz]
  exact ⟨rfl,hu⟩
 simp [(q31 n).go]
 simp only [rowC]
 simp
 by_cases c1:(rowOf n).1 = []
 ·have e0:d = ((0,0),a,7):=by rw [hd,doM,if_pos (.inl c1)]
  rw [e0] at fin
  simp [c1,Aan]
  exact fin _ _ (by simp) (by simp) ⟨_,by simp; rfl⟩ (Up.kp hA (by simp))
 by_cases c2:64 ≤ n
 ·have e0:d = ((0,0),a,7):=by rw [hd,doM,if_pos (.inr c2)]
  rw [e0] at fin
  simp [c1,c2,Aan]
  exact fin _ _ (by simp) (by simp) ⟨_,by simp; rfl⟩ (Up.kp hA (by simp))
 simp [c1,c2]
 obtain ⟨M1,hM1⟩:∃ M1,M1 = ((m.new [int 0,int 0] false).new [.sc (.string ⟨⟨[]⟩⟩),int 0,int 0] false).set (m.next + 1) [.sc (.string ⟨⟨(rowOf n).1⟩⟩),int (rowOf n).2.1,int (rowOf n).2.2]:=⟨_,rfl⟩
 have k1:Kp m M1:=by rw [hM1]; simp
 have n1:M1.next = m.next + 2:=by rw [hM1]; simp
 have b0:M1.get m.next = some (.cells [int 0,int 0] false (m.clock + 1)):=by rw [hM1]; simp
 have b1:M1.get (m.next + 1) = some (.cells [.sc (.string ⟨⟨(rowOf n).1⟩⟩),int (rowOf n).2.1,int (rowOf n).2.2] false (m.clock + 3)):=by rw [hM1]; simp
 rw [← hM1]
 clear hM1
 refine Aae (q37 (hA.kp k1) hsm) ?_
 rintro _ m2 ⟨⟨cid,rfl⟩,k2⟩
 have n2:=k2.next
 have d0:=(k2.get m.next (by omega)).trans b0
 have d1:=(k2.get (m.next + 1) (by omega)).trans b1
 have k12:=k1.trans k2
 simp [eq46,ln,d1]
 by_cases c3:(l.length:Int) < (rowOf n).2.1
 ·have e0:d = ((0,0),a,2):=by rw [hd,doM,if_neg (by simp [c1,c2]),if_pos (fun h => by have:=h.1; omega)]
  rw [e0] at fin
  simp [c3,d0,Aan,undefV,undef]
  exact fin _ _ (by simp) (by simp) ⟨_,by simp; rfl⟩ (Up.kp hA (k12.set (by omega) _))
 by_cases c5:0 ≤ (rowOf n).2.2 ∧ (rowOf n).2.2 < l.length
 ·have e0:d = ((0,0),a,2):=by rw [hd,doM,if_neg (by simp [c1,c2]),if_pos (fun h => by have:=h.2; omega)]
  rw [e0] at fin
  simp [c3,c5,d0,Aan,d1]
  exact fin _ _ (by simp) (by simp) ⟨_,by simp; rfl⟩ (Up.kp hA (k12.set (by omega) _))
 have hcnt:countP n l.length:=⟨by omega,by omega⟩
 rw [doM,if_neg (by simp [c1,c2]),if_neg (by simpa using hcnt)] at hd
 obtain ⟨C,hCe⟩:∃ C,C = m2.next:=⟨_,rfl⟩
 obtain ⟨M3,hM3⟩:∃ M3,M3 = m2.new [.ptr A 0,int n,.lst (vals l),int 0] false:=⟨_,rfl⟩
 have k3:Kp m2 M3:=by rw [hM3]; simp
 have n3:M3.next = m2.next + 1:=by rw [hM3]; simp
 have hC3:has M3 C (clC A n l 0):=⟨by omega,_,by rw [hM3,hCe]; simp; rfl⟩
 have k13:=k12.trans k3
 have e03:=(k3.get m.next (by omega)).trans d0
 have hXC:¬ X C:=fun h => by have:=hX C h; omega
 by_cases c4:0 ≤ (rowOf n).2.2
 rotate_left
 ·simp [c3,c4,d1,undefV,undef,abuild,placesOf,fillAt,ln]
  rw [← hCe,← hM3]
  refine Aar 57 l.length (fun i s' m' => Kp M3 m' ∧ ∀ j v,j < i → l[j]? = some v → equalM a v v = true) (by simp) (by omega) ⟨.refl _,fun j v h => by omega⟩ ?_
  rintro i s' m' hi e57 ⟨hkp,hall⟩ hsame hw Q' hn he
  have f0:s'.at 0 = .ptr A 0:=(hsame 0 (by kernel_rfl)).trans (by simp)
  have f2:s'.at 2 = .lst (vals l):=(hsame 2 (by kernel_rfl)).trans (by simp)
  have f6:s'.at 6 = .ptr m.next 0:=(hsame 6 (by kernel_rfl)).trans (by simp)
  have f10:s'.at 10 = .ptr C 0:=(hsame 10 (by kernel_rfl)).trans (by simp)
  have f55:s'.at 55 = .lst (vals l):=(hsame 55 (by kernel_rfl)).trans (by simp)
  have f56:s'.at 56 = int l.length:=(hsame 56 (by kernel_rfl)).trans (by simp)
  clear hsame
  have kA:=k13.trans hkp
  have n':=hkp.next
  have g0:=(hkp.get m.next (by omega)).trans e03
  simp [e57,f56]
  refine Aad (fun h => ?_) fun h => ?_
  ·have hlt:i < l.length:=by simpa using h
   obtain ⟨v,hv⟩:∃ v,l[i]? = some v:=⟨_,List.getElem?_eq_getElem hlt⟩
   have hix:=Aak hv
   have k4:Kp m' ((m'.new [int 0,int 0] false).set m'.next [int v.1,int v.2]):=by simp
   have q:=q24 (hA.kp (kA.trans k4)) hsm v v
   have z0:m.next ≠ m'.next:=by omega
   simp [e57,f55,hix,f0,Aaa,q.go]
   cases hq:equalM a v v with
   | true =>
    simp [e57,hw]
    refine hn _ _ hlt (by simp) ⟨hkp.trans k4,fun j u hj hu => ?_⟩
    by_cases hji:j = i
    ·subst hji
     rw [hv] at hu
     cases hu
     exact hq
    ·exact hall j u (by omega) hu
   | false =>
    rw [if_pos (fun h => by have:=h v (List.mem_of_getElem? hv); rw [hq] at this; cases this)] at hd
    simp [Aan,f6,g0,z0]
    refine he _ _ _ (by simp) ?_
    simp
    rw [hd] at fin
    exact fin _ _ (by simp [f6]) (by simp) ⟨_,by simp; rfl⟩ (Up.kp hA ((kA.trans k4).set (Nat.le_refl _) _))
  ·have hge:i = l.length:=by have:=of_decide_eq_false h; omega
   subst hge
   have hEq:∀ v ∈ l,equalM a v v = true:=fun v hv => by
    obtain ⟨j,hj,e⟩:=List.mem_iff_getElem.1 hv
    exact hall j v hj (by rw [List.getElem?_eq_getElem hj,e])
   rw [if_neg (by simpa using hEq)] at hd
   simp
   refine he _ _ _ (by simp) ?_
   simp [f2,ln]
   refine Aar 70 l.length (fun i s2 m4 => Kp M3 m4 ∧ ∀ (j:Nat) v,j < i → l[j]? = some v → goodP a n v j = true) (by simp) (by omega) ⟨hkp,fun j v h => by omega⟩ ?_
   rintro i s2 m4 hi e70 ⟨hkp4,hall4⟩ hsame hw Q' hn he
   have f6:s2.at 6 = .ptr m.next 0:=(hsame 6 (by kernel_rfl)).trans (by simp [f6])
   have f10:s2.at 10 = .ptr C 0:=(hsame 10 (by kernel_rfl)).trans (by simp [f10])
   have f69:s2.at 69 = int l.length:=(hsame 69 (by kernel_rfl)).trans (by simp)
   clear hsame
   have kA:=k13.trans hkp4
   have n':=hkp4.next
   have g0:=(hkp4.get m.next (by omega)).trans e03
   have hC4:=hC3.kp hkp4
   simp [e70,f69]
   refine Aad (fun h => ?_) fun h => ?_
   ·have hlt:i < l.length:=by simpa using h
    obtain ⟨v,hv⟩:∃ v,l[i]? = some v:=⟨_,List.getElem?_eq_getElem hlt⟩
    have q:=q38 (hA.kp kA) hsm hC4 hv
    simp [e70,f10,q.go]
    cases hq:goodP a n v i with
    | true =>
     simp [e70,hw]
     refine hn _ _ hlt (by simp) ⟨hkp4,fun j u hj hu => ?_⟩
     by_cases hji:j = i
     ·subst hji
      rw [hv] at hu
      cases hu
      exact hq
     ·exact hall4 j u (by omega) hu
    | false =>
     rw [if_pos (fun h => by have:=h i v hv; rw [hq] at this; cases this)] at hd
     simp [Aan,f6,g0]
     refine he _ _ _ (by simp) ?_
     simp
     rw [hd] at fin
     exact fin _ _ (by simp [f6]) (by simp) ⟨_,by simp; rfl⟩ (Up.kp hA (kA.set (Nat.le_refl _) _))
   ·have hge:i = l.length:=by have:=of_decide_eq_false h; omega
    subst hge
    have hGd:∀ (i:Nat) v,l[i]? = some v → goodP a n v i = true:=fun j v hv => hall4 j v (List.getElem?_eq_some_iff.1 hv).1 hv
    rw [if_neg (by simpa using hGd)] at hd
    simp
    refine he _ _ _ (by simp) ?_
    simp [f10]
    refine Aae (hdo c1 c2 hcnt hEq hGd m4 C (hA.kp kA) (fun j h => by have:=hX j h; omega) hXC hC4) ?_
    rintro _ m5 ⟨rfl,X',hA5,hX5,kc5,hC5⟩
    have n5:=kc5.next
    obtain ⟨_,w5,g5⟩:=id hC5
    have z0:C ≠ m5.next:=by omega
    have z1:m.next ≠ m5.next:=by omega
    have g5m:=(kc5.get m.next (by omega) (fun h => by rcases h with h | h; have:=hX _ h; omega; omega)).trans g0
    have up:∀ cs v,Up X A res.2.1 m (((m5.new [int 0,int 0] false).set m5.next v).set m.next cs):=fun cs v => by
     have kk:Kp m5 ((m5.new [int 0,int 0] false).set m5.next v):=by simp
     refine ⟨X',(hA5.kp kk).kc (Aap m.next cs _) fun j hj e => ?_,KpC.cut ((((KpC.of (.of kA)).trans (kc5.mono fun j h => h.elim .inl fun h => .inr (by omega))).trans (.of (.of kk))).trans ((Aap m.next cs _).mono fun j h => .inr (by omega))),fun j hj => (hX5 j hj).1.imp id fun h => by omega⟩
     have e:j = m.next:=e
     rcases (hX5 j hj).1 with h | h
     ·have:=hX j h; omega
     ·omega
    simp [f10,g5,z0]
    by_cases hr:res.2.2 = 0
    ·rw [if_neg (by simp [hr])] at hd
     simp [hr,f6,g5m,z1,Aaa]
     rw [hd] at fin
     exact fin _ _ (by simp [f6]) (by simp) ⟨_,by simp; rfl⟩ (up _ _)
    ·rw [if_pos hr] at hd
     simp [hr]
     refine Aax (by kernel_rfl) ?_
     have z2:C ≠ m.next:=by omega
     have z3:m.next ≠ C:=by omega
     simp [f10,f6,g5,g5m,z0,z1,Aan]
     refine Abh (l:=[(4,5)]) (by kernel_rfl) (?_:List.all _ _ = true) ?_
     ·simp [metAtD,metOkD,rank,verKeptD,Region.wanted,Mem.ver,g5,g5m,z0,z1,z2,z3]
     simp
     rw [hd] at fin
     exact fin _ _ (by simp [f6]) (by simp) ⟨_,by simp; rfl⟩ (up _ _)
 have c6:¬ (rowOf n).2.2 < (l.length:Int):=by omega
 simp [c3,c4,c6,d1,abuild,placesOf,fillAt,ln]
 rw [← hCe,← hM3]
 refine Aar 57 l.length (fun i s' m' => Kp M3 m' ∧ ∀ j v,j < i → l[j]? = some v → equalM a v v = true) (by simp) (by omega) ⟨.refl _,fun j v h => by omega⟩ ?_
 rintro i s' m' hi e57 ⟨hkp,hall⟩ hsame hw Q' hn he
 have f0:s'.at 0 = .ptr A 0:=(hsame 0 (by kernel_rfl)).trans (by simp)
 have f2:s'.at 2 = .lst (vals l):=(hsame 2 (by kernel_rfl)).trans (by simp)
 have f6:s'.at 6 = .ptr m.next 0:=(hsame 6 (by kernel_rfl)).trans (by simp)
 have f10:s'.at 10 = .ptr C 0:=(hsame 10 (by kernel_rfl)).trans (by simp)
 have f55:s'.at 55 = .lst (vals l):=(hsame 55 (by kernel_rfl)).trans (by simp)
 have f56:s'.at 56 = int l.length:=(hsame 56 (by kernel_rfl)).trans (by simp)
 clear hsame
 have kA:=k13.trans hkp
 have n':=hkp.next
 have g0:=(hkp.get m.next (by omega)).trans e03
 simp [e57,f56]
 refine Aad (fun h => ?_) fun h => ?_
 ·have hlt:i < l.length:=by simpa using h
  obtain ⟨v,hv⟩:∃ v,l[i]? = some v:=⟨_,List.getElem?_eq_getElem hlt⟩
  have hix:=Aak hv
  have k4:Kp m' ((m'.new [int 0,int 0] false).set m'.next [int v.1,int v.2]):=by simp
  have q:=q24 (hA.kp (kA.trans k4)) hsm v v
  have z0:m.next ≠ m'.next:=by omega
  simp [e57,f55,hix,f0,Aaa,q.go]
  cases hq:equalM a v v with
  | true =>
   simp [e57,hw]
   refine hn _ _ hlt (by simp) ⟨hkp.trans k4,fun j u hj hu => ?_⟩
   by_cases hji:j = i
   ·subst hji
    rw [hv] at hu
    cases hu
    exact hq
   ·exact hall j u (by omega) hu
  | false =>
   rw [if_pos (fun h => by have:=h v (List.mem_of_getElem? hv); rw [hq] at this; cases this)] at hd
   simp [Aan,f6,g0,z0]
   refine he _ _ _ (by simp) ?_
   simp
   rw [hd] at fin
   exact fin _ _ (by simp [f6]) (by simp) ⟨_,by simp; rfl⟩ (Up.kp hA ((kA.trans k4).set (Nat.le_refl _) _))
 ·have hge:i = l.length:=by have:=of_decide_eq_false h; omega
  subst hge
  have hEq:∀ v ∈ l,equalM a v v = true:=fun v hv => by
   obtain ⟨j,hj,e⟩:=List.mem_iff_getElem.1 hv
   exact hall j v hj (by rw [List.getElem?_eq_getElem hj,e])
  rw [if_neg (by simpa using hEq)] at hd
  simp
  refine he _ _ _ (by simp) ?_
  simp [f2,ln]
  refine Aar 70 l.length (fun i s2 m4 => Kp M3 m4 ∧ ∀ (j:Nat) v,j < i → l[j]? = some v → goodP a n v j = true) (by simp) (by omega) ⟨hkp,fun j v h => by omega⟩ ?_
  rintro i s2 m4 hi e70 ⟨hkp4,hall4⟩ hsame hw Q' hn he
  have f6:s2.at 6 = .ptr m.next 0:=(hsame 6 (by kernel_rfl)).trans (by simp [f6])
  have f10:s2.at 10 = .ptr C 0:=(hsame 10 (by kernel_rfl)).trans (by simp [f10])
  have f69:s2.at 69 = int l.length:=(hsame 69 (by kernel_rfl)).trans (by simp)
  clear hsame
  have kA:=k13.trans hkp4
  have n':=hkp4.next
  have g0:=(hkp4.get m.next (by omega)).trans e03
  have hC4:=hC3.kp hkp4
  simp [e70,f69]
  refine Aad (fun h => ?_) fun h => ?_
  ·have hlt:i < l.length:=by simpa using h
   obtain ⟨v,hv⟩:∃ v,l[i]? = some v:=⟨_,List.getElem?_eq_getElem hlt⟩
   have q:=q38 (hA.kp kA) hsm hC4 hv
   simp [e70,f10,q.go]
   cases hq:goodP a n v i with
   | true =>
    simp [e70,hw]
    refine hn _ _ hlt (by simp) ⟨hkp4,fun j u hj hu => ?_⟩
    by_cases hji:j = i
    ·subst hji
     rw [hv] at hu
     cases hu
     exact hq
    ·exact hall4 j u (by omega) hu
   | false =>
    rw [if_pos (fun h => by have:=h i v hv; rw [hq] at this; cases this)] at hd
    simp [Aan,f6,g0]
    refine he _ _ _ (by simp) ?_
    simp
    rw [hd] at fin
    exact fin _ _ (by simp [f6]) (by simp) ⟨_,by simp; rfl⟩ (Up.kp hA (kA.set (Nat.le_refl _) _))
  ·have hge:i = l.length:=by have:=of_decide_eq_false h; omega
   subst hge
   have hGd:∀ (i:Nat) v,l[i]? = some v → goodP a n v i = true:=fun j v hv => hall4 j v (List.getElem?_eq_some_iff.1 hv).1 hv
   rw [if_neg (by simpa using hGd)] at hd
   simp
   refine he _ _ _ (by simp) ?_
   simp [f10]
   refine Aae (hdo c1 c2 hcnt hEq hGd m4 C (hA.kp kA) (fun j h => by have:=hX j h; omega) hXC hC4) ?_
   rintro _ m5 ⟨rfl,X',hA5,hX5,kc5,hC5⟩
   have n5:=kc5.next
   obtain ⟨_,w5,g5⟩:=id hC5
   have z0:C ≠ m5.next:=by omega
   have z1:m.next ≠ m5.next:=by omega
   have g5m:=(kc5.get m.next (by omega) (fun h => by rcases h with h | h; have:=hX _ h; omega; omega)).trans g0
   have up:∀ cs v,Up X A res.2.1 m (((m5.new [int 0,int 0] false).set m5.next v).set m.next cs):=fun cs v => by
    have kk:Kp m5 ((m5.new [int 0,int 0] false).set m5.next v):=by simp
    refine ⟨X',(hA5.kp kk).kc (Aap m.next cs _) fun j hj e => ?_,KpC.cut ((((KpC.of (.of kA)).trans (kc5.mono fun j h => h.elim .inl fun h => .inr (by omega))).trans (.of (.of kk))).trans ((Aap m.next cs _).mono fun j h => .inr (by omega))),fun j hj => (hX5 j hj).1.imp id fun h => by omega⟩
    have e:j = m.next:=e
    rcases (hX5 j hj).1 with h | h
    ·have:=hX j h; omega
    ·omega
   simp [f10,g5,z0]
   by_cases hr:res.2.2 = 0
   ·rw [if_neg (by simp [hr])] at hd
    simp [hr,f6,g5m,z1,Aaa]
    rw [hd] at fin
    exact fin _ _ (by simp [f6]) (by simp) ⟨_,by simp; rfl⟩ (up _ _)
   ·rw [if_pos hr] at hd
    simp [hr]
    refine Aax (by kernel_rfl) ?_
    have z2:C ≠ m.next:=by omega
    have z3:m.next ≠ C:=by omega
    simp [f10,f6,g5,g5m,z0,z1,Aan]
    refine Abh (l:=[(4,5)]) (by kernel_rfl) (?_:List.all _ _ = true) ?_
    ·simp [metAtD,metOkD,rank,verKeptD,Region.wanted,Mem.ver,g5,g5m,z0,z1,z2,z3]
    simp
    rw [hd] at fin
    exact fin _ _ (by simp [f6]) (by simp) ⟨_,by simp; rfl⟩ (up _ _)
def Named (a:ArM):Prop:=∀ s ∈ a.names,s.length < 2 ^ 21
structure Called (a:ArM) (n:Int) (l:List Val):Prop where
 lo:0 ≤ n
 hi:n ≤ 54
 cnt:countP n l.length
 eq:∀ v ∈ l,equalM a v v = true
 gd:∀ (i:Nat) v,l[i]? = some v → goodP a n v i = true
 ll:l.length ≤ 4096
theorem Aaq {l:List Val} {i:Nat} (h:i < l.length):l[i]? = some (argV l i):=by
 rw [argV,List.getElem?_eq_getElem h]
theorem Called.good {a:ArM} {n:Int} {l:List Val} (h:Called a n l) {i:Nat} {v:Val} (hv:l[i]? = some v):goodM a v = true:=by
 have:=h.eq v (List.mem_of_getElem? hv)
 unfold equalM at this
 rw [Bool.and_eq_true] at this
 exact this.1
theorem Afq {a:ArM} {v:Val} (h:(getM a v).1.k ≠ 0):∃ (p:Nat) (c:CeM),v = (7,(p:Int)) ∧ a.cells[p]? = some c ∧ (getM a v).1 = c:=by
 unfold getM at h ⊢
 cases hi:ixM a v with
 | none => rw [hi] at h; exact absurd rfl h
 | some i =>
  obtain ⟨hv,c,hc⟩:=Ab6 hi
  exact ⟨i,c,hv,hc,by simp [List.getD_eq_getElem?_getD,hc]⟩
theorem rw1:(rowOf 1).2.1 = 1 ∧ (rowOf 1).2.2 = -1:=by unfold rowOf rws; simp
theorem rw3:(rowOf 3).2.1 = 2 ∧ (rowOf 3).2.2 = 2:=by unfold rowOf rws; simp
theorem rw4:(rowOf 4).2.1 = 2 ∧ (rowOf 4).2.2 = 2:=by unfold rowOf rws; simp
theorem rw5:(rowOf 5).2.1 = 2 ∧ (rowOf 5).2.2 = 2:=by unfold rowOf rws; simp
theorem rw6:(rowOf 6).2.1 = 1 ∧ (rowOf 6).2.2 = -1:=by unfold rowOf rws; simp
theorem rw7:(rowOf 7).2.1 = 1 ∧ (rowOf 7).2.2 = -1:=by unfold rowOf rws; simp
theorem rw8:(rowOf 8).2.1 = 1 ∧ (rowOf 8).2.2 = -1:=by unfold rowOf rws; simp
theorem rw9:(rowOf 9).2.1 = 1 ∧ (rowOf 9).2.2 = -1:=by unfold rowOf rws; simp
theorem rw10:(rowOf 10).2.1 = 1 ∧ (rowOf 10).2.2 = -1:=by unfold rowOf rws; simp
theorem rw11:(rowOf 11).2.1 = 1 ∧ (rowOf 11).2.2 = 1:=by unfold rowOf rws; simp
theorem rw12:(rowOf 12).2.1 = 1 ∧ (rowOf 12).2.2 = 1:=by unfold rowOf rws; simp
theorem rw13:(rowOf 13).2.1 = 2 ∧ (rowOf 13).2.2 = 2:=by unfold rowOf rws; simp
theorem rw14:(rowOf 14).2.1 = 2 ∧ (rowOf 14).2.2 = 2:=by unfold rowOf rws; simp
theorem rw16:(rowOf 16).2.1 = 1 ∧ (rowOf 16).2.2 = 1:=by unfold rowOf rws; simp
theorem rw17:(rowOf 17).2.1 = 1 ∧ (rowOf 17).2.2 = 1:=by unfold rowOf rws; simp
theorem rw18:(rowOf 18).2.1 = 2 ∧ (rowOf 18).2.2 = 2:=by unfold rowOf rws; simp
theorem rw19:(rowOf 19).2.1 = 2 ∧ (rowOf 19).2.2 = 2:=by unfold rowOf rws; simp
theorem rw20:(rowOf 20).2.1 = 1 ∧ (rowOf 20).2.2 = 1:=by unfold rowOf rws; simp
theorem rw21:(rowOf 21).2.1 = 1 ∧ (rowOf 21).2.2 = 1:=by unfold rowOf rws; simp
theorem rw23:(rowOf 23).2.1 = 1 ∧ (rowOf 23).2.2 = 1:=by unfold rowOf rws; simp
theorem rw25:(rowOf 25).2.1 = 1 ∧ (rowOf 25).2.2 = 1:=by unfold rowOf rws; simp
theorem rw26:(rowOf 26).2.1 = 2 ∧ (rowOf 26).2.2 = 2:=by unfold rowOf rws; simp
theorem rw28:(rowOf 28).2.1 = 1 ∧ (rowOf 28).2.2 = 2:=by unfold rowOf rws; simp
theorem rw29:(rowOf 29).2.1 = 2 ∧ (rowOf 29).2.2 = 2:=by unfold rowOf rws; simp
theorem rw30:(rowOf 30).2.1 = 3 ∧ (rowOf 30).2.2 = 3:=by unfold rowOf rws; simp
theorem rw31:(rowOf 31).2.1 = 1 ∧ (rowOf 31).2.2 = 1:=by unfold rowOf rws; simp
theorem rw32:(rowOf 32).2.1 = 1 ∧ (rowOf 32).2.2 = 1:=by unfold rowOf rws; simp
theorem rw33:(rowOf 33).2.1 = 2 ∧ (rowOf 33).2.2 = 2:=by unfold rowOf rws; simp
theorem rw35:(rowOf 35).2.1 = 3 ∧ (rowOf 35).2.2 = 3:=by unfold rowOf rws; simp
theorem rw36:(rowOf 36).2.1 = 2 ∧ (rowOf 36).2.2 = 2:=by unfold rowOf rws; simp
theorem rw37:(rowOf 37).2.1 = 1 ∧ (rowOf 37).2.2 = 1:=by unfold rowOf rws; simp
theorem rw38:(rowOf 38).2.1 = 1 ∧ (rowOf 38).2.2 = 1:=by unfold rowOf rws; simp
theorem rw39:(rowOf 39).2.1 = 1 ∧ (rowOf 39).2.2 = 1:=by unfold rowOf rws; simp
theorem rw40:(rowOf 40).2.1 = 1 ∧ (rowOf 40).2.2 = 1:=by unfold rowOf rws; simp
theorem rw41:(rowOf 41).2.1 = 1 ∧ (rowOf 41).2.2 = 1:=by unfold rowOf rws; simp
theorem rw42:(rowOf 42).2.1 = 1 ∧ (rowOf 42).2.2 = 1:=by unfold rowOf rws; simp
theorem rw43:(rowOf 43).2.1 = 1 ∧ (rowOf 43).2.2 = 1:=by unfold rowOf rws; simp
theorem rw44:(rowOf 44).2.1 = 1 ∧ (rowOf 44).2.2 = 1:=by unfold rowOf rws; simp
theorem rw45:(rowOf 45).2.1 = 1 ∧ (rowOf 45).2.2 = 1:=by unfold rowOf rws; simp
theorem rw46:(rowOf 46).2.1 = 1 ∧ (rowOf 46).2.2 = 1:=by unfold rowOf rws; simp
theorem rw47:(rowOf 47).2.1 = 1 ∧ (rowOf 47).2.2 = 1:=by unfold rowOf rws; simp
theorem rw48:(rowOf 48).2.1 = 1 ∧ (rowOf 48).2.2 = 1:=by unfold rowOf rws; simp
theorem rw49:(rowOf 49).2.1 = 1 ∧ (rowOf 49).2.2 = 1:=by unfold rowOf rws; simp
theorem rw50:(rowOf 50).2.1 = 1 ∧ (rowOf 50).2.2 = 1:=by unfold rowOf rws; simp
theorem rw51:(rowOf 51).2.1 = 1 ∧ (rowOf 51).2.2 = -1:=by unfold rowOf rws; simp
theorem rw52:(rowOf 52).2.1 = 1 ∧ (rowOf 52).2.2 = -1:=by unfold rowOf rws; simp
theorem rw53:(rowOf 53).2.1 = 2 ∧ (rowOf 53).2.2 = 2:=by unfold rowOf rws; simp
theorem Called.c1 {a:ArM} {l:List Val} (h:Called a 1 l):1 ≤ l.length:=by have:=h.cnt.1; rw [rw1.1] at this; omega
theorem Called.c3 {a:ArM} {l:List Val} (h:Called a 3 l):l.length = 2:=by have h1:=h.cnt.1; have h2:=h.cnt.2; rw [rw3.1] at h1; rw [rw3.2] at h2; omega
theorem Called.c4 {a:ArM} {l:List Val} (h:Called a 4 l):l.length = 2:=by have h1:=h.cnt.1; have h2:=h.cnt.2; rw [rw4.1] at h1; rw [rw4.2] at h2; omega
theorem Called.c5 {a:ArM} {l:List Val} (h:Called a 5 l):l.length = 2:=by have h1:=h.cnt.1; have h2:=h.cnt.2; rw [rw5.1] at h1; rw [rw5.2] at h2; omega
theorem Called.c6 {a:ArM} {l:List Val} (h:Called a 6 l):1 ≤ l.length:=by have:=h.cnt.1; rw [rw6.1] at this; omega
theorem Called.c7 {a:ArM} {l:List Val} (h:Called a 7 l):1 ≤ l.length:=by have:=h.cnt.1; rw [rw7.1] at this; omega
theorem Called.c8 {a:ArM} {l:List Val} (h:Called a 8 l):1 ≤ l.length:=by have:=h.cnt.1; rw [rw8.1] at this; omega
theorem Called.c9 {a:ArM} {l:List Val} (h:Called a 9 l):1 ≤ l.length:=by have:=h.cnt.1; rw [rw9.1] at this; omega
theorem Called.c10 {a:ArM} {l:List Val} (h:Called a 10 l):1 ≤ l.length:=by have:=h.cnt.1; rw [rw10.1] at this; omega
theorem Called.c11 {a:ArM} {l:List Val} (h:Called a 11 l):l.length = 1:=by have h1:=h.cnt.1; have h2:=h.cnt.2; rw [rw11.1] at h1; rw [rw11.2] at h2; omega
theorem Called.c12 {a:ArM} {l:List Val} (h:Called a 12 l):l.length = 1:=by have h1:=h.cnt.1; have h2:=h.cnt.2; rw [rw12.1] at h1; rw [rw12.2] at h2; omega
theorem Called.c13 {a:ArM} {l:List Val} (h:Called a 13 l):l.length = 2:=by have h1:=h.cnt.1; have h2:=h.cnt.2; rw [rw13.1] at h1; rw [rw13.2] at h2; omega
theorem Called.c14 {a:ArM} {l:List Val} (h:Called a 14 l):l.length = 2:=by have h1:=h.cnt.1; have h2:=h.cnt.2; rw [rw14.1] at h1; rw [rw14.2] at h2; omega
theorem Called.c16 {a:ArM} {l:List Val} (h:Called a 16 l):l.length = 1:=by have h1:=h.cnt.1; have h2:=h.cnt.2; rw [rw16.1] at h1; rw [rw16.2] at h2; omega
theorem Called.c17 {a:ArM} {l:List Val} (h:Called a 17 l):l.length = 1:=by have h1:=h.cnt.1; have h2:=h.cnt.2; rw [rw17.1] at h1; rw [rw17.2] at h2; omega
theorem Called.c18 {a:ArM} {l:List Val} (h:Called a 18 l):l.length = 2:=by have h1:=h.cnt.1; have h2:=h.cnt.2; rw [rw18.1] at h1; rw [rw18.2] at h2; omega
theorem Called.c19 {a:ArM} {l:List Val} (h:Called a 19 l):l.length = 2:=by have h1:=h.cnt.1; have h2:=h.cnt.2; rw [rw19.1] at h1; rw [rw19.2] at h2; omega
theorem Called.c20 {a:ArM} {l:List Val} (h:Called a 20 l):l.length = 1:=by have h1:=h.cnt.1; have h2:=h.cnt.2; rw [rw20.1] at h1; rw [rw20.2] at h2; omega
theorem Called.c21 {a:ArM} {l:List Val} (h:Called a 21 l):l.length = 1:=by have h1:=h.cnt.1; have h2:=h.cnt.2; rw [rw21.1] at h1; rw [rw21.2] at h2; omega
theorem Called.c23 {a:ArM} {l:List Val} (h:Called a 23 l):l.length = 1:=by have h1:=h.cnt.1; have h2:=h.cnt.2; rw [rw23.1] at h1; rw [rw23.2] at h2; omega
theorem Called.c25 {a:ArM} {l:List Val} (h:Called a 25 l):l.length = 1:=by have h1:=h.cnt.1; have h2:=h.cnt.2; rw [rw25.1] at h1; rw [rw25.2] at h2; omega
theorem Called.c26 {a:ArM} {l:List Val} (h:Called a 26 l):l.length = 2:=by have h1:=h.cnt.1; have h2:=h.cnt.2; rw [rw26.1] at h1; rw [rw26.2] at h2; omega
theorem Called.c28 {a:ArM} {l:List Val} (h:Called a 28 l):1 ≤ l.length:=by have:=h.cnt.1; rw [rw28.1] at this; omega
theorem Called.c29 {a:ArM} {l:List Val} (h:Called a 29 l):l.length = 2:=by have h1:=h.cnt.1; have h2:=h.cnt.2; rw [rw29.1] at h1; rw [rw29.2] at h2; omega
theorem Called.c30 {a:ArM} {l:List Val} (h:Called a 30 l):l.length = 3:=by have h1:=h.cnt.1; have h2:=h.cnt.2; rw [rw30.1] at h1; rw [rw30.2] at h2; omega
theorem Called.c31 {a:ArM} {l:List Val} (h:Called a 31 l):l.length = 1:=by have h1:=h.cnt.1; have h2:=h.cnt.2; rw [rw31.1] at h1; rw [rw31.2] at h2; omega
theorem Called.c32 {a:ArM} {l:List Val} (h:Called a 32 l):l.length = 1:=by have h1:=h.cnt.1; have h2:=h.cnt.2; rw [rw32.1] at h1; rw [rw32.2] at h2; omega
theorem Called.c33 {a:ArM} {l:List Val} (h:Called a 33 l):l.length = 2:=by have h1:=h.cnt.1; have h2:=h.cnt.2; rw [rw33.1] at h1; rw [rw33.2] at h2; omega
theorem Called.c35 {a:ArM} {l:List Val} (h:Called a 35 l):l.length = 3:=by have h1:=h.cnt.1; have h2:=h.cnt.2; rw [rw35.1] at h1; rw [rw35.2] at h2; omega
theorem Called.c36 {a:ArM} {l:List Val} (h:Called a 36 l):l.length = 2:=by have h1:=h.cnt.1; have h2:=h.cnt.2; rw [rw36.1] at h1; rw [rw36.2] at h2; omega
theorem Called.c37 {a:ArM} {l:List Val} (h:Called a 37 l):l.length = 1:=by have h1:=h.cnt.1; have h2:=h.cnt.2; rw [rw37.1] at h1; rw [rw37.2] at h2; omega
theorem Called.c38 {a:ArM} {l:List Val} (h:Called a 38 l):l.length = 1:=by have h1:=h.cnt.1; have h2:=h.cnt.2; rw [rw38.1] at h1; rw [rw38.2] at h2; omega
theorem Called.c39 {a:ArM} {l:List Val} (h:Called a 39 l):l.length = 1:=by have h1:=h.cnt.1; have h2:=h.cnt.2; rw [rw39.1] at h1; rw [rw39.2] at h2; omega
theorem Called.c40 {a:ArM} {l:List Val} (h:Called a 40 l):l.length = 1:=by have h1:=h.cnt.1; have h2:=h.cnt.2; rw [rw40.1] at h1; rw [rw40.2] at h2; omega
theorem Called.c41 {a:ArM} {l:List Val} (h:Called a 41 l):l.length = 1:=by have h1:=h.cnt.1; have h2:=h.cnt.2; rw [rw41.1] at h1; rw [rw41.2] at h2; omega
theorem Called.c42 {a:ArM} {l:List Val} (h:Called a 42 l):l.length = 1:=by have h1:=h.cnt.1; have h2:=h.cnt.2; rw [rw42.1] at h1; rw [rw42.2] at h2; omega
theorem Called.c43 {a:ArM} {l:List Val} (h:Called a 43 l):l.length = 1:=by have h1:=h.cnt.1; have h2:=h.cnt.2; rw [rw43.1] at h1; rw [rw43.2] at h2; omega
theorem Called.c44 {a:ArM} {l:List Val} (h:Called a 44 l):l.length = 1:=by have h1:=h.cnt.1; have h2:=h.cnt.2; rw [rw44.1] at h1; rw [rw44.2] at h2; omega
theorem Called.c45 {a:ArM} {l:List Val} (h:Called a 45 l):l.length = 1:=by have h1:=h.cnt.1; have h2:=h.cnt.2; rw [rw45.1] at h1; rw [rw45.2] at h2; omega
theorem Called.c46 {a:ArM} {l:List Val} (h:Called a 46 l):l.length = 1:=by have h1:=h.cnt.1; have h2:=h.cnt.2; rw [rw46.1] at h1; rw [rw46.2] at h2; omega
theorem Called.c47 {a:ArM} {l:List Val} (h:Called a 47 l):l.length = 1:=by have h1:=h.cnt.1; have h2:=h.cnt.2; rw [rw47.1] at h1; rw [rw47.2] at h2; omega
theorem Called.c48 {a:ArM} {l:List Val} (h:Called a 48 l):l.length = 1:=by have h1:=h.cnt.1; have h2:=h.cnt.2; rw [rw48.1] at h1; rw [rw48.2] at h2; omega
theorem Called.c49 {a:ArM} {l:List Val} (h:Called a 49 l):l.length = 1:=by have h1:=h.cnt.1; have h2:=h.cnt.2; rw [rw49.1] at h1; rw [rw49.2] at h2; omega
theorem Called.c50 {a:ArM} {l:List Val} (h:Called a 50 l):l.length = 1:=by have h1:=h.cnt.1; have h2:=h.cnt.2; rw [rw50.1] at h1; rw [rw50.2] at h2; omega
theorem Called.c51 {a:ArM} {l:List Val} (h:Called a 51 l):1 ≤ l.length:=by have:=h.cnt.1; rw [rw51.1] at this; omega
theorem Called.c52 {a:ArM} {l:List Val} (h:Called a 52 l):1 ≤ l.length:=by have:=h.cnt.1; rw [rw52.1] at this; omega
theorem Called.c53 {a:ArM} {l:List Val} (h:Called a 53 l):l.length = 2:=by have h1:=h.cnt.1; have h2:=h.cnt.2; rw [rw53.1] at h1; rw [rw53.2] at h2; omega
def listsR (a:ArM) (n:Int) (l:List Val):Val × ArM × Int :=
 if n = 15 then allocC a 0 ⟨1,0,l,[]⟩ else if n = 16 then (carM a (argV l 0),a,0) else if n = 17 then (cdrM a (argV l 0),a,0)
 else if n = 18 then ((2,0),putA a (argV l 0).2.toNat (getM a (argV l 0)).1 0 (argV l 1),0)
 else if n = 19 then ((2,0),putA a (argV l 0).2.toNat (getM a (argV l 0)).1 1 (argV l 1),0)
 else if n = 22 then aheadM a 0 (4,0) l
 else if n = 23 then ((1,((listM a 1024 (argV l 0)).1.length:Int)),a,(listM a 1024 (argV l 0)).2)
 else if n = 25 then aheadM a (listM a 1024 (argV l 0)).2 (4,0) (listM a 1024 (argV l 0)).1.reverse
 else if n = 26 then ((listRefM a 0 (argV l 0) (argV l 1).2).1,a,(listRefM a 0 (argV l 0) (argV l 1).2).2)
 else appendM a l
section
variable {X:Nat → Prop} {A C:Nat} {a:ArM} {n:Int} {l:List Val} {m:Mem}
theorem Ab5 (hp:Pairs a) (hc:Called a n l) (h1:1 ≤ l.length) (hn:16 ≤ n ∧ n ≤ 19):∃ (p:Nat) (c:CeM),argV l 0 = (7,(p:Int)) ∧ a.cells[p]? = some c ∧ (getM a (argV l 0)).1 = c ∧ c.k = 1 ∧ c.a = [carM a (argV l 0),cdrM a (argV l 0)]:=by
 have hg:=hc.gd 0 _ (Aaq (l:=l) (i:=0) (by omega))
 have hk:(getM a (argV l 0)).1.k = 1:=by
  unfold goodP at hg
  rw [if_neg (by omega),if_neg (by omega),if_neg (by omega),if_neg (by omega),if_pos hn] at hg
  simpa using hg
 obtain ⟨p,c,h1,h2,h3⟩:=Afq (a:=a) (v:=argV l 0) (by omega)
 have:=hp.get hk
 rw [h3] at hk this
 exact ⟨p,c,h1,h2,h3,hk,this⟩
theorem q70 (hA:Ar X A a m) (hX:∀ j,X j → j < m.next) (hsm:Small a) (hp:Pairs a) (hXC:¬ X C) (hC:has m C (clC A n l 0)) (hc:Called a n l) (hn:n = 15 ∨ n = 16 ∨ n = 17 ∨ n = 18 ∨ n = 19 ∨ n = 22 ∨ n = 23 ∨ n = 24 ∨ n = 25 ∨ n = 26):wph Tryz.prog ca (.func 70) [.ptr C 0] m fun r m' => r = valA (listsR a n l).1 ∧ Cs X A C n l (listsR a n l).2.1 (listsR a n l).2.2 m m':=by
 have s0:0 < l.length → l[0]? = some (argV l 0):=fun h => Aaq h
 have s1:1 < l.length → l[1]? = some (argV l 1):=fun h => Aaq h
 rcases hn with rfl | rfl | rfl | rfl | rfl | rfl | rfl | rfl | rfl | rfl
 ·exact A19 hA hX hsm hp hXC hC hc.ll rfl
 ·have k:=hc.c16
  obtain ⟨p,c,h1,h2,h3,h4,h5⟩:=Ab5 hp hc (by omega) ⟨by omega,by omega⟩
  exact A18 hA hX hsm hp hXC hC (s0 (by omega)) (by rw [h3]; exact h5) rfl
 ·have k:=hc.c17
  obtain ⟨p,c,h1,h2,h3,h4,h5⟩:=Ab5 hp hc (by omega) ⟨by omega,by omega⟩
  exact A17 hA hX hsm hp hXC hC (s0 (by omega)) (by rw [h3]; exact h5) rfl
 ·have k:=hc.c18
  obtain ⟨p,c,h1,h2,h3,h4,h5⟩:=Ab5 hp hc (by omega) ⟨by omega,by omega⟩
  refine A16 hA hX hsm hp hXC hC (by rw [← h1]; exact s0 (by omega)) (s1 (by omega)) h2 h4 (by rw [h5]; rfl) (hc.good (s1 (by omega))) ?_
  have h3':(getM a (7,(p:Int))).1 = c:=by rw [← h1]; exact h3
  simp [listsR,h1,h3']
 ·have k:=hc.c19
  obtain ⟨p,c,h1,h2,h3,h4,h5⟩:=Ab5 hp hc (by omega) ⟨by omega,by omega⟩
  refine A15 hA hX hsm hp hXC hC (by rw [← h1]; exact s0 (by omega)) (s1 (by omega)) h2 h4 (by rw [h5]; rfl) (hc.good (s1 (by omega))) ?_
  have h3':(getM a (7,(p:Int))).1 = c:=by rw [← h1]; exact h3
  simp [listsR,h1,h3']
 ·exact A14 hA hX hsm hp hXC hC hc.ll rfl
 ·have k:=hc.c23
  exact A13 hA hX hsm hp hXC hC (s0 (by omega)) rfl
 ·exact A12 hA hX hsm hp hXC hC hc.ll rfl
 ·have k:=hc.c25
  exact A11 hA hX hsm hp hXC hC (s0 (by omega)) rfl
 ·have k:=hc.c26
  exact A10 hA hX hsm hp hXC hC (s0 (by omega)) (s1 (by omega)) rfl
theorem q71' (hA:Ar X A a m) (hX:∀ j,X j → j < m.next) (hsm:Small a) (hXC:¬ X C) (hC:has m C (clC A n l 0)) (hc:Called a n l) (hn:n = 27 ∨ n = 28 ∨ n = 29 ∨ n = 30 ∨ n = 31):wph Tryz.prog ca (.func 71) [.ptr C 0] m fun v m' => v = valA (vecsM a n l).1 ∧ Cs X A C n l (vecsM a n l).2.1 (vecsM a n l).2.2 m m':=by
 refine q71 hA hX hsm hXC hC hc.ll (fun h => ?_) (fun h => ?_) hn (fun h => ?_)
 ·refine Aaq ?_
  rcases hn with rfl | rfl | rfl | rfl | rfl
  ·exact absurd rfl h
  ·have:=hc.c28; omega
  ·have:=hc.c29; omega
  ·have:=hc.c30; omega
  ·have:=hc.c31; omega
 ·refine Aaq ?_
  rcases h with rfl | rfl
  ·have:=hc.c29; omega
  ·have:=hc.c30; omega
 ·subst h
  have k:=hc.c30
  have h2:=Aaq (l:=l) (i:=2) (by omega)
  refine ⟨h2,hc.good h2,?_⟩
  have hg:=hc.gd 0 _ (Aaq (l:=l) (i:=0) (by omega))
  have hk:(getM a (argV l 0)).1.k = 2:=by
   unfold goodP at hg
   simpa using hg
  obtain ⟨p,c,h1,h2,h3⟩:=Afq (a:=a) (v:=argV l 0) (by omega)
  exact ⟨p,h1,c,h2,by rw [← h3]; exact hk⟩
theorem q72' (hA:Ar X A a m) (hX:∀ j,X j → j < m.next) (hsm:Small a) (hnm:Named a) (hXC:¬ X C) (hC:has m C (clC A n l 0)) (hc:Called a n l) (hn:32 ≤ n ∧ n ≤ 42):wph Tryz.prog ca (.func 72) [.ptr C 0] m fun v m' => v = valA (textsM a n l).1 ∧ Cs X A C n l (textsM a n l).2.1 (textsM a n l).2.2 m m':=by
 have cs:n = 32 ∨ n = 33 ∨ n = 34 ∨ n = 35 ∨ n = 36 ∨ n = 37 ∨ n = 38 ∨ n = 39 ∨ n = 40 ∨ n = 41 ∨ n = 42:=by omega
 refine q72 hA hX hsm hXC hC hc.ll (fun h => ?_) (fun h => ?_) (fun h => ?_) (fun h => ?_)
 ·refine Aaq ?_
  rcases cs with rfl | rfl | rfl | rfl | rfl | rfl | rfl | rfl | rfl | rfl | rfl
  ·have:=hc.c32; omega
  ·have:=hc.c33; omega
  ·exact absurd rfl h
  ·have:=hc.c35; omega
  ·have:=hc.c36; omega
  ·have:=hc.c37; omega
  ·have:=hc.c38; omega
  ·have:=hc.c39; omega
  ·have:=hc.c40; omega
  ·have:=hc.c41; omega
  ·have:=hc.c42; omega
 ·refine Aaq ?_
  rcases h with rfl | rfl | rfl
  ·have:=hc.c33; omega
  ·have:=hc.c35; omega
  ·have:=hc.c36; omega
 ·subst h
  have:=hc.c35
  exact Aaq (by omega)
 ·subst h
  have k:=hc.c37
  have h0:=Aaq (l:=l) (i:=0) (by omega)
  have hg:=hc.gd 0 _ h0
  have h5:(argV l 0).1 = 5:=by
   unfold goodP at hg
   simpa using hg
  have hgm:=hc.good h0
  obtain ⟨⟨vt,vn⟩,hv⟩:∃ v,v = argV l 0:=⟨_,rfl⟩
  rw [← hv] at h5 hgm ⊢
  simp only at h5
  subst h5
  have hb:below vn a.names.length = true:=by simpa [goodM] using hgm
  simp [below] at hb
  obtain ⟨s,hs⟩:∃ s,a.names[vn.toNat]? = some s:=⟨_,List.getElem?_eq_getElem (by omega)⟩
  exact ⟨vn.toNat,s,by rw [Int.toNat_of_nonneg hb.1],hs,hnm s (List.mem_of_getElem? hs)⟩
def doR (a:ArM) (n:Int) (l:List Val):Val × ArM × Int :=
 if 50 ≤ n ∨ n ≤ 5 then (numV (reckR n l).1 (reckR n l).2,a,kdOf (reckR n l).2)
 else if n ≤ 10 then (truV (holdsM n l),a,0)
 else if (43 ≤ n ∧ n ≤ 49) ∨ n = 20 ∨ n = 21 ∨ n = 12 ∨ n = 11 then (truV (asksM a n (argV l 0)),a,0)
 else if n = 13 then (truV (decide (argV l 0 = argV l 1)),a,0)
 else if n = 14 then (truV (equalM a (argV l 0) (argV l 1)),a,0)
 else if n ≤ 26 then listsR a n l
 else if n ≤ 31 then vecsM a n l
 else textsM a n l
set_option maxRecDepth 20000 in
theorem q39' (hA:Ar X A a m) (hX:∀ j,X j → j < m.next) (hsm:Small a) (hp:Pairs a) (hnm:Named a) (hXC:¬ X C) (hC:has m C (clC A n l 0)) (hc:Called a n l):wph Tryz.prog ca (.func 39) [.ptr C 0] m fun r m' => r = valA (doR a n l).1 ∧ Cs X A C n l (doR a n l).2.1 (doR a n l).2.2 m m':=by
 have hll:=hc.ll
 have h54:=hc.hi
 have h00:=hc.lo
 have hCl:=hC.1
 refine Aas Tryz.func39 rfl rfl (by simp [Tryz.f39]) (by simp [Tryz.f39]) fun Q hQ => ?_
 simp only [Tryz.f39,show ca.keepRes 39 = false from rfl,show ca.keepArgs 39 = false from rfl] at hQ ⊢
 have ln:∀ (R:TypeId) (m:Mem),abuiltin Tryz.prog .len #[66] R [.lst (vals l)] m = some (int l.length,m):=fun R m => by rw [Aat Tryz.underlying66]; simp
 obtain ⟨M1,hM1⟩:∃ M1,M1 = m.new [int 0,int 0] false:=⟨_,rfl⟩
 have k1:Kp m M1:=by rw [hM1]; simp
 have n1:M1.next = m.next + 1:=by rw [hM1]; simp
 have b0:M1.get m.next = some (.cells [int 0,int 0] false (m.clock + 1)):=by rw [hM1]; simp
 have hA1:=hA.kp k1
 have hX1:∀ j,X j → j < M1.next:=fun j h => by have:=hX j h; omega
 have hC1:=hC.kp k1
 obtain ⟨_,w,gC⟩:=id hC1
 obtain ⟨_,w',gC0⟩:=id hC
 have c0:C ≠ m.next:=by omega
 obtain ⟨res,hres⟩:∃ res,res = doR a n l:=⟨_,rfl⟩
 rw [← hres] at hQ
 have fin:∀ (s':Sl) (m5:Mem) (v:Val),s'.at 2 = .ptr m.next 0 → (∃ w,(m5.set m.next [int v.1,int v.2]).get m.next = some (.cells [int v.1,int v.2] false w)) → res.1 = v → Cs X A C n l res.2.1 res.2.2 M1 m5 → Q .ret s' (m5.set m.next [int v.1,int v.2]):=by
  intro s' m5 v h6 ⟨w,hg⟩ hv hcs
  refine hQ _ _ _ ?_
  rw [Aaf]
  refine ⟨[valA v],by simp [aresult,h6,hg,aload,partOf,Aaa],?_⟩
  simp only [Bool.false_eq_true,if_false,oneOf,Aa5,hv]
  exact ⟨trivial,Cs.box k1 hX hCl hcs (by omega) (by omega) _⟩
 have got:∀ {m5:Mem} {a':ArM} {k':Int},Cs X A C n l a' k' M1 m5 → m5.get m.next = some (.cells [int 0,int 0] false (m.clock + 1)):=fun {m5 a' k'} hcs => by
  obtain ⟨X',_,_,kc5,_⟩:=id hcs
  exact (kc5.get m.next (by omega) (fun h => by rcases h with h | h; have:=hX _ h; omega; omega)).trans b0
 have bad:∀ {m5:Mem},KpC (fun j => j = C) M1 m5 ∧ has m5 C (clC A n l (failK 0 6)) → Cs X A C n l a 6 M1 m5:=fun {m5} h => Cs.of_c hA1 hX1 hXC h.1 h.2
 simp [gC0,c0]
 rw [← hM1]
 clear hM1
 have hne:n = 1 ∨ n = 51 ∨ n = 52 → l ≠ []:=by
  rintro h rfl
  rcases h with rfl | rfl | rfl
  ·have:=hc.c1; simp at this
  ·have:=hc.c51; simp at this
  ·have:=hc.c52; simp at this
 by_cases r1:50 ≤ n
 ·rw [doR,if_pos (.inl r1)] at hres
  simp [h54,r1]
  refine Aae (q66 hC1 hll hne) ?_
  rintro _ m5 ⟨rfl,kc,hc5⟩
  have hcs:=Cs.of_c hA1 hX1 hXC kc hc5
  simp [got hcs,Aaa]
  exact fin _ _ _ (by simp) ⟨_,by simp; rfl⟩ (by rw [hres]) (by rw [hres]; exact hcs)
 by_cases r2:n ≤ 5
 ·rw [doR,if_pos (.inr r2)] at hres
  simp [h54,r1,r2]
  refine Aae (q66 hC1 hll hne) ?_
  rintro _ m5 ⟨rfl,kc,hc5⟩
  have hcs:=Cs.of_c hA1 hX1 hXC kc hc5
  simp [got hcs,Aaa]
  exact fin _ _ _ (by simp) ⟨_,by simp; rfl⟩ (by rw [hres]) (by rw [hres]; exact hcs)
 rw [doR,if_neg (by omega)] at hres
 by_cases r3:n ≤ 10
 ·rw [if_pos r3] at hres
  simp [h54,r1,r2,r3,(q68 hC1 hll).go,(q67 _).go,b0,Aaa]
  exact fin _ _ (truV (holdsM n l)) (by simp) ⟨_,by simp; rfl⟩ (by rw [hres]) (by rw [hres]; exact Cs.refl hA1 hX1 hC1)
 rw [if_neg r3] at hres
 have one:(43 ≤ n ∧ n ≤ 49) ∨ n = 20 ∨ n = 21 ∨ n = 12 ∨ n = 11 → aindexAddr Tryz.prog 66 (.lst (vals l)) (int 0) = some ((valA (argV l 0)).cptr 0):=by
  intro h
  refine Aak (i:=0) (Aaq ?_)
  rcases h with h | rfl | rfl | rfl | rfl
  ·have cs:n = 43 ∨ n = 44 ∨ n = 45 ∨ n = 46 ∨ n = 47 ∨ n = 48 ∨ n = 49:=by omega
   rcases cs with rfl | rfl | rfl | rfl | rfl | rfl | rfl
   ·have:=hc.c43; omega
   ·have:=hc.c44; omega
   ·have:=hc.c45; omega
   ·have:=hc.c46; omega
   ·have:=hc.c47; omega
   ·have:=hc.c48; omega
   ·have:=hc.c49; omega
  ·have:=hc.c20; omega
  ·have:=hc.c21; omega
  ·have:=hc.c12; omega
  ·have:=hc.c11; omega
 have q69a:=q69 hA1 hsm hC1 (argV l 0)
 by_cases r4:43 ≤ n
 ·have r4':n ≤ 49:=by omega
  rw [if_pos (.inl ⟨r4,r4'⟩)] at hres
  have ix:=one (.inl ⟨r4,r4'⟩)
  simp [h54,r1,r2,r3,r4,r4',gC,ix,Aaa,q69a.go,(q67 _).go,b0]
  exact fin _ _ (truV (asksM a n (argV l 0))) (by simp) ⟨_,by simp; rfl⟩ (by rw [hres]) (by rw [hres]; exact Cs.refl hA1 hX1 hC1)
 by_cases s20:n = 20
 ·rw [if_pos (.inr (.inl s20))] at hres
  have ix:=one (.inr (.inl s20))
  simp [h54,r1,r2,r3,r4,undefV,undef,s20,gC,ix,Aaa,q69a.go,(q67 _).go,b0]
  exact fin _ _ _ (by simp) ⟨_,by simp; rfl⟩ (by rw [hres,s20]) (by rw [hres]; exact Cs.refl hA1 hX1 hC1)
 by_cases s21:n = 21
 ·rw [if_pos (.inr (.inr (.inl s21)))] at hres
  have ix:=one (.inr (.inr (.inl s21)))
  simp [h54,r1,r2,r3,r4,undefV,undef,s20,s21,gC,ix,Aaa,q69a.go,(q67 _).go,b0]
  exact fin _ _ _ (by simp) ⟨_,by simp; rfl⟩ (by rw [hres,s21]) (by rw [hres]; exact Cs.refl hA1 hX1 hC1)
 by_cases s12:n = 12
 ·rw [if_pos (.inr (.inr (.inr (.inl s12))))] at hres
  have ix:=one (.inr (.inr (.inr (.inl s12))))
  simp [h54,r1,r2,r3,r4,undefV,undef,s20,s21,s12,gC,ix,Aaa,q69a.go,(q67 _).go,b0]
  exact fin _ _ _ (by simp) ⟨_,by simp; rfl⟩ (by rw [hres,s12]) (by rw [hres]; exact Cs.refl hA1 hX1 hC1)
 by_cases s11:n = 11
 ·rw [if_pos (.inr (.inr (.inr (.inr s11))))] at hres
  have ix:=one (.inr (.inr (.inr (.inr s11))))
  simp [h54,r1,r2,r3,r4,undefV,undef,s20,s21,s12,s11,gC,ix,Aaa,q69a.go,(q67 _).go,b0]
  exact fin _ _ _ (by simp) ⟨_,by simp; rfl⟩ (by rw [hres,s11]) (by rw [hres]; exact Cs.refl hA1 hX1 hC1)
 rw [if_neg (by omega)] at hres
 by_cases s13:n = 13
 ·rw [if_pos s13] at hres
  have k:l.length = 2:=by subst s13; exact hc.c13
  have ix0:aindexAddr Tryz.prog 66 (.lst (vals l)) (int 0) = some ((valA (argV l 0)).cptr 0):=Aak (i:=0) (Aaq (by omega))
  have ix1:aindexAddr Tryz.prog 66 (.lst (vals l)) (int 1) = some ((valA (argV l 1)).cptr 0):=Aak (i:=1) (Aaq (by omega))
  simp [h54,r1,r2,r3,r4,undefV,undef,s20,s21,s12,s11,s13]
  refine Aah (by kernel_rfl) (by kernel_rfl) ?_
  simp [gC,ix0,ix1,Aaa,Ajb,(q67 _).go,b0]
  exact fin _ _ (truV (decide (argV l 0 = argV l 1))) (by simp) ⟨_,by simp; rfl⟩ (by rw [hres]) (by rw [hres]; exact Cs.refl hA1 hX1 hC1)
 rw [if_neg s13] at hres
 by_cases s14:n = 14
 ·rw [if_pos s14] at hres
  have k:l.length = 2:=by subst s14; exact hc.c14
  have ix0:aindexAddr Tryz.prog 66 (.lst (vals l)) (int 0) = some ((valA (argV l 0)).cptr 0):=Aak (i:=0) (Aaq (by omega))
  have ix1:aindexAddr Tryz.prog 66 (.lst (vals l)) (int 1) = some ((valA (argV l 1)).cptr 0):=Aak (i:=1) (Aaq (by omega))
  have qe:=q24 hA1 hsm (argV l 0) (argV l 1)
  simp [h54,r1,r2,r3,r4,undefV,undef,s20,s21,s12,s11,s13,s14]
  refine Aah (by kernel_rfl) (by kernel_rfl) ?_
  simp [gC,ix0,ix1,Aaa,qe.go,(q67 _).go,b0]
  exact fin _ _ (truV (equalM a (argV l 0) (argV l 1))) (by simp) ⟨_,by simp; rfl⟩ (by rw [hres]) (by rw [hres]; exact Cs.refl hA1 hX1 hC1)
 rw [if_neg s14] at hres
 by_cases r5:n ≤ 26
 ·rw [if_pos r5] at hres
  simp [h54,r1,r2,r3,r4,undefV,undef,s20,s21,s12,s11,s13,s14,r5]
  refine Aae (q70 hA1 hX1 hsm hp hXC hC1 hc (by omega)) ?_
  rintro _ m5 ⟨rfl,hcs⟩
  simp [got hcs,Aaa]
  exact fin _ _ _ (by simp) ⟨_,by simp; rfl⟩ (by rw [hres]) (by rw [hres]; exact hcs)
 rw [if_neg r5] at hres
 by_cases r6:n ≤ 31
 ·rw [if_pos r6] at hres
  simp [h54,r1,r2,r3,r4,undefV,undef,s20,s21,s12,s11,s13,s14,r5,r6]
  refine Aae (q71' hA1 hX1 hsm hXC hC1 hc (by omega)) ?_
  rintro _ m5 ⟨rfl,hcs⟩
  simp [got hcs,Aaa]
  exact fin _ _ _ (by simp) ⟨_,by simp; rfl⟩ (by rw [hres]) (by rw [hres]; exact hcs)
 rw [if_neg r6] at hres
 simp [h54,r1,r2,r3,r4,undefV,undef,s20,s21,s12,s11,s13,s14,r5,r6]
 refine Aae (q72' hA1 hX1 hsm hnm hXC hC1 hc (by omega)) ?_
 rintro _ m5 ⟨rfl,hcs⟩
 simp [got hcs,Aaa]
 exact fin _ _ _ (by simp) ⟨_,by simp; rfl⟩ (by rw [hres]) (by rw [hres]; exact hcs)
end
theorem Ar7 {n:Int} (h1:(rowOf n).1 ≠ []) (h2:¬ 64 ≤ n):0 ≤ n ∧ n ≤ 54:=by
 by_cases h0:n < 0
 ·rw [Aht (.inl h0)] at h1
  exact absurd rfl h1
 refine ⟨by omega,?_⟩
 rw [← Int.not_lt]
 intro h54
 apply h1
 have cs:n = 55 ∨ n = 56 ∨ n = 57 ∨ n = 58 ∨ n = 59 ∨ n = 60 ∨ n = 61 ∨ n = 62 ∨ n = 63:=by omega
 rcases cs with rfl | rfl | rfl | rfl | rfl | rfl | rfl | rfl | rfl <;> (unfold rowOf rws; simp)
theorem doAll {X:Nat → Prop} {A:Nat} {a:ArM} {n:Int} {l:List Val} {m:Mem} (hA:Ar X A a m) (hX:∀ j,X j → j < m.next) (hsm:Small a) (hp:Pairs a) (hnm:Named a) (hll:l.length ≤ 4096):wph Tryz.prog ca (.func 22) [.ptr A 0,int n,.lst (vals l)] m fun v m' => v = .tup [valA (doM a n l (doR a n l)).1,int (doM a n l (doR a n l)).2.2] ∧ Up X A (doM a n l (doR a n l)).2.1 m m':=by
 refine q22 hA hX hsm hll fun h1 h2 h3 h4 h5 m1 C hA1 hX1 hXC hC => ?_
 have hlo:0 ≤ n ∧ n ≤ 54:=Ar7 h1 h2
 exact q39' hA1 hX1 hsm hp hnm hXC hC ⟨hlo.1,hlo.2,h3,h4,h5,hll⟩
theorem Aci {m0 m1 m:Mem} {k:Nat} {ag:Bool} {ys:List AV} {v:AV} (h:Acc m1 m k ag ys v) (hk:m0.next ≤ m1.next):Acc m0 m k ag ys v:=h.imp id fun ⟨h,i,w,e,h1,h2⟩ => ⟨h,i,w,e,Nat.le_trans hk h1,h2⟩
def rowR (c:CeM) (x:AV × AV):AV:=.agg [int c.k,int c.n,x.1,x.2]
@[simp] theorem A3p (c:CeM) (x:AV × AV):(rowR c x).okc = true:=Eq.trans rfl rfl
@[simp] theorem Aji (c:CeM) (x:AV × AV):(rowR c x).cells = [int c.k,int c.n,x.1,x.2]:=Eq.trans rfl rfl
theorem Avn (c:CeM) (x:AV × AV):AV.agg (rowR c x).cells = rowR c x:=Eq.trans rfl rfl
structure RfT (t:Nat → Option Nat) (R:Nat) (ls ns:AV) (xs:List (AV × AV)) (a:ArM) (m:Mem):Prop where
 lt:R < m.next
 tr:t R = some 0
 get:∃ v,m.get R = some (.cells [int a.room,ls,ns] false v)
 cells:Has t 1 4 true (.emp 0) m ls (List.zipWith rowR a.cells xs)
 names:Has t 2 1 false (.emp 0) m ns (a.names.map strA)
 len:xs.length = a.cells.length
 rowA:∀ (i:Nat) c x,a.cells[i]? = some c → xs[i]? = some x → Has t (4 + 2 * i) 2 true (.emp 0) m x.1 (vals c.a)
 rowS:∀ (i:Nat) c x,a.cells[i]? = some c → xs[i]? = some x → Has t (5 + 2 * i) 1 false (.emp 0) m x.2 (byts c.s)
 sane:1 ≤ a.room ∧ a.room ≤ 65536 ∧ (a.cells.length:Int) ≤ a.room ∧ a.names.length ≤ 65536
def Rf (X:Nat → Prop) (R:Nat) (a:ArM) (m:Mem):Prop:=∃ t ls ns xs,RfT t R ls ns xs a m ∧ ∀ j,t j ≠ none → X j ∧ j < m.next
def Ur (X:Nat → Prop) (R:Nat) (a:ArM) (m m':Mem):Prop:=∃ X',Rf X' R a m' ∧ KpC X m m' ∧ ∀ j,X' j → X j ∨ m.next ≤ j
theorem RfT.kc {t:Nat → Option Nat} {R:Nat} {ls ns:AV} {xs:List (AV × AV)} {a:ArM} {m m':Mem} {Y:Nat → Prop} (h:RfT t R ls ns xs a m) (k:KpC Y m m') (hY:∀ j n,j < m.next → t j = some n → ¬ Y j):RfT t R ls ns xs a m':=by
 obtain ⟨lt,tr,⟨v,get⟩,cells,names,len,rowA,rowS,sane⟩:=h
 have keep:∀ j n,j < m.next → t j = some n → m'.get j = m.get j ∧ t j = some n:=fun j n hj ht => ⟨k.get j hj (hY j n hj ht),ht⟩
 exact ⟨Nat.lt_of_lt_of_le lt k.next,tr,⟨v,by rw [(keep _ _ lt tr).1]; exact get⟩,cells.mono k.next fun j => keep j _,names.mono k.next fun j => keep j _,len,fun i c x hc hx => (rowA i c x hc hx).mono k.next fun j => keep j _,fun i c x hc hx => (rowS i c x hc hx).mono k.next fun j => keep j _,sane⟩
section
variable {X Y:Nat → Prop} {R:Nat} {a b:ArM} {m m1 m':Mem}
theorem Rf.kc (h:Rf X R a m) (k:KpC Y m m') (hY:∀ j,X j → Y j → m.next ≤ j):Rf X R a m':=by
 obtain ⟨t,ls,ns,xs,h,hx⟩:=h
 refine ⟨t,ls,ns,xs,h.kc k fun j n hj ht y => ?_,fun j hj => ⟨(hx j hj).1,Nat.lt_of_lt_of_le (hx j hj).2 k.next⟩⟩
 have:=hY j (hx j (by rw [ht]; simp)).1 y
 omega
theorem Rf.kp (h:Rf X R a m) (k:Kp m m'):Rf X R a m':=h.kc (Y:=fun _ => False) (.of (.of k)) fun _ _ h => h.elim
theorem Rf.mono (h:Rf X R a m) (k:∀ j,j < m.next → X j → Y j):Rf Y R a m:=by
 obtain ⟨t,ls,ns,xs,h,hx⟩:=h
 exact ⟨t,ls,ns,xs,h,fun j hj => ⟨k j (hx j hj).2 (hx j hj).1,(hx j hj).2⟩⟩
theorem Rf.lt (h:Rf X R a m):R < m.next:=by
 obtain ⟨_,_,_,_,h,_⟩:=h
 exact h.lt
theorem Rf.own (h:Rf X R a m):X R:=by
 obtain ⟨_,_,_,_,h,hx⟩:=h
 exact (hx R (by rw [h.tr]; simp)).1
theorem Rf.sane (h:Rf X R a m):1 ≤ a.room ∧ a.room ≤ 65536 ∧ (a.cells.length:Int) ≤ a.room ∧ a.names.length ≤ 65536:=by
 obtain ⟨_,_,_,_,h,_⟩:=h
 exact h.sane
theorem Rf.cut (h:Rf X R a m):Rf (fun j => X j ∧ j < m.next) R a m:=h.mono fun j hj hx => ⟨hx,hj⟩
theorem Ur.refl (h:Rf X R a m):Ur X R a m m:=⟨X,h,.refl _ _,fun _ h => .inl h⟩
theorem Ur.kp (h:Rf X R a m) (k:Kp m m'):Ur X R a m m':=⟨X,h.kp k,.of (.of k),fun _ h => .inl h⟩
theorem Ur.after {X1:Nat → Prop} (k:KpC X m m1) (hx:∀ j,X1 j → X j ∨ m.next ≤ j) (h:Ur X1 R a m1 m'):Ur X R a m m':=by
 obtain ⟨X2,h1,h2,h3⟩:=h
 have hn:=k.next
 refine ⟨X2,h1,(KpC.cut ((k.mono fun j h => .inl h).trans (h2.mono hx))),fun j hj => ?_⟩
 rcases h3 j hj with h | h
 ·exact hx j h
 ·exact .inr (by omega)
theorem Ur.pre (k:Kp m m1) (h:Ur X R a m1 m'):Ur X R a m m':=Ur.after (.of (.of k)) (fun j h => .inl h) h
theorem Ur.less (h:Ur (fun j => X j ∧ j < m.next) R a m m'):Ur X R a m m':=by
 obtain ⟨X',h1,h2,h3⟩:=h
 exact ⟨X',h1,h2.mono fun j h => h.1,fun j hj => (h3 j hj).imp (fun h => h.1) id⟩
theorem Ur.out (h:Ur X R a m m'):∃ X',Rf X' R a m' ∧ KpC X m m' ∧ ∀ j,X' j → (X j ∨ m.next ≤ j) ∧ j < m'.next:=by
 obtain ⟨X',h1,h2,h3⟩:=h
 obtain ⟨t,ls,ns,xs,q,hx⟩:=h1
 exact ⟨fun j => X' j ∧ j < m'.next,⟨t,ls,ns,xs,q,fun j hj => ⟨hx j hj,(hx j hj).2⟩⟩,h2,fun j hj => ⟨h3 j hj.1,hj.2⟩⟩
theorem Ur.box {B:Nat} (k1:Kp m m1) (hX:∀ j,X j → j < m.next) (h:Ur X R a m1 m') (hB:m.next ≤ B) (hB1:B < m1.next) (cs:List AV):Ur X R a m (m'.set B cs):=by
 obtain ⟨X',h1,h2,h3⟩:=h.out
 have n1:=k1.next
 refine ⟨X',h1.kc (Aap B cs m') fun j hj e => ?_,KpC.cut (((KpC.of (.of k1)).trans (h2.mono fun j h => .inl h)).trans ((Aap B cs m').mono fun j h => .inr (by omega))),fun j hj => (h3 j hj).1.imp id fun h => by omega⟩
 have e:j = B:=e
 subst e
 rcases (h3 j hj).1 with h | h
 ·have:=hX j h; omega
 ·omega
end
theorem Aow {c:CeM} {x:AV × AV}:∀ {l:List CeM} {xs:List (AV × AV)} {i:Nat},l[i]? = some c → xs[i]? = some x → (List.zipWith rowR l xs)[i]? = some (rowR c x)
 | [],_,i,h,_ => by simp at h
 | _ :: _,[],i,_,h => by simp at h
 | a :: l,b :: xs,0,h,k => by simp at h k; subst h; subst k; rfl
 | a :: l,b :: xs,i + 1,h,k => by simpa using Aow (l:=l) (xs:=xs) (i:=i) (by simpa using h) (by simpa using k)
theorem Ade:∀ (l:List CeM) (xs:List (AV × AV)),okAll 4 (List.zipWith rowR l xs) = true
 | [],_ => rfl
 | _ :: _,[] => rfl
 | a :: l,b :: xs => by rw [List.zipWith_cons_cons,Aao,Ade l xs]; simp
theorem Ahk {c:CeM} {x:AV × AV} {l:List CeM} {xs:List (AV × AV)} (h:xs.length = l.length):List.zipWith rowR (l ++ [c]) (xs ++ [x]) = List.zipWith rowR l xs ++ [rowR c x]:=by
 rw [List.zipWith_append h.symm]
 rfl
theorem RfT.at {t:Nat → Option Nat} {R:Nat} {ls ns:AV} {xs:List (AV × AV)} {a:ArM} {m:Mem} (h:RfT t R ls ns xs a m) {i:Nat} {c:CeM} (hc:a.cells[i]? = some c) :
  ∃ C v x,ls = .sl C 0 a.cells.length 4 true none ∧ C < m.next ∧ t C = some 1 ∧ m.get C = some (.cells (flat (List.zipWith rowR a.cells xs)) false v) ∧ xs[i]? = some x ∧ (List.zipWith rowR a.cells xs)[i]? = some (rowR c x) ∧ Has t (4 + 2 * i) 2 true (.emp 0) m x.1 (vals c.a) ∧ Has t (5 + 2 * i) 1 false (.emp 0) m x.2 (byts c.s):=by
 have hi:=(List.getElem?_eq_some_iff.1 hc).1
 obtain ⟨x,hx⟩:∃ x,xs[i]? = some x:=⟨_,List.getElem?_eq_getElem (by rw [h.len]; exact hi)⟩
 have hz:=Aow hc hx
 rcases h.cells with ⟨e,_⟩ | ⟨_,C,v,h1,h2,h3,h4⟩
 ·rw [e] at hz; simp at hz
 ·exact ⟨C,v,x,by rw [h1]; simp [h.len],h2,h3,h4,hx,hz,h.rowA i c x hc hx,h.rowS i c x hc hx⟩
theorem q81 (n:Int):Gives Tryz.prog ca 81 [int n] (.sc (.bool (isIn n))):=by
 refine Aag Tryz.func81 rfl rfl rfl rfl (by simp) (by simp [Tryz.f81]) (by simp [Tryz.f81]) fun m => ?_
 simp [Tryz.f81,show ca.keepRes 81 = false from rfl]
 by_cases h:-1152921504606846976 ≤ n
 ·simp [h,isIn]
 ·simp [h,isIn,undefV,undef]
section
variable {X:Nat → Prop} {R:Nat} {a:ArM} {m:Mem}
set_option maxRecDepth 20000 in
theorem q46 (h:Rf X R a m) (v:Val):EH Tryz.prog ca (.func 46) [.ptr R 0,valA v] m (.sc (.bool (goodM a v))) m:=by
 obtain ⟨t,ls,ns,xs,h,hx⟩:=h
 obtain ⟨w,hv⟩:=h.get
 have hR:=h.lt
 have n0:R ≠ m.next:=by omega
 have lc:=fun m' R => Acd (T:=74) (R:=R) (m':=m') h.cells Tryz.underlying74
 have ln:=fun m' R => Acd (T:=85) (R:=R) (m':=m') h.names Tryz.underlying85
 simp only [List.length_zipWith,h.len,Nat.min_self,List.length_map] at lc ln
 obtain ⟨k,n⟩:=v
 refine Abj Tryz.func46 rfl rfl rfl rfl (args1:=[.ptr R 0,valA (k,n)]) (m1:=m) (by simp) (by simp) (by simp [Tryz.f46]) (by simp [Tryz.f46]) ?_
 simp only [Tryz.f46,show ca.keepRes 46 = false from rfl]
 unfold goodM
 have e127:decide (n ≤ 127) = decide (n < 128):=decide_eq_decide.2 (by omega)
 by_cases k1:k = 1
 ·simp [k1,(q81 n).go]
 ·by_cases k2:k = 2
  ·by_cases h0:n = 0
   ·simp [k2,h0,below,undefV,undef]
   ·by_cases h1:n = 1
    ·simp [k2,h1,below]
    ·have:below n 2 = false:=by simp [below]; omega
     simp [k2,h0,h1,this]
  ·by_cases k3:k = 3
   ·by_cases h0:0 ≤ n
    ·simp [k3,h0,below,e127]
    ·simp [k3,h0,below,undefV,undef]
   ·by_cases k4:k = 4
    ·simp [k4]
    ·by_cases k5:k = 5
     ·simp [k5]
      refine Aah (by kernel_rfl) (by kernel_rfl) ?_
      by_cases h0:0 ≤ n
      ·simp [hv,n0,ln,h0,below]
      ·simp [hv,n0,ln,h0,below,undefV,undef]
     ·by_cases k6:k = 6
      ·by_cases h0:0 ≤ n
       ·simp [k6,h0,below]
       ·simp [k6,h0,below,undefV,undef]
      ·by_cases k7:k = 7
       ·simp [k7]
        refine Aah (by kernel_rfl) (by kernel_rfl) ?_
        by_cases h0:0 ≤ n
        ·simp [hv,n0,lc,h0,below]
        ·simp [hv,n0,lc,h0,below,undefV,undef]
       ·simp [k1,k2,k3,k4,k5,k6,k7]
theorem bix {s:List UInt8} {i:Nat} {b:UInt8} (h:s[i]? = some b):aindexAddr Tryz.prog 76 (.lst (byts s)) (int i) = some (.cptr (.sc (.int .u8 b.toNat)) 0):=Aam (P:=Tryz.prog) (q:=.i64) Tryz.underlying76 Alj (by simp [byts,h]) (by simp)
set_option maxRecDepth 20000 in
theorem q175 (h:Rf X R a m) (c:CeM) (ha:c.a.length < 2 ^ 21) (hs:c.s.length < 2 ^ 21):EH Tryz.prog ca (.func 175) [.ptr R 0,ceA c] m (.sc (.bool (fitsM a c))) m:=by
 refine Abj Tryz.func175 rfl rfl rfl rfl (args1:=[.ptr R 0,ceA c]) (m1:=m) (by simp [fzvs]) (by simp) (by simp [Tryz.f175]) (by simp [Tryz.f175]) ?_
 simp only [Tryz.f175,show ca.keepRes 175 = false from rfl]
 have la:∀ (R:TypeId) (m:Mem),abuiltin Tryz.prog .len #[66] R [.lst (vals c.a)] m = some (int c.a.length,m):=fun R m => by rw [Aat Tryz.underlying66]; simp
 have ls:∀ (R:TypeId) (m:Mem),abuiltin Tryz.prog .len #[76] R [.lst (byts c.s)] m = some (int c.s.length,m):=fun R m => by rw [Aat Tryz.underlying76]; simp
 obtain ⟨g,hgd⟩:∃ g,g = fitsM a c:=⟨_,rfl⟩
 rw [← hgd]
 obtain ⟨M1,hM1⟩:∃ M1,M1 = m.new [int c.k,int c.n,.lst (vals c.a),.lst (byts c.s)] false:=⟨_,rfl⟩
 have k1:Kp m M1:=by rw [hM1]; simp
 have b0:M1.get m.next = some (.cells [int c.k,int c.n,.lst (vals c.a),.lst (byts c.s)] false (m.clock + 1)):=by rw [hM1]; simp
 simp [ceA]
 rw [← hM1]
 clear hM1
 refine Aar 5 c.a.length (fun i s' m' => m' = M1 ∧ i ≤ 4096 ∧ ∀ j v,j < i → c.a[j]? = some v → goodM a v = true) (by simp) (by omega) ⟨rfl,by omega,fun j v h => by omega⟩ ?_
 rintro i s' m' hi e5 ⟨hm,hi4,hall⟩ hsame hw Q' hn he
 have e0:s'.at 0 = .ptr R 0:=(hsame 0 (by kernel_rfl)).trans (by simp)
 have e3:s'.at 3 = .ptr m.next 0:=(hsame 3 (by kernel_rfl)).trans (by simp)
 clear hsame
 rw [hm]
 clear hm m'
 simp [e3,e5,b0,la]
 refine Aad (fun h' => ?_) fun h' => ?_
 ·have hlt:i < c.a.length:=by simpa using h'
  obtain ⟨v,hv⟩:∃ v,c.a[i]? = some v:=⟨_,List.getElem?_eq_getElem hlt⟩
  have hix:=Aak hv
  have q:=q46 (h.kp k1) v
  simp [e5]
  by_cases h4:4096 ≤ i
  ·have h4':(4096:Int) ≤ i:=by omega
   have e1:g = false:=by
    rw [hgd]
    have:4096 < c.a.length:=by omega
    simp [fitsM,this]
   subst e1
   simp [h4',h4,undefV,undef]
   refine he _ _ _ (by simp) ?_
   simp
   exact k1
  have h4':¬ (4096:Int) ≤ i:=by omega
  simp [h4',h4,e0,e3,e5,b0,hix,Aaa,q.go]
  cases hg:goodM a v with
  | true =>
   simp [e5,hw]
   exact hn _ _ hlt (by simp) ⟨rfl,by omega,fun j u hj hu => by
    by_cases e:j = i
    ·subst e; rw [hv] at hu; cases hu; exact hg
    ·exact hall j u (by omega) hu⟩
  | false =>
   have e1:g = false:=by
    rw [hgd]
    have:(c.a.any fun v => !goodM a v) = true:=List.any_eq_true.2 ⟨v,List.mem_of_getElem? hv,by simp [hg]⟩
    simp [fitsM,this]
   subst e1
   simp
   refine he _ _ _ (by simp) ?_
   simp
   exact k1
 have hge:i = c.a.length:=by have:=of_decide_eq_false h'; omega
 have fa:¬ 4096 < c.a.length:=by omega
 have fg:(c.a.any fun v => !goodM a v) = false:=by
  rw [List.any_eq_false]
  intro v hv
  obtain ⟨j,hj,e⟩:=List.mem_iff_getElem.1 hv
  simp [hall j v (by omega) (by rw [List.getElem?_eq_getElem hj,e])]
 simp
 refine he _ _ _ (by simp) ?_
 clear he hn hw hall h' hge hi e5
 simp
 refine Aar 6 c.s.length (fun i s' m' => m' = M1 ∧ i ≤ 4096 ∧ ∀ j b,j < i → c.s[j]? = some b → hi7 b = false) (by simp) (by omega) ⟨rfl,by omega,fun j v h => by omega⟩ ?_
 clear e0
 rintro i2 s2 m' hi e6 ⟨hm,hi4,hall⟩ hsame hw Q' hn he
 have f3:s2.at 3 = .ptr m.next 0:=(hsame 3 (by kernel_rfl)).trans (by simp [e3])
 clear hsame e3
 rw [hm]
 clear hm m'
 simp [f3,e6,b0,ls]
 refine Aad (fun h' => ?_) fun h' => ?_
 ·have hlt:i2 < c.s.length:=by simpa using h'
  obtain ⟨b,hb⟩:∃ b,c.s[i2]? = some b:=⟨_,List.getElem?_eq_getElem hlt⟩
  have hix:=bix hb
  simp [e6]
  by_cases h4:4096 ≤ i2
  ·have h4':(4096:Int) ≤ i2:=by omega
   have e1:g = false:=by
    rw [hgd]
    have:4096 < c.s.length:=by omega
    simp [fitsM,this]
   subst e1
   simp [h4',h4,undefV,undef]
   refine he _ _ _ (by simp) ?_
   simp
   exact k1
  have h4':¬ (4096:Int) ≤ i2:=by omega
  by_cases h7:127 < b.toNat
  ·have h7':(127:Int) < b.toNat:=by omega
   have e1:g = false:=by
    rw [hgd]
    have:c.s.any hi7 = true:=List.any_eq_true.2 ⟨b,List.mem_of_getElem? hb,by simp [hi7]; omega⟩
    simp [fitsM,this]
   subst e1
   simp [h4',h4,f3,e6,b0,hix,h7',h7]
   refine he _ _ _ (by simp) ?_
   simp
   exact k1
  ·have h7':¬ (127:Int) < b.toNat:=by omega
   simp [h4',h4,f3,e6,b0,hix,h7',h7,hw]
   exact hn _ _ hlt (by simp) ⟨rfl,by omega,fun j u hj hu => by
    by_cases e:j = i2
    ·subst e; rw [hb] at hu; cases hu; simp [hi7]; omega
    ·exact hall j u (by omega) hu⟩
 have hge:i2 = c.s.length:=by have:=of_decide_eq_false h'; omega
 have fs:¬ 4096 < c.s.length:=by omega
 have f7:c.s.any hi7 = false:=by
  rw [List.any_eq_false]
  intro v hv
  obtain ⟨j,hj,e⟩:=List.mem_iff_getElem.1 hv
  simp [hall j v (by omega) (by rw [List.getElem?_eq_getElem hj,e])]
 have hg:g = kindM c:=by rw [hgd]; simp [fitsM,fa,fs,fg,f7]
 simp
 refine he _ _ _ (by simp) ?_
 clear he hn hw hall h' hge hi e6 hgd
 simp [f3,b0,ls]
 have kl:∀ k:Nat,decide (c.a.length = k) = decide ((c.a.length:Int) = (k:Int)):=fun k => decide_eq_decide.2 (by omega)
 have kle:decide (c.a.length ≤ 64) = decide ((c.a.length:Int) ≤ 64):=decide_eq_decide.2 (by omega)
 by_cases d1:c.k = 1
 ·rw [kindM,if_pos d1,kl 2] at hg
  rcases Classical.em (c.n = 0) with h1 | h1 <;> rcases Classical.em (c.s = []) with h2 | h2 <;> rcases Classical.em ((c.a.length:Int) = 2) with h3 | h3 <;> simp [d1,h1,h2,h3,la,f3,b0,hg,k1,undefV,undef]
 by_cases d2:c.k = 2
 ·rw [kindM,if_neg d1,if_pos d2] at hg
  rcases Classical.em (c.n = 0) with h1 | h1 <;> rcases Classical.em (c.s = []) with h2 | h2 <;> simp [d1,d2,h1,h2,la,f3,b0,hg,k1,undefV,undef]
 by_cases d3:c.k = 3
 ·rw [kindM,if_neg d1,if_neg d2,if_pos d3] at hg
  rcases Classical.em (c.n = 0) with h1 | h1 <;> rcases Classical.em (c.a = []) with h2 | h2 <;> simp [d1,d2,d3,h1,h2,la,f3,b0,hg,k1,undefV,undef]
 by_cases d4:c.k = 4
 ·rw [kindM,if_neg d1,if_neg d2,if_neg d3,if_pos d4,kl 1] at hg
  rcases Classical.em (c.n = 0) with h1 | h1 <;> rcases Classical.em (c.s = []) with h2 | h2 <;> rcases Classical.em ((c.a.length:Int) = 1) with h3 | h3 <;> simp [d1,d2,d3,d4,h1,h2,h3,la,f3,b0,hg,k1,undefV,undef]
 by_cases d5:c.k = 5
 ·rw [kindM,if_neg d1,if_neg d2,if_neg d3,if_neg d4,if_pos d5,kle] at hg
  rcases Classical.em (c.s = []) with h2 | h2 <;> rcases Classical.em ((c.a.length:Int) ≤ 64) with h3 | h3 <;> rcases Classical.em (0 ≤ c.n) with h4 | h4 <;> simp [d1,d2,d3,d4,d5,h2,h3,h4,below,la,f3,b0,hg,k1,undefV,undef]
 rw [kindM,if_neg d1,if_neg d2,if_neg d3,if_neg d4,if_neg d5] at hg
 have big:decide (c.s.length + c.a.length = 0) = (decide (c.s = []) && decide (c.a = [])):=by
  cases c.s <;> cases c.a <;> simp
 rw [big] at hg
 by_cases d6:c.k = 6 ∨ c.k = 7 ∨ c.k = 8 ∨ c.k = 9 ∨ c.k = 10 ∨ c.k = 11
 ·have q5:decide (5 < c.k) = true:=decide_eq_true (by omega)
  have q11:decide (c.k ≤ 11) = true:=decide_eq_true (by omega)
  rw [q5,q11] at hg
  rcases d6 with d | d | d | d | d | d <;> rcases Classical.em (c.s = []) with h2 | h2 <;> rcases Classical.em (c.a = []) with h3 | h3 <;> rcases Classical.em (0 ≤ c.n) with h4 | h4 <;> simp [d,h2,h3,h4,la,f3,b0,hg,k1,undefV,undef]
 ·have q0:(decide (5 < c.k) && decide (c.k ≤ 11)) = false:=by simp; omega
  have hg0:g = false:=by rw [hg,← Bool.and_assoc,q0]; rfl
  have e6:c.k ≠ 6:=fun e => d6 (by simp [e])
  have e7:c.k ≠ 7:=fun e => d6 (by simp [e])
  have e8:c.k ≠ 8:=fun e => d6 (by simp [e])
  have e9:c.k ≠ 9:=fun e => d6 (by simp [e])
  have e10:c.k ≠ 10:=fun e => d6 (by simp [e])
  have e11:c.k ≠ 11:=fun e => d6 (by simp [e])
  simp [d1,d2,d3,d4,d5,e6,e7,e8,e9,e10,e11,hg0,k1]
end
theorem Asr (m:Mem) (k:Nat) (ag:Bool):Acc m m k ag [] (.emp 0):=.inl ⟨rfl,rfl⟩
theorem Ar1 {m:Mem} {x:AV} {ys:List AV} (h:srcOf m x = some ys):x.okc = true:=by
 cases x with
 | sc v => cases v <;> first | rfl | (simp [srcOf,elemsOf] at h; done)
 | _ => first | rfl | (simp [srcOf,elemsOf] at h; done)
theorem Ais {m0 m:Mem} {k:Nat} {ag:Bool} {ys:List AV} {v:AV} (h:Acc m0 m k ag ys v):v.okc = true ∧ v.cells = [v]:=by
 rcases h with ⟨_,rfl⟩ | ⟨_,id,w,rfl,_⟩ <;> exact ⟨rfl,rfl⟩
structure Shows (m:Mem) (c:CeM) (x:AV × AV):Prop where
 a:∀ m',Kp m m' → srcOf m' x.1 = some (vals c.a)
 s:∀ m',Kp m m' → srcOf m' x.2 = some (byts c.s)
theorem Ar4 (m:Mem) (c:CeM):Shows m c (.lst (vals c.a),.lst (byts c.s)):=⟨fun _ _ => rfl,fun _ _ => rfl⟩
theorem q176 {m:Mem} (c:CeM) {x0:AV × AV} (sh:Shows m c x0) (ha:c.a.length < 2 ^ 21) (hs:c.s.length < 2 ^ 21):wph Tryz.prog ca (.func 176) [rowR c x0] m fun v m' => Kp m m' ∧ ∃ x,v = rowR c x ∧ Acc m m' 2 true (vals c.a) x.1 ∧ Acc m m' 1 false (byts c.s) x.2 ∧ (∀ j,owns x.1 j → ¬ owns x.2 j):=by
 refine Aas Tryz.func176 rfl rfl (by simp [Tryz.f176]) (by simp [Tryz.f176]) fun Q hQ => ?_
 simp only [Tryz.f176,show ca.keepRes 176 = true from rfl,show ca.keepArgs 176 = true from rfl] at hQ ⊢
 obtain ⟨M1,hM1⟩:∃ M1,M1 = (m.new [int c.k,int c.n,x0.1,x0.2] false).new [int 0,int 0,.emp 0,.emp 0] false:=⟨_,rfl⟩
 have k1:Kp m M1:=by rw [hM1]; simp
 have n1:M1.next = m.next + 2:=by rw [hM1]; simp
 have b0:M1.get m.next = some (.cells [int c.k,int c.n,x0.1,x0.2] false (m.clock + 1)):=by rw [hM1]; simp
 have b1:M1.get (m.next + 1) = some (.cells [int 0,int 0,.emp 0,.emp 0] false (m.clock + 2)):=by rw [hM1]; simp
 have hsA:=sh.a M1 k1
 have ok1:=Ar1 hsA
 obtain ⟨v3,m3,p1,p2,p3,p4⟩:=Adh (T:=66) (zs:=vals c.a) (Asr M1 2 true) (Nat.le_refl _) (by rfl) el66 (Aa4 _) (by simp [fzx]) (by simp; omega)
 have n3:=p3.next
 have hsS:=sh.s m3 (k1.trans (Aco p3 (.refl _) fun j h => (h:False).elim))
 have ok2:=Ar1 hsS
 obtain ⟨v5,m5,r1,r2,r3,r4⟩:=Adh (T:=76) (zs:=byts c.s) (Asr m3 1 false) (Nat.le_refl _) (by rfl) el76 (Aie _) (by simp [fzx]) (by simp; omega)
 have n5:=r3.next
 simp only [List.nil_append] at p2 r2
 have ok3:=Ais p2
 have ok5:=Ais r2
 have noE:∀ j,¬ owns (.emp 0) j:=fun j h => h
 have k13:Kp M1 m3:=Aco p3 (.refl _) fun j h => (noE j h).elim
 have k35:Kp m3 m5:=Aco r3 (.refl _) fun j h => (noE j h).elim
 have b03:=(k13.get m.next (by omega)).trans b0
 have b05:=(k35.get m.next (by omega)).trans b03
 have b15:=(k35.get (m.next + 1) (by omega)).trans ((k13.get (m.next + 1) (by omega)).trans b1)
 have o3:∀ j,owns v3 j → M1.next ≤ j ∧ j < m3.next:=fun j h => Aa7 p2 j h
 have o5:∀ j,owns v5 j → m3.next ≤ j ∧ j < m5.next:=fun j h => Aa7 r2 j h
 have kA:KpC (fun j => j = m.next + 1) m5 (m5.set (m.next + 1) [int c.k,int c.n,v3,v5]):=Aap _ _ _
 have kall:Kp m (m5.set (m.next + 1) [int c.k,int c.n,v3,v5]):=((k1.trans k13).trans k35).set (by omega) _
 simp [rowR]
 rw [← hM1]
 clear hM1
 refine Aax (by kernel_rfl) ?_
 simp [b0,ok1,ok2,ok3,ok5,abuiltin,hsA,p1,b03,hsS,r1,abuild,placesOf,fillAt,b15]
 refine Abh (l:=[(1,6),(3,6),(6,8),(1,9),(3,9)]) (by kernel_rfl) (?_:List.all _ _ = true) ?_
 ·simp [metAtD,metOkD,rank,verKeptD,Region.wanted,Mem.ver,b0,b03,b05]
 simp [b0,ok1,ok2,ok3,ok5,abuiltin,hsA,p1,b03,hsS,r1,abuild,placesOf,fillAt,b15]
 refine hQ _ _ _ ?_
 rw [Aaf]
 refine ⟨[rowR c (v3,v5)],by simp [aresult,aload,partOf,rowR],?_⟩
 simp only [if_true,oneOf]
 refine ⟨kall,(v3,v5),rfl,?_,?_,fun j h1 h2 => by have:=o3 j h1; have:=o5 j h2; omega⟩
 ·refine Aci (Aa9 p2 ((KpC.of (.of k35)).trans (kA.mono fun j h => h)) fun j h e => ?_) (by omega)
  have:=o3 j h
  have e:j = m.next + 1:=e
  omega
 ·refine Aci (Aa9 r2 kA fun j h e => ?_) (by omega)
  have:=o5 j h
  have e:j = m.next + 1:=e
  omega
theorem Apm {t:Nat → Option Nat} {n k:Nat} {ag:Bool} {m0 m:Mem} {x:AV} {ys:List AV} (h:Acc m0 m k ag ys x) (ht:∀ j,owns x j → t j = some n):Has t n k ag (.emp 0) m x ys:=by
 rcases h with h | ⟨h,id,w,rfl,h1,h2,h3⟩
 ·exact .inl h
 ·exact .inr ⟨h,id,w,rfl,h2,ht id rfl,h3⟩
theorem Azm {X:Nat → Prop} {R N:Nat} {a:ArM} {c:CeM} {m m':Mem} {t:Nat → Option Nat} {ls ns:AV} {x:AV × AV} {xs:List (AV × AV)} (h:RfT t R ls ns xs a m) (hx:∀ j,t j ≠ none → X j ∧ j < m.next)
  (k:KpC (fun j => j = R ∨ owns ls j) m m') (hN:m.next ≤ N) (hN2:N < m'.next) (hgN:∃ v,m'.get N = some (.cells (flat (List.zipWith rowR a.cells xs ++ [rowR c x])) false v)) (hgR:∃ v,m'.get R = some (.cells [int a.room,.sl N 0 (a.cells.length + 1) 4 true none,ns] false v))
  (hf:Acc m m' 2 true (vals c.a) x.1) (hf2:Acc m m' 1 false (byts c.s) x.2) (hd:∀ j,owns x.1 j → ¬ owns x.2 j) (hxN:¬ owns x.1 N) (hxN2:¬ owns x.2 N) (hr:(a.cells.length:Int) < a.room):Ur X R (pushM a c) m m':=by
 classical
 obtain ⟨lt,tr,⟨v,get⟩,cells,names,len,rowA,rowS,sane⟩:=h
 have hC:∀ j,owns ls j → t j = some 1:=by
  intro j hj
  rcases cells with ⟨_,rfl⟩ | ⟨_,C,w,rfl,_,h2,_⟩
  ·exact hj.elim
  ·have:C = j:=hj
   rw [← this]; exact h2
 have tc:∀ j n,j < m.next → t j = some n → n ≠ 0 → n ≠ 1 → m'.get j = m.get j:=by
  intro j n hj ht h0 h1
  refine k.get j hj ?_
  rintro (rfl | h)
  ·rw [tr] at ht; cases ht; exact h0 rfl
  ·rw [hC j h] at ht; cases ht; exact h1 rfl
 have kn:=k.next
 obtain ⟨t',ht'⟩:∃ t':Nat → Option Nat,t' = fun j => if j < m.next then t j else if j < m'.next then (if j = N then some 1 else if owns x.1 j then some (4 + 2 * a.cells.length) else some (5 + 2 * a.cells.length)) else none:=⟨_,rfl⟩
 have told:∀ j,j < m.next → t' j = t j:=fun j hj => by rw [ht']; exact if_pos hj
 have oA:=fun j (h:owns x.1 j) => Aa7 hf j h
 have oS:=fun j (h:owns x.2 j) => Aa7 hf2 j h
 have tA:∀ j,owns x.1 j → t' j = some (4 + 2 * a.cells.length):=fun j h => by
  have:=oA j h
  have hne:j ≠ N:=fun e => hxN (e ▸ h)
  rw [ht']
  simp only
  rw [if_neg (by omega),if_pos (by omega),if_neg hne,if_pos h]
 have tS:∀ j,owns x.2 j → t' j = some (5 + 2 * a.cells.length):=fun j h => by
  have:=oS j h
  have hne:j ≠ N:=fun e => hxN2 (e ▸ h)
  rw [ht']
  simp only
  rw [if_neg (by omega),if_pos (by omega),if_neg hne,if_neg (fun q => hd j q h)]
 have tN:t' N = some 1:=by
  rw [ht']
  simp only
  rw [if_neg (by omega),if_pos hN2]
  exact if_pos trivial
 have out:∀ j,t' j ≠ none → (X j ∨ m.next ≤ j) ∧ j < m'.next:=by
  intro j hj
  rw [ht'] at hj
  simp only at hj
  by_cases h1:j < m.next
  ·rw [if_pos h1] at hj
   exact ⟨.inl (hx j hj).1,by omega⟩
  ·rw [if_neg h1] at hj
   by_cases h2:j < m'.next
   ·exact ⟨.inr (by omega),h2⟩
   ·rw [if_neg h2] at hj
    exact absurd rfl hj
 clear ht'
 refine ⟨fun j => X j ∨ m.next ≤ j,⟨t',.sl N 0 (a.cells.length + 1) 4 true none,ns,xs ++ [x],⟨by omega,(told R lt).trans tr,hgR,?_,?_,by simp [pushM,len],?_,?_,?_⟩,out⟩,?_,fun j hj => hj⟩
 ·obtain ⟨w,hw⟩:=hgN
  exact .inr ⟨by simp [pushM,Ahk len],N,w,by simp [pushM,Ahk len,len],hN2,tN,by simp only [pushM,Ahk len]; exact hw⟩
 ·exact names.mono kn fun j hj ht => ⟨tc j 2 hj ht (by omega) (by omega),(told j hj).trans ht⟩
 ·intro i c' x' hc' hx'
  simp only [pushM] at hc'
  rcases Nat.lt_or_ge i a.cells.length with hi | hi
  ·rw [List.getElem?_append_left hi] at hc'
   rw [List.getElem?_append_left (by omega)] at hx'
   exact (rowA i c' x' hc' hx').mono kn fun j hj ht => ⟨tc j _ hj ht (by omega) (by omega),(told j hj).trans ht⟩
  ·have hlen:=(List.getElem?_eq_some_iff.1 hc').1
   simp at hlen
   obtain rfl:i = a.cells.length:=by omega
   rw [List.getElem?_append_right (by omega)] at hc'
   rw [List.getElem?_append_right (by omega),len] at hx'
   simp at hc' hx'
   subst hc'
   subst hx'
   exact Apm hf tA
 ·intro i c' x' hc' hx'
  simp only [pushM] at hc'
  rcases Nat.lt_or_ge i a.cells.length with hi | hi
  ·rw [List.getElem?_append_left hi] at hc'
   rw [List.getElem?_append_left (by omega)] at hx'
   exact (rowS i c' x' hc' hx').mono kn fun j hj ht => ⟨tc j _ hj ht (by omega) (by omega),(told j hj).trans ht⟩
  ·have hlen:=(List.getElem?_eq_some_iff.1 hc').1
   simp at hlen
   obtain rfl:i = a.cells.length:=by omega
   rw [List.getElem?_append_right (by omega)] at hc'
   rw [List.getElem?_append_right (by omega),len] at hx'
   simp at hc' hx'
   subst hc'
   subst hx'
   exact Apm hf2 tS
 ·obtain ⟨s1,s2,s3,s4⟩:=sane
  exact ⟨s1,s2,by simp [pushM]; omega,s4⟩
 ·refine k.mono fun j hj => ?_
  rcases hj with rfl | hj
  ·exact (hx j (by rw [tr]; simp)).1
  ·exact (hx j (by rw [hC j hj]; simp)).1
theorem q144 {X:Nat → Prop} {R:Nat} {a:ArM} {m:Mem} (hR:Rf X R a m) (c:CeM) (ha:c.a.length < 2 ^ 21) (hs:c.s.length < 2 ^ 21):wph Tryz.prog ca (.func 144) [.ptr R 0,ceA c] m fun v m' => v = .tup [valA (allocM a c).2.1,int (allocM a c).2.2] ∧ Ur X R (allocM a c).1 m m':=by
 refine Aas Tryz.func144 rfl rfl (by simp [Tryz.f144]) (by simp [Tryz.f144]) fun Q hQ => ?_
 simp only [Tryz.f144,show ca.keepRes 144 = false from rfl,show ca.keepArgs 144 = false from rfl] at hQ ⊢
 have k1:Kp m ((m.new (ceA c).cells false).new [int 0,int 0] false):=by simp
 have q2:=q175 (hR.kp k1) c ha hs
 simp only [Afv] at k1 q2
 have ecA:AV.agg [int c.k,int c.n,.lst (vals c.a),.lst (byts c.s)] = ceA c:=rfl
 simp [ecA,q2.go]
 unfold allocM at hQ
 cases hfit:fitsM a c with
 | false =>
  rw [hfit] at hQ
  simp [Aan]
  refine hQ _ _ _ ?_
  rw [Aaf]
  simp [aresult,oneOf,valA]
  exact Ur.kp hR (by simp)
 | true =>
  rw [hfit] at hQ
  obtain ⟨t,ls,ns,xs,h0,hx0⟩:=id hR
  have h:=h0.kc (Y:=fun _ => False) (.of (.of k1)) fun _ _ _ _ h => h
  have ownC:∀ j,owns ls j → j < m.next ∧ t j = some 1:=by
   intro j hj
   rcases h0.cells with ⟨_,rfl⟩ | ⟨_,C,u,rfl,hc1,hc2,_⟩
   ·exact hj.elim
   ·have e:C = j:=hj
    subst e
    exact ⟨hc1,hc2⟩
  obtain ⟨w,hv⟩:=h.get
  have hRlt:=hR.lt
  have lc:=fun m' R => Acd (T:=74) (R:=R) (m':=m') h.cells Tryz.underlying74
  simp only [List.length_zipWith,h.len,Nat.min_self] at lc
  simp
  refine Aah (by kernel_rfl) (by kernel_rfl) ?_
  simp [hv,lc]
  refine Aad (fun hr => ?_) fun hr => ?_
  ·have hr':a.room ≤ a.cells.length:=by simpa using hr
   simp [Aan]
   refine hQ _ _ _ ?_
   rw [Aaf]
   simp [aresult,oneOf,valA,hr']
   exact Ur.kp hR (by simp)
  ·have hr':¬ a.room ≤ a.cells.length:=by simpa using hr
   rw [if_pos rfl,if_neg hr'] at hQ
   have nR:R ≠ m.next:=by omega
   have nR1:R ≠ m.next + 1:=by omega
   simp
   refine Aax (by kernel_rfl) ?_
   simp [hv,ecA]
   refine Aae (q176 (x0:=(.lst (vals c.a),.lst (byts c.s))) c (Ar4 _ c) ha hs) ?_
   rintro _ m2 ⟨k2,x2,rfl,hf,hf2,hdj⟩
   have hv2:=(k2.get R (by simp; omega)).trans hv
   have n2:=k2.next
   simp at n2
   have hsrc:=Abv (m:=m2.new (rowR c x2).cells false) (id:=m2.next) (c:=some 1) (k:=4) (ag:=true) (x:=rowR c x2) (w:=m2.clock + 1) (f:=false) rfl (by simp) (by simp) (Avn c x2)
   obtain ⟨m3,p1,p2,⟨w3,p3⟩,p4,p5⟩:=Acs (T:=74) ((h.cells.acc.kp k2).kp (.new m2 (rowR c x2).cells false)) (Ade _ _) el74 (zs:=[rowR c x2]) (zs':=[rowR c x2]) (List.cons_ne_nil _ _) (by simp [Aao,Aba]) (by simp) (.refl _) (by have:=h.sane; simp [h.len]; omega)
   simp only [Aji] at hsrc p1 p2 p3 p4 p5
   have nR2:R < m2.next:=by omega
   have nR3:R ≠ m2.next:=by omega
   have wl:IntKind.i64.wrap ((a.cells.length:Int) + 1 - 1) = (a.cells.length:Int):=by rw [IntWalk.i64_in _ (by have:=h.sane; omega)]; omega
   have nown:¬ owns ls R:=fun hh => by
    have:=(ownC R hh).2
    rw [h.tr] at this
    cases this
   have hb3:m3.get (m.next + 1) = some (.cells [int 0,int 0] false (m.clock + 2)):=by
    rw [p4 (m.next + 1) (by simp; omega) (fun hh => by have:=(ownC _ hh).1; omega)]
    have:m.next + 1 ≠ m2.next:=by omega
    simp [this]
    rw [k2.get (m.next + 1) (by simp)]
    simp
   have hv3:m3.get R = some (.cells [int a.room,ls,ns] false w):=by
    rw [p4 R (by simp; omega) nown]
    simp [nR3]
    exact hv2
   simp [rowR,abuildSlice,zeros,fillAt]
   simp [rowR] at hsrc p1
   simp [abuiltin,hsrc,p1,hv3]
   refine Abh (l:=[(4,6),(4,7)]) (by kernel_rfl) (?_:List.all _ _ = true) ?_
   ·simp [metAtD,metOkD,rank,verKeptD,Region.wanted,Mem.ver,hv,hv2,nR,nR1,nR3]
   have nR4:=Ne.symm nR1
   simp [hv3,Abw Tryz.underlying74,h.len,wl,Ada,hb3,nR1,nR4]
   refine hQ _ _ _ ?_
   rw [Aaf]
   have wl2:IntKind.i64.wrap (a.cells.length:Int) = (a.cells.length:Int):=IntWalk.i64_in _ (by have:=h.sane; omega)
   simp [aresult,oneOf,wl2]
   refine ⟨rfl,?_⟩
   have p5n:m2.next + 1 < m3.next:=by rw [p2]; simp
   have kf:KpC (fun j => j = R ∨ owns ls j ∨ j = m.next + 1 ∨ m2.next ≤ j) m2 ((m3.set R [int a.room,AV.sl (m2.next + 1) 0 (a.cells.length + 1) 4 true none,ns]).set (m.next + 1) [int 7,int a.cells.length]):=by
    refine ⟨by simp; omega,fun j hj hn => ?_,fun j hj hn => ?_⟩
    ·have a1:j ≠ R:=fun e => hn (.inl e)
     have a2:¬ owns ls j:=fun e => hn (.inr (.inl e))
     have a3:j ≠ m.next + 1:=fun e => hn (.inr (.inr (.inl e)))
     have a4:j ≠ m2.next:=by omega
     have:=p4 j (by simp; omega) a2
     simp [a4] at this
     simp [a1,a3,this]
    ·have b1:=p5 j (by simp; omega)
     simp at b1
     simp
     exact b1
   have kc:KpC (fun j => j = R ∨ owns ls j) m ((m3.set R [int a.room,AV.sl (m2.next + 1) 0 (a.cells.length + 1) 4 true none,ns]).set (m.next + 1) [int 7,int a.cells.length]):=by
    refine ⟨by simp; omega,fun j hj hn => ?_,fun j hj hn => ?_⟩
    ·have a1:j ≠ R:=fun e => hn (.inl e)
     have a2:¬ owns ls j:=fun e => hn (.inr e)
     have a3:j ≠ m.next + 1:=by omega
     have a5:j ≠ m.next:=by omega
     rw [kf.get j (by omega) (fun e => e.elim a1 fun e => e.elim a2 fun e => e.elim a3 fun e => by omega)]
     rw [k2.get j (by simp; omega)]
     simp [a3,a5]
    ·have b1:=p5 j (by simp; omega)
     have b2:=k2.x j (by simp; omega)
     simp at b1 b2
     simp
     exact ⟨b1.1.trans b2.1,b1.2.trans b2.2⟩
   have o1:=fun j (q:owns x2.1 j) => Aa7 hf j q
   have o2:=fun j (q:owns x2.2 j) => Aa7 hf2 j q
   simp at o1 o2
   have nk:∀ j,m.next + 2 ≤ j → j < m2.next → ¬ (j = R ∨ owns ls j ∨ j = m.next + 1 ∨ m2.next ≤ j):=by
    rintro j h1 h2 (e | e | e | e)
    ·omega
    ·have:=(ownC j e).1; omega
    ·omega
    ·omega
   refine Azm (N:=m2.next + 1) (x:=x2) h0 hx0 kc (by omega) (by simp; omega) ⟨w3,?_⟩ ⟨m3.clock + 1,?_⟩ (Aci (Aa9 hf kf fun j q => nk j (o1 j q).1 (o1 j q).2) (by simp)) (Aci (Aa9 hf2 kf fun j q => nk j (o2 j q).1 (o2 j q).2) (by simp)) hdj (fun q => by have:=(o1 _ q).2; omega) (fun q => by have:=(o2 _ q).2; omega) (by omega)
   ·have b1:m2.next + 1 ≠ R:=by omega
    have b2:m2.next + 1 ≠ m.next + 1:=by omega
    have b3:m2.next ≠ m.next:=by omega
    simp [b1,b2,b3]
    simpa using p3
   ·simp [nR1]
theorem Arz:∀ l:List (List UInt8),okAll 1 (l.map strA) = true
 | [] => rfl
 | x :: l => by rw [List.map_cons,Aao,Arz l]; simp
theorem Amr:∀ l:List (List UInt8),flat (l.map strA) = l.map strA
 | [] => rfl
 | x :: l => by rw [List.map_cons,Aa2,Amr l]; rfl
theorem RfT.name_at {t:Nat → Option Nat} {R:Nat} {ls ns:AV} {xs:List (AV × AV)} {a:ArM} {m:Mem} (h:RfT t R ls ns xs a m) {i:Nat} {s:List UInt8} (hs:a.names[i]? = some s) :
  ∃ id w,ns = .sl id 0 a.names.length 1 false none ∧ id < m.next ∧ t id = some 2 ∧ m.get id = some (.cells (a.names.map strA) false w):=by
 have hlt:=(List.getElem?_eq_some_iff.1 hs).1
 rcases h.names with ⟨e,_⟩ | ⟨_,id,w,rfl,h1,h2,h3⟩
 ·have:=congrArg List.length e
  simp at this
  rw [this] at hlt
  simp at hlt
 ·exact ⟨id,w,by simp,h1,h2,by rw [h3,Amr]⟩
theorem Ats {l:List (List UInt8)} {s:List UInt8} {i:Nat} (h:l[i]? = some s) (hn:∀ j x,j < i → l[j]? = some x → x ≠ s):l.findIdx? (fun x => decide (x = s)) = some i:=by
 obtain ⟨h1,h2⟩:=List.getElem?_eq_some_iff.1 h
 rw [List.findIdx?_eq_some_iff_getElem]
 exact ⟨h1,by simp [h2],fun j hj => by
  have:=hn j _ hj (List.getElem?_eq_getElem (by omega))
  simp [this]⟩
theorem Att {l:List (List UInt8)} {s:List UInt8} (hn:∀ (j:Nat) x,l[j]? = some x → x ≠ s):l.findIdx? (fun x => decide (x = s)) = none:=by
 rw [List.findIdx?_eq_none_iff]
 intro x hx
 obtain ⟨j,hj,e⟩:=List.mem_iff_getElem.1 hx
 have:=hn j x (by rw [List.getElem?_eq_getElem hj,e])
 simp [this]
theorem Azn {X:Nat → Prop} {R N:Nat} {a:ArM} {s:List UInt8} {m m':Mem} {t:Nat → Option Nat} {ls ns:AV} {xs:List (AV × AV)} (h:RfT t R ls ns xs a m) (hx:∀ j,t j ≠ none → X j ∧ j < m.next)
  (k:KpC (fun j => j = R ∨ owns ns j) m m') (hN:m.next ≤ N) (hN2:N < m'.next) (hgN:∃ v,m'.get N = some (.cells (flat ((a.names ++ [s]).map strA)) false v)) (hgR:∃ v,m'.get R = some (.cells [int a.room,ls,.sl N 0 (a.names.length + 1) 1 false none] false v)) (hr:a.names.length < 65536):Ur X R (nameM a s) m m':=by
 obtain ⟨lt,tr,⟨v,get⟩,cells,names,len,rowA,rowS,sane⟩:=h
 have hC:∀ j,owns ns j → t j = some 2:=by
  intro j hj
  rcases names with ⟨_,rfl⟩ | ⟨_,C,w,rfl,_,h2,_⟩
  ·exact hj.elim
  ·have:C = j:=hj
   rw [← this]; exact h2
 have tc:∀ j n,j < m.next → t j = some n → n ≠ 0 → n ≠ 2 → m'.get j = m.get j:=by
  intro j n hj ht h0 h1
  refine k.get j hj ?_
  rintro (rfl | h)
  ·rw [tr] at ht; cases ht; exact h0 rfl
  ·rw [hC j h] at ht; cases ht; exact h1 rfl
 have kn:=k.next
 obtain ⟨t',ht'⟩:∃ t':Nat → Option Nat,t' = fun j => if j < m.next then t j else if j = N then some 2 else none:=⟨_,rfl⟩
 have told:∀ j,j < m.next → t' j = t j:=fun j hj => by rw [ht']; exact if_pos hj
 have tN:t' N = some 2:=by
  rw [ht']
  simp only
  rw [if_neg (by omega)]
  exact if_pos trivial
 have out:∀ j,t' j ≠ none → (X j ∨ m.next ≤ j) ∧ j < m'.next:=by
  intro j hj
  rw [ht'] at hj
  simp only at hj
  by_cases h1:j < m.next
  ·rw [if_pos h1] at hj
   exact ⟨.inl (hx j hj).1,by omega⟩
  ·rw [if_neg h1] at hj
   by_cases h2:j = N
   ·subst h2; exact ⟨.inr (by omega),hN2⟩
   ·rw [if_neg h2] at hj
    exact absurd rfl hj
 clear ht'
 refine ⟨fun j => X j ∨ m.next ≤ j,⟨t',ls,.sl N 0 (a.names.length + 1) 1 false none,xs,⟨by omega,(told R lt).trans tr,hgR,?_,?_,by simpa [nameM] using len,?_,?_,?_⟩,out⟩,?_,fun j hj => hj⟩
 ·exact cells.mono kn fun j hj ht => ⟨tc j 1 hj ht (by omega) (by omega),(told j hj).trans ht⟩
 ·obtain ⟨w,hw⟩:=hgN
  exact .inr ⟨by simp [nameM],N,w,by simp [nameM],hN2,tN,hw⟩
 ·intro i c' x' hc' hx'
  exact (rowA i c' x' hc' hx').mono kn fun j hj ht => ⟨tc j _ hj ht (by omega) (by omega),(told j hj).trans ht⟩
 ·intro i c' x' hc' hx'
  exact (rowS i c' x' hc' hx').mono kn fun j hj ht => ⟨tc j _ hj ht (by omega) (by omega),(told j hj).trans ht⟩
 ·obtain ⟨s1,s2,s3,s4⟩:=sane
  exact ⟨s1,s2,s3,by simp [nameM]; omega⟩
 ·refine k.mono fun j hj => ?_
  rcases hj with rfl | hj
  ·exact (hx j (by rw [tr]; simp)).1
  ·exact (hx j (by rw [hC j hj]; simp)).1
theorem q101 {X:Nat → Prop} {R:Nat} {a:ArM} {m:Mem} (hR:Rf X R a m) (s:List UInt8) (hs:s.length < 2 ^ 62):wph Tryz.prog ca (.func 101) [.ptr R 0,strA s] m fun v m' => v = .tup [valA (symM a s).2.1,int (symM a s).2.2] ∧ Ur X R (symM a s).1 m m':=by
 refine Aas Tryz.func101 rfl rfl (by simp [Tryz.f101]) (by simp [Tryz.f101]) fun Q hQ => ?_
 simp only [Tryz.f101,show ca.keepRes 101 = false from rfl,show ca.keepArgs 101 = false from rfl] at hQ ⊢
 have k1:Kp m (m.new [int 0,int 0] false):=by simp
 have q2:=Ad2 (g13 s hs)
 simp [q2.go]
 unfold symM at hQ
 cases hsy:Sym s with
 | false =>
  rw [hsy] at hQ
  simp [Aan]
  refine hQ _ _ _ ?_
  rw [Aaf]
  simp [aresult,oneOf,valA]
  exact Ur.kp hR (by simp)
 | true =>
  rw [hsy,if_pos rfl] at hQ
  obtain ⟨t,ls,ns,xs,h0,hx0⟩:=id hR
  have h:=h0.kc (Y:=fun _ => False) (.of (.of k1)) fun _ _ _ _ h => h
  obtain ⟨w,hv⟩:=h.get
  have hRlt:=hR.lt
  have nR:R ≠ m.next:=by omega
  have sn:=h.sane
  have ln:=fun m' R => Acd (T:=85) (R:=R) (m':=m') h.names Tryz.underlying85
  simp only [List.length_map] at ln
  have b0:(m.new [int 0,int 0] false).get m.next = some (.cells [int 0,int 0] false (m.clock + 1)):=by simp
  obtain ⟨M1,hM1⟩:∃ M1,M1 = m.new [int 0,int 0] false:=⟨_,rfl⟩
  rw [← hM1] at h hv b0 k1
  have n1:M1.next = m.next + 1:=by rw [hM1]; simp
  simp
  rw [← hM1]
  clear hM1
  refine Aar 6 a.names.length (fun i s' m' => m' = M1 ∧ ∀ j x,j < i → a.names[j]? = some x → x ≠ s) (by simp) (by omega) ⟨rfl,fun j v h => by omega⟩ ?_
  rintro i s' m' hi e6 ⟨hm,hall⟩ hsame hw Q' hn he
  have e0:s'.at 0 = .ptr R 0:=(hsame 0 (by kernel_rfl)).trans (by simp)
  have e1:s'.at 1 = strA s:=(hsame 1 (by kernel_rfl)).trans (by simp)
  have e4:s'.at 4 = .ptr m.next 0:=(hsame 4 (by kernel_rfl)).trans (by simp)
  clear hsame
  rw [hm]
  clear hm m'
  simp [e0,e6,hv,ln]
  refine Aad (fun h' => ?_) fun h' => ?_
  ·have hlt:i < a.names.length:=by simpa using h'
   obtain ⟨x,hx⟩:∃ x,a.names[i]? = some x:=⟨_,List.getElem?_eq_getElem hlt⟩
   obtain ⟨id,w2,rfl,hid,tid,hgid⟩:=h.name_at hx
   have hix:=Aaj (P:=Tryz.prog) (q:=.i64) (ag:=false) (c:=none) (id:=id) (off:=0) (len:=a.names.length) (i:=i) Tryz.underlying85 Ao1 hlt
   have hel:(a.names.map strA)[i]? = some (strA x):=by simp [hx]
   have wi:IntKind.i64.wrap (i:Int) = (i:Int):=IntWalk.i64_in _ (by omega)
   by_cases hxs:x = s
   ·subst hxs
    have hf:=Ats hx hall
    rw [hf] at hQ
    simp [e0,e1,e4,e6,hv,hix,hgid,hx,Ada,wi,b0]
    refine he _ _ _ (by simp) ?_
    simp
    refine hQ _ _ _ ?_
    rw [Aaf]
    simp [aresult,oneOf,e4]
    exact ⟨rfl,Ur.kp hR (k1.set (by omega) _)⟩
   ·simp [e0,e1,e6,hv,hix,hgid,hx,hxs,hw]
    exact hn _ _ hlt (by simp) ⟨rfl,fun j u hj hu => by
     by_cases e:j = i
     ·subst e; rw [hx] at hu; cases hu; exact hxs
     ·exact hall j u (by omega) hu⟩
  have hge:i = a.names.length:=by have:=of_decide_eq_false h'; omega
  have hf:=Att (l:=a.names) (s:=s) fun j x hx => hall j x (by have:=(List.getElem?_eq_some_iff.1 hx).1; omega) hx
  rw [hf] at hQ
  simp
  refine he _ _ _ (by simp) ?_
  clear he hn hw hall h' hge hi
  simp [e0,hv,ln]
  refine Aad (fun hr => ?_) fun hr => ?_
  ·have hr':4096 ≤ a.names.length:=by have:=of_decide_eq_true hr; omega
   dsimp only at hQ
   rw [if_pos hr'] at hQ
   simp [Aan,e4,b0]
   refine hQ _ _ _ ?_
   rw [Aaf]
   simp [aresult,oneOf,e4]
   exact ⟨rfl,Ur.kp hR (k1.set (by omega) _)⟩
  ·have hr':¬ 4096 ≤ a.names.length:=by have:=of_decide_eq_false hr; omega
   dsimp only at hQ
   rw [if_neg hr'] at hQ
   have ownC:∀ j,owns ns j → j < m.next ∧ t j = some 2:=by
    intro j hj
    rcases h0.names with ⟨_,rfl⟩ | ⟨_,C,u,rfl,hc1,hc2,_⟩
    ·exact hj.elim
    ·have e:C = j:=hj
     subst e
     exact ⟨hc1,hc2⟩
   have nownA:¬ owns ns R:=fun hh => by have q:=(ownC R hh).2; rw [h0.tr] at q; cases q
   have hsrc:=Abv (m:=M1.new (strA s).cells false) (id:=M1.next) (c:=some 1) (k:=1) (ag:=false) (x:=strA s) (w:=M1.clock + 1) (f:=false) rfl (by simp) (by simp) (by simp)
   obtain ⟨m3,p1,p2,⟨w3,p3⟩,p4,p5⟩:=Acs (T:=85) ((h.names.acc).kp (.new M1 (strA s).cells false)) (Arz _) el85 (zs:=[strA s]) (zs':=[strA s]) (List.cons_ne_nil _ _) (by simp [Aao,Aba]) (by simp) (.refl _) (by simp; omega)
   have hv3:m3.get R = some (.cells [int a.room,ls,ns] false w):=by
    rw [p4 R (by simp; omega) nownA]
    have:R ≠ M1.next:=by omega
    simp [this]
    exact hv
   simp [e0,e1,hv,abuildSlice,zeros,fillAt]
   simp at hsrc p1
   have wl:IntKind.i64.wrap (a.names.length:Int) = (a.names.length:Int):=IntWalk.i64_in _ (by omega)
   have nA4:m.next ≠ R:=Ne.symm nR
   have hb3:m3.get m.next = some (.cells [int 0,int 0] false (m.clock + 1)):=by
    rw [p4 m.next (by simp; omega) (fun hh => by have:=(ownC _ hh).1; omega)]
    have:m.next ≠ M1.next:=by omega
    simp [this,b0]
   have wl1:IntKind.i64.wrap ((a.names.length:Int) + 1 - 1) = (a.names.length:Int):=by rw [IntWalk.i64_in _ (by omega)]; omega
   simp [Ag1 (T:=85) (P:=Tryz.prog) Tryz.underlying85,Abw Tryz.underlying85,hsrc,p1,hv3,Ada,wl,wl1,hb3,nA4,nR,e4,e0]
   refine hQ _ _ _ ?_
   rw [Aaf]
   simp [aresult,oneOf,wl,e4]
   refine ⟨rfl,?_⟩
   simp at p2 p3
   refine Azn (N:=M1.next + 1) h0 hx0 (⟨by simp; omega,fun j hj hn => ?_,fun j hj hn => ?_⟩:KpC (fun j => j = R ∨ owns ns j) m _) (by omega) (by simp; omega) ⟨w3,?_⟩ ⟨m3.clock + 1,?_⟩ (by omega)
   ·have a1:j ≠ R:=fun e => hn (.inl e)
    have a2:¬ owns ns j:=fun e => hn (.inr e)
    have a3:j ≠ m.next:=by omega
    have:=p4 j (by simp; omega) a2
    simp [show j ≠ M1.next by omega] at this
    simp [a1,a3,this]
    exact k1.get j hj
   ·have b1:=p5 j (by simp; omega)
    have b2:=k1.x j hj
    simp at b1 b2
    simp
    exact ⟨b1.1.trans b2.1,b1.2.trans b2.2⟩
   ·have b1:M1.next + 1 ≠ R:=by omega
    have b2:M1.next + 1 ≠ m.next:=by omega
    simp [b1,b2]
    simpa using p3
   ·simp [nR]
theorem As6 {t:Nat → Option Nat} {n k:Nat} {ag:Bool} {m m':Mem} {x:AV} {ys:List AV} (h:Has t n k ag (.emp 0) m x ys) (kk:Kp m m') (ha:(ag || k == 1) = true) (hr:∀ y ∈ ys,y.cells.length = k ∧ (if ag then AV.agg y.cells = y else y.cells = [y])) (ho:okAll k ys = true):srcOf m' x = some ys:=by
 rcases h with ⟨rfl,rfl⟩ | ⟨h,id,v,rfl,h1,h2,h3⟩
 ·rfl
 ·have e:m'.get id = some (.cells (flat ys) false v):=(kk.get id h1).trans h3
  have:=Adr ha ys hr
  simp only [srcOf,elemsOf,e]
  rw [if_pos ⟨by rw [Aa6 ho]; simp,ha⟩,List.drop_zero,this]
theorem RfT.shows {t:Nat → Option Nat} {R:Nat} {ls ns:AV} {xs:List (AV × AV)} {a:ArM} {m m':Mem} (h:RfT t R ls ns xs a m) (k:Kp m m') {i:Nat} {c:CeM} {x:AV × AV} (hc:a.cells[i]? = some c) (hx:xs[i]? = some x):Shows m' c x :=
 ⟨fun _ k2 => As6 (h.rowA i c x hc hx) (k.trans k2) rfl (Ab0 _) (Aa4 _),fun _ k2 => As6 (h.rowS i c x hc hx) (k.trans k2) rfl (Apw _) (Aie _)⟩
structure GotR (m0 m:Mem) (c:CeM) (x:AV × AV):Prop where
 a:Acc m0 m 2 true (vals c.a) x.1
 s:Acc m0 m 1 false (byts c.s) x.2
 d:∀ j,owns x.1 j → ¬ owns x.2 j
def noC:CeM:=⟨0,0,[],[]⟩
theorem GotR.keep {Y:Nat → Prop} {m0 m1 m m':Mem} {c:CeM} {x:AV × AV} (h:GotR m0 m c x) (k:KpC Y m m') (hY:∀ j,m0.next ≤ j → j < m.next → ¬ Y j) (h0:m1.next ≤ m0.next):GotR m1 m' c x :=
 ⟨Aci (Aa9 h.a k fun j q => hY j (Aa7 h.a j q).1 (Aa7 h.a j q).2) h0,Aci (Aa9 h.s k fun j q => hY j (Aa7 h.s j q).1 (Aa7 h.s j q).2) h0,h.d⟩
theorem Ahs {k:Nat}:∀ (ys:List AV) (p:Nat) (y:AV),okAll k ys = true → y.cells.length = k → p < ys.length → splice (flat ys) (p * k) y.cells = flat (ys.set p y)
 | b :: ys,0,y,ho,hk,_ => by
  rw [Aao] at ho
  simp at ho
  simp [Aa2,splice,hk,← ho.1.2]
 | b :: ys,p + 1,y,ho,hk,hp => by
  rw [Aao] at ho
  simp at ho
  have ih:=Ahs ys p y ho.2 hk (by simpa using hp)
  have e:(p + 1) * k = b.cells.length + p * k:=by rw [Nat.add_mul,ho.1.2]; omega
  rw [List.set_cons_succ,Aa2,Aa2,← ih,e]
  unfold splice
  rw [List.take_length_add_append,Nat.add_assoc,List.drop_length_add_append]
  simp
theorem Aov:∀ (l:List CeM) (xs:List (AV × AV)) (p:Nat) (d:CeM) (y:AV × AV),List.zipWith rowR (l.set p d) (xs.set p y) = (List.zipWith rowR l xs).set p (rowR d y)
 | [],xs,p,d,y => by simp
 | b :: l,[],p,d,y => by simp
 | b :: l,x :: xs,0,d,y => by simp
 | b :: l,x :: xs,p + 1,d,y => by simpa using Aov l xs p d y
theorem A1y {X:Nat → Prop} {R C:Nat} {a:ArM} {m m':Mem} {t:Nat → Option Nat} {ns:AV} {xs:List (AV × AV)} {p:Nat} {d:CeM} {y:AV × AV} {q:Nat} (h:RfT t R (.sl C 0 q 4 true none) ns xs a m) (hx:∀ j,t j ≠ none → X j ∧ j < m.next) (hp:p < a.cells.length)
  (k:KpC (fun j => j = C) m m') (hgC:∃ v,m'.get C = some (.cells (flat ((List.zipWith rowR a.cells xs).set p (rowR d y))) false v)) (hf:GotR m m' d y):Ur X R ⟨a.room,a.cells.set p d,a.names⟩ m m':=by
 classical
 obtain ⟨lt,tr,⟨v,get⟩,cells,names,len,rowA,rowS,sane⟩:=h
 have hC:q = (List.zipWith rowR a.cells xs).length ∧ C < m.next ∧ t C = some 1:=by
  rcases cells with ⟨_,e⟩ | ⟨_,C',w,e,h1,h2,_⟩
  ·cases e
  ·cases e; exact ⟨rfl,h1,h2⟩
 have tc:∀ j n,j < m.next → t j = some n → n ≠ 1 → m'.get j = m.get j:=by
  intro j n hj ht h1
  refine k.get j hj ?_
  rintro rfl
  rw [hC.2.2] at ht; cases ht; exact h1 rfl
 have kn:=k.next
 obtain ⟨t',ht'⟩:∃ t':Nat → Option Nat,t' = fun j => if j < m.next then t j else if owns y.1 j then some (4 + 2 * p) else if owns y.2 j then some (5 + 2 * p) else none:=⟨_,rfl⟩
 have told:∀ j,j < m.next → t' j = t j:=fun j hj => by rw [ht']; exact if_pos hj
 have oA:=fun j (h:owns y.1 j) => Aa7 hf.a j h
 have oS:=fun j (h:owns y.2 j) => Aa7 hf.s j h
 have tA:∀ j,owns y.1 j → t' j = some (4 + 2 * p):=fun j h => by
  have:=oA j h
  rw [ht']
  simp only
  rw [if_neg (by omega),if_pos h]
 have tS:∀ j,owns y.2 j → t' j = some (5 + 2 * p):=fun j h => by
  have:=oS j h
  rw [ht']
  simp only
  rw [if_neg (by omega),if_neg (fun q => hf.d j q h),if_pos h]
 have out:∀ j,t' j ≠ none → (X j ∨ m.next ≤ j) ∧ j < m'.next:=by
  intro j hj
  rw [ht'] at hj
  simp only at hj
  by_cases h1:j < m.next
  ·rw [if_pos h1] at hj
   exact ⟨.inl (hx j hj).1,by omega⟩
  ·rw [if_neg h1] at hj
   by_cases h2:owns y.1 j
   ·exact ⟨.inr (by omega),(oA j h2).2⟩
   ·rw [if_neg h2] at hj
    by_cases h3:owns y.2 j
    ·exact ⟨.inr (by omega),(oS j h3).2⟩
    ·rw [if_neg h3] at hj
     exact absurd rfl hj
 clear ht'
 refine ⟨fun j => X j ∨ m.next ≤ j,⟨t',.sl C 0 q 4 true none,ns,xs.set p y,⟨by omega,(told R lt).trans tr,⟨v,(tc R 0 lt tr (by omega)).trans get⟩,?_,?_,by simpa using len,?_,?_,by simpa using sane⟩,out⟩,?_,fun j hj => hj⟩
 ·obtain ⟨w,hw⟩:=hgC
  show Has t' 1 4 true (.emp 0) m' _ (List.zipWith rowR (a.cells.set p d) (xs.set p y))
  rw [Aov]
  refine .inr ⟨fun e => ?_,C,w,by simp [hC.1],by omega,(told C hC.2.1).trans hC.2.2,hw⟩
  have:=congrArg List.length e
  simp [len] at this
  rw [this] at hp
  simp at hp
 ·exact names.mono kn fun j hj ht => ⟨tc j 2 hj ht (by omega),(told j hj).trans ht⟩
 ·intro i c' x' hc' hx'
  simp only at hc'
  by_cases e:i = p
  ·subst e
   rw [List.getElem?_set_self hp] at hc'
   rw [List.getElem?_set_self (by omega)] at hx'
   cases hc'
   cases hx'
   exact Apm hf.a tA
  ·rw [List.getElem?_set_ne (fun h => e h.symm)] at hc' hx'
   exact (rowA i c' x' hc' hx').mono kn fun j hj ht => ⟨tc j _ hj ht (by omega),(told j hj).trans ht⟩
 ·intro i c' x' hc' hx'
  simp only at hc'
  by_cases e:i = p
  ·subst e
   rw [List.getElem?_set_self hp] at hc'
   rw [List.getElem?_set_self (by omega)] at hx'
   cases hc'
   cases hx'
   exact Apm hf.s tS
  ·rw [List.getElem?_set_ne (fun h => e h.symm)] at hc' hx'
   exact (rowS i c' x' hc' hx').mono kn fun j hj ht => ⟨tc j _ hj ht (by omega),(told j hj).trans ht⟩
 ·refine k.mono fun j hj => ?_
  have hj:j = C:=hj
  subst hj
  exact (hx j (by rw [hC.2.2]; simp)).1
section
variable {X:Nat → Prop} {R:Nat} {a:ArM} {m:Mem}
theorem q151 (hR:Rf X R a m) (hs:Small a) (v:Val):wph Tryz.prog ca (.func 151) [.ptr R 0,valA v] m fun r m' => Kp m m' ∧ ((∃ p c x,ixM a v = some p ∧ a.cells[p]? = some c ∧ r = .tup [rowR c x,int 0] ∧ GotR m m' c x) ∨ (ixM a v = none ∧ r = .tup [rowR noC (.emp 0,.emp 0),int 110])):=by
 refine Aas Tryz.func151 rfl rfl (by simp [Tryz.f151]) (by simp [Tryz.f151]) fun Q hQ => ?_
 simp only [Tryz.f151,show ca.keepRes 151 = true from rfl,show ca.keepArgs 151 = false from rfl] at hQ ⊢
 obtain ⟨M1,hM1⟩:∃ M1,M1 = (m.new [int v.1,int v.2] false).new [int 0,int 0,.emp 0,.emp 0] false:=⟨_,rfl⟩
 have k1:Kp m M1:=by rw [hM1]; simp
 have n1:M1.next = m.next + 2:=by rw [hM1]; simp
 have b0:M1.get m.next = some (.cells [int v.1,int v.2] false (m.clock + 1)):=by rw [hM1]; simp
 have b1:M1.get (m.next + 1) = some (.cells [int 0,int 0,.emp 0,.emp 0] false (m.clock + 2)):=by rw [hM1]; simp
 have q2:=q46 (hR.kp k1) v
 simp
 rw [← hM1]
 clear hM1
 obtain ⟨K,n⟩:=v
 by_cases h7:K = 7
 rotate_left
 ·simp only at b0
  simp [h7,Aoi,undefV,undef,b0,b1]
  refine hQ _ _ _ ?_
  rw [Aaf]
  refine ⟨[rowR noC (.emp 0,.emp 0),int 110],by simp [aresult,aload,partOf,rowR,noC],?_⟩
  simp [oneOf]
  refine ⟨?_,by simp [ixM,h7]⟩
  exact k1
 subst h7
 simp only at b0
 have hag:AV.agg [int 7,int n] = valA (7,n):=rfl
 cases hg:goodM a (7,n) with
 | false =>
  rw [hg] at q2
  simp [b0,hag,q2.go,Aoi,b1]
  refine hQ _ _ _ ?_
  rw [Aaf]
  refine ⟨[rowR noC (.emp 0,.emp 0),int 110],by simp [aresult,aload,partOf,rowR,noC],?_⟩
  simp [oneOf]
  exact ⟨k1,by simp [ixM,hg]⟩
 | true =>
  rw [hg] at q2
  obtain ⟨p,hp⟩:∃ p,ixM a (7,n) = some p:=by simp [ixM,hg]
  obtain ⟨e,c,hc⟩:=Ab6 hp
  cases e
  obtain ⟨t,ls,ns,xs,h,hx⟩:=hR.kp k1
  obtain ⟨C,vc,x,rfl,hC,htC,hgC,hxi,hzi,hrA,hrS⟩:=h.at hc
  obtain ⟨f1,f2⟩:=Abq (Ade a.cells xs) hzi
  obtain ⟨w,hv⟩:=h.get
  have hsm:=hs c (List.mem_of_getElem? hc)
  have hlt:=(List.getElem?_eq_some_iff.1 hc).1
  have hix:=Aaj (P:=Tryz.prog) (q:=.i64) (ag:=true) (c:=none) (id:=C) (off:=0) (len:=a.cells.length) (i:=p) Tryz.underlying74 Ab1 hlt
  simp [b0,hag,q2.go]
  refine Aah (by kernel_rfl) (by kernel_rfl) ?_
  simp [hv,b0,hix,hgC,f1,f2]
  refine Aae (q176 (x0:=x) c (h.shows (.refl _) hc hxi) (by omega) (by omega)) ?_
  rintro _ m2 ⟨k2,x2,rfl,hf,hf2,hd⟩
  have n2:=k2.next
  have g2:m2.get (m.next + 1) = some (.cells [int 0,int 0,.emp 0,.emp 0] false (m.clock + 2)):=by rw [k2.get (m.next + 1) (by omega)]; exact b1
  simp [rowR,g2]
  refine hQ _ _ _ ?_
  rw [Aaf]
  refine ⟨[rowR c x2,int 0],by simp [aresult,aload,partOf,rowR],?_⟩
  simp only [if_true,oneOf]
  refine ⟨(k1.trans k2).set (by omega) _,.inl ⟨p,c,x2,hp,hc,rfl,(⟨hf,hf2,hd⟩:GotR M1 m2 c x2).keep (Aap _ _ _) (fun j h1 h2 e => ?_) (by omega)⟩⟩
  have e:j = m.next + 1:=e
  omega
theorem q93 (hR:Rf X R a m) (hs:Small a) {p:Nat} {c:CeM} (hc:a.cells[p]? = some c) (hk:c.k = 1 ∨ c.k = 2) {i:Nat} (hi:i < c.a.length) {x:Val} (hg:goodM a x = true):wph Tryz.prog ca (.func 93) [.ptr R 0,valA (7,(p:Int)),int i,valA x] m fun v m' => v = int 0 ∧ Ur X R (putA a p c i x) m m':=by
 refine Aas Tryz.func93 rfl rfl (by simp [Tryz.f93]) (by simp [Tryz.f93]) fun Q hQ => ?_
 simp only [Tryz.f93,show ca.keepRes 93 = false from rfl,show ca.keepArgs 93 = false from rfl] at hQ ⊢
 obtain ⟨M1,hM1⟩:∃ M1,M1 = (m.new [int 7,int p] false).new [int x.1,int x.2] false:=⟨_,rfl⟩
 have k1:Kp m M1:=by rw [hM1]; simp
 have n1:M1.next = m.next + 2:=by rw [hM1]; simp
 have b0:M1.get m.next = some (.cells [int 7,int p] false (m.clock + 1)):=by rw [hM1]; simp
 have b1:M1.get (m.next + 1) = some (.cells [int x.1,int x.2] false (m.clock + 2)):=by rw [hM1]; simp
 have hag:AV.agg [int 7,int p] = valA (7,(p:Int)):=rfl
 have hlt:=(List.getElem?_eq_some_iff.1 hc).1
 have hsm:=hs c (List.mem_of_getElem? hc)
 simp
 rw [← hM1]
 clear hM1
 simp [b0,hag]
 refine Aae (q151 (hR.kp k1) hs (7,(p:Int))) ?_
 rintro _ m2 ⟨k2,⟨p',c',y,hp',hc',rfl,hgot⟩ | ⟨hn,_⟩⟩
 rotate_left
 ·rw [Al6 hc] at hn; cases hn
 rw [Al6 hc] at hp'
 cases hp'
 rw [hc] at hc'
 cases hc'
 have n2:=k2.next
 obtain ⟨e,_⟩ | ⟨_,id,w,ey,hid0,hid,hgid⟩:=id hgot.a
 ·have:=congrArg List.length e
  simp at this
  rw [this] at hi
  simp at hi
 have oky:=Ais hgot.s
 have hRlt:=hR.lt
 obtain ⟨M3,hM3⟩:∃ M3,M3 = (m2.new [int 0,int 0,.emp 0,.emp 0] false).set m2.next [int c.k,int c.n,.sl id 0 (vals c.a).length 2 true none,y.2]:=⟨_,rfl⟩
 have k23:Kp m2 M3:=by rw [hM3]; exact (Kp.new _ _ _).set (Nat.le_refl _) _
 have k3:Kp m M3:=(k1.trans k2).trans k23
 have n3:M3.next = m2.next + 1:=by rw [hM3]; simp
 have g9:∃ v,M3.get m2.next = some (.cells [int c.k,int c.n,.sl id 0 (vals c.a).length 2 true none,y.2] false v):=⟨_,by rw [hM3]; simp; rfl⟩
 obtain ⟨v9,g9⟩:=g9
 have gid:M3.get id = some (.cells (flat (vals c.a)) false w):=(k23.get id hid).trans hgid
 have gx:M3.get (m.next + 1) = some (.cells [int x.1,int x.2] false (m.clock + 2)):=(k23.get _ (by omega)).trans ((k2.get _ (by omega)).trans b1)
 have gp:M3.get m.next = some (.cells [int 7,int p] false (m.clock + 1)):=(k23.get _ (by omega)).trans ((k2.get _ (by omega)).trans b0)
 have q2:=q46 (hR.kp k3) x
 rw [hg] at q2
 obtain ⟨t,ls,ns,xs,h,hx'⟩:=_root_.id hR
 obtain ⟨C,vc,xr,rfl,hC,htC,hgC,hxi,hzi,hrA,hrS⟩:=h.at hc
 obtain ⟨wR,hv⟩:=h.get
 have gR:M3.get R = _:=(k3.get R hRlt).trans hv
 have gC:M3.get C = _:=(k3.get C hC).trans hgC
 have ln:∀ (R:TypeId) (m:Mem),abuiltin Tryz.prog .len #[66] R [.sl id 0 (vals c.a).length 2 true none] m = some (int c.a.length,m):=fun R m => by rw [Abw Tryz.underlying66]; simp
 have hix:=Aaj (P:=Tryz.prog) (q:=.i64) (ag:=true) (c:=none) (id:=id) (off:=0) (len:=(vals c.a).length) (i:=i) Tryz.underlying66 Abf (by simpa using hi)
 have hixC:=Aaj (P:=Tryz.prog) (q:=.i64) (ag:=true) (c:=none) (id:=C) (off:=0) (len:=a.cells.length) (i:=p) Tryz.underlying74 Ab1 hlt
 simp only [Aav] at hix ln g9 hM3 ey
 have sp:=Ac0 c.a i x hi
 simp [splice] at sp
 have hlen:i * 2 + 2 ≤ (flat (vals c.a)).length:=by rw [Aa6 (Aa4 c.a)]; simp; omega
 have hli:¬ (c.a.length:Int) ≤ i:=by omega
 have hi0:¬ (i:Int) < 0:=by omega
 simp [rowR,ey,oky]
 rw [← hM3]
 have e1:R ≠ id:=by omega
 have e2:C ≠ id:=by omega
 have e3:m.next ≠ id:=by omega
 have e4:m2.next ≠ id:=by omega
 have lz:p < (List.zipWith rowR a.cells xs).length:=by rw [List.length_zipWith,h.len]; omega
 have hlC:p * 4 + 4 ≤ (flat (List.zipWith rowR a.cells xs)).length:=by rw [Aa6 (Ade _ _)]; omega
 have spC:=Ahs (k:=4) (List.zipWith rowR a.cells xs) p (rowR ⟨c.k,c.n,c.a.set i x,c.s⟩ y) (Ade _ _) (by simp) lz
 simp only [Aji,ey,splice] at spC
 simp at spC
 have fin:∀ (s':Sl),s'.at 8 = int 0 → Q .ret s' ((M3.set id (flat (vals (c.a.set i x)))).set C (flat ((List.zipWith rowR a.cells xs).set p (rowR ⟨c.k,c.n,c.a.set i x,c.s⟩ y)))):=fun s' h8 => hQ _ _ _ (by
  rw [Aaf]
  refine ⟨[int 0],by simp [aresult,h8],?_⟩
  simp [oneOf]
  have kA:KpC (fun j => j = id) M3 (M3.set id (flat (vals (c.a.set i x)))):=Aap _ _ _
  have kA':Kp m (M3.set id (flat (vals (c.a.set i x)))):=k3.set (by omega) _
  have kB:=Aap C (flat ((List.zipWith rowR a.cells xs).set p (rowR ⟨c.k,c.n,c.a.set i x,c.s⟩ y))) (M3.set id (flat (vals (c.a.set i x))))
  have got:GotR m ((M3.set id (flat (vals (c.a.set i x)))).set C (flat ((List.zipWith rowR a.cells xs).set p (rowR ⟨c.k,c.n,c.a.set i x,c.s⟩ y)))) ⟨c.k,c.n,c.a.set i x,c.s⟩ y:=by
   have hs2:=fun j q => Aa7 hgot.s j q
   refine ⟨.inr ⟨fun e => ?_,id,M3.clock + 1,by rw [ey]; simp,by omega,by simp; omega,by simp [Ne.symm e2]⟩,Aci (Aa9 (Aa9 (Aa9 hgot.s (.of (.of k23)) fun _ _ h => h) kA fun j q e => ?_) kB fun j q e => ?_) (by omega),hgot.d⟩
   ·have:=congrArg List.length e
    simp at this
    rw [this] at hi
    simp at hi
   ·have e:j = id:=e
    subst e
    exact hgot.d _ (by rw [ey]; exact rfl) q
   ·have e:j = C:=e
    have:=hs2 j q
    omega
  exact A1y h hx' hlt (((KpC.of (.of kA')).trans (kB.mono fun j h => h)).mono fun j h => h) ⟨_,by simp; rfl⟩ got)
 rcases hk with hk | hk
 ·simp [hk,g9,ln,hli,hi0,gx,Aaa,q2.go,undefV,undef,hix,gid,sp,hlen]
  refine Aah (by kernel_rfl) (by kernel_rfl) ?_
  simp [g9,gR,gC,gp,hixC,e1,e2,e3,e4,spC,hlC,oky]
  exact fin _ (by simp)
 ·simp [hk,g9,ln,hli,hi0,gx,Aaa,q2.go,undefV,undef,hix,gid,sp,hlen]
  refine Aah (by kernel_rfl) (by kernel_rfl) ?_
  simp [g9,gR,gC,gp,hixC,e1,e2,e3,e4,spC,hlC,oky]
  exact fin _ (by simp)
end
theorem q149 (n:Int):Gives Tryz.prog ca 149 [int n] (.tup [int (fitR n).1,int (fitR n).2]):=by
 refine Aag Tryz.func149 rfl rfl rfl rfl (by simp) (by simp [Tryz.f149]) (by simp [Tryz.f149]) fun m => ?_
 simp [Tryz.f149,show ca.keepRes 149 = false from rfl,(q81 n).go]
 unfold fitR
 cases isIn n <;> simp
theorem q150 {n:Int} (h:isIn n = true):Gives Tryz.prog ca 150 [int n] (int n.natAbs):=by
 have h1:=Aa0.1 h
 have hw:IntKind.i64.wrap (-n) = -n:=IntWalk.i64_in _ (by omega)
 refine Aag Tryz.func150 rfl rfl rfl rfl (by simp) (by simp [Tryz.f150]) (by simp [Tryz.f150]) fun m => ?_
 simp [Tryz.f150,show ca.keepRes 150 = false from rfl]
 by_cases h0:n < 0
 ·have e:(n.natAbs:Int) = -n:=by omega
  simp [h0,Ajc,hw,e]
 ·have e:(n.natAbs:Int) = n:=by omega
  simp [h0,e]
theorem q145 (a b:Int):Gives Tryz.prog ca 145 [int a,int b] (.tup [int (addR a b).1,int (addR a b).2]):=by
 refine Aag Tryz.func145 rfl rfl rfl rfl (by simp) (by simp [Tryz.f145]) (by simp [Tryz.f145]) fun m => ?_
 simp [Tryz.f145,show ca.keepRes 145 = false from rfl,(q81 a).go]
 unfold addR
 cases h1:isIn a
 ·simp [undefV,undef]
 ·cases h2:isIn b
  ·simp [(q81 b).go,h2]
  ·have i1:=Aa0.1 h1
   have i2:=Aa0.1 h2
   have hw:IntKind.i64.wrap (a + b) = a + b:=IntWalk.i64_in _ (by omega)
   simp [(q81 b).go,h2,hw,(q149 _).go]
theorem q146 (a b:Int):Gives Tryz.prog ca 146 [int a,int b] (.tup [int (subR a b).1,int (subR a b).2]):=by
 refine Aag Tryz.func146 rfl rfl rfl rfl (by simp) (by simp [Tryz.f146]) (by simp [Tryz.f146]) fun m => ?_
 simp [Tryz.f146,show ca.keepRes 146 = false from rfl,(q81 a).go]
 unfold subR
 cases h1:isIn a
 ·simp [undefV,undef]
 ·cases h2:isIn b
  ·simp [(q81 b).go,h2]
  ·have i1:=Aa0.1 h1
   have i2:=Aa0.1 h2
   have hw:IntKind.i64.wrap (a - b) = a - b:=IntWalk.i64_in _ (by omega)
   simp [(q81 b).go,h2,hw,(q149 _).go]
theorem q85 (a:Int):Gives Tryz.prog ca 85 [int a] (.tup [int (negR a).1,int (negR a).2]):=by
 refine Aag Tryz.func85 rfl rfl rfl rfl (by simp) (by simp [Tryz.f85]) (by simp [Tryz.f85]) fun m => ?_
 simp [Tryz.f85,show ca.keepRes 85 = false from rfl,(q81 a).go]
 unfold negR subR
 have i0:isIn 0 = true:=by decide
 cases h1:isIn a
 ·simp [i0]
 ·have i1:=Aa0.1 h1
  have hw:IntKind.i64.wrap (-a) = -a:=IntWalk.i64_in _ (by omega)
  have e:(0:Int) - a = -a:=by omega
  simp [i0,Ajc,hw,(q149 _).go]
theorem q86 (a b:Int):Gives Tryz.prog ca 86 [int a,int b] (.tup [int (quoR a b).1,int (quoR a b).2]):=by
 refine Aag Tryz.func86 rfl rfl rfl rfl (by simp) (by simp [Tryz.f86]) (by simp [Tryz.f86]) fun m => ?_
 simp [Tryz.f86,show ca.keepRes 86 = false from rfl,(q81 a).go]
 unfold quoR prtR
 cases h1:isIn a
 ·simp [undefV,undef]
 ·cases h2:isIn b
  ·simp [(q81 b).go,h2]
  ·by_cases h3:b = 0
   ·subst h3
    simp [(q81 0).go,h2]
   ·have i1:=Aa0.1 h1
    have h4:=Ao5 a b
    have hw:IntKind.i64.wrap (a.tdiv b) = a.tdiv b:=IntWalk.i64_in _ (by omega)
    simp [(q81 b).go,h2,h3,Aep h3,hw,(q149 _).go]
theorem q87 (a b:Int):Gives Tryz.prog ca 87 [int a,int b] (.tup [int (remR a b).1,int (remR a b).2]):=by
 refine Aag Tryz.func87 rfl rfl rfl rfl (by simp) (by simp [Tryz.f87]) (by simp [Tryz.f87]) fun m => ?_
 simp [Tryz.f87,show ca.keepRes 87 = false from rfl,(q81 a).go]
 unfold remR prtR
 cases h1:isIn a
 ·simp [undefV,undef]
 ·cases h2:isIn b
  ·simp [(q81 b).go,h2]
  ·by_cases h3:b = 0
   ·subst h3
    simp [(q81 0).go,h2]
   ·simp [(q81 b).go,h2,h3,Acu h3]
theorem Asv {r b:Int} (hb:0 < b) (h:r.natAbs < b.natAbs):(r + b).tmod b = if r < 0 then r + b else r:=by
 rw [Int.tmod_eq_emod_of_nonneg (by omega)]
 split
 ·exact Int.emod_eq_of_lt (by omega) (by omega)
 ·rw [Int.add_emod_right]
  exact Int.emod_eq_of_lt (by omega) (by omega)
theorem Azz {r b:Int} (hb:b ≠ 0) (h:r.natAbs < b.natAbs):(r + b).tmod b = if r = 0 then 0 else if (decide (r < 0) != decide (b < 0)) = true then r + b else r:=by
 rcases Int.lt_or_gt_of_ne hb with hn | hp
 ·have e:=Asv (r:=-r) (b:=-b) (by omega) (by omega)
  rw [show -r + -b = -(r + b) by omega,Int.neg_tmod,Int.tmod_neg] at e
  by_cases r0:r = 0
  ·subst r0
   simp at e ⊢
  ·by_cases rn:r < 0
   ·have:¬ -r < 0:=by omega
    simp [this,rn,hn,r0] at e ⊢
    omega
   ·have:-r < 0:=by omega
    simp [this,rn,hn,r0] at e ⊢
    omega
 ·have e:=Asv (r:=r) (b:=b) (by omega) h
  have hb':¬ b < 0:=by omega
  by_cases r0:r = 0
  ·subst r0
   simp at e ⊢
  ·by_cases rn:r < 0 <;> simp [rn,hb',r0] at e ⊢ <;> omega
theorem q88 (a b:Int):Gives Tryz.prog ca 88 [int a,int b] (.tup [int (modR a b).1,int (modR a b).2]):=by
 refine Aag Tryz.func88 rfl rfl rfl rfl (by simp) (by simp [Tryz.f88]) (by simp [Tryz.f88]) fun m => ?_
 simp [Tryz.f88,show ca.keepRes 88 = false from rfl,(q87 a b).go]
 by_cases h:prtR a b = 0
 ·obtain ⟨h1,h2,h3⟩:=Ag8 h
  rw [Aa0] at h1 h2
  have h4:=Arw a b h3
  have hw:IntKind.i64.wrap (a.tmod b + b) = a.tmod b + b:=IntWalk.i64_in _ (by omega)
  have e:=Azz h3 h4
  simp only [modR,remR,if_pos h,e]
  by_cases r0:a.tmod b = 0
  ·simp [r0,undefV,undef]
  ·by_cases s1:a.tmod b < 0
   ·by_cases s2:b < 0
    ·simp [r0,s1,s2,hw,Ads Tryz.underlying4]
    ·simp [r0,s1,s2,hw,Ads Tryz.underlying4]
   ·by_cases s2:b < 0
    ·simp [r0,s1,s2,hw,Ads Tryz.underlying4]
    ·simp [r0,s1,s2,hw,Ads Tryz.underlying4]
 ·simp [modR,remR,h,undefV,undef]
theorem Asu {a b:Int} (hb:b ≠ 0) (L:Nat) (hL:L = if (decide (a < 0) != decide (b < 0)) = true then 1152921504606846976 else 1152921504606846975):fitR (a * b) = (if L / b.natAbs < a.natAbs then (0,10) else (a * b,0)) ∧ (¬ L / b.natAbs < a.natAbs → (a * b).natAbs ≤ 1152921504606846976):=by
 have sg:=Ar5 a b
 have hab:a.natAbs * b.natAbs = (a * b).natAbs:=(Int.natAbs_mul a b).symm
 rw [hab] at sg
 have hd:L / b.natAbs < a.natAbs ↔ L < (a * b).natAbs:=by rw [← hab]; exact Nat.div_lt_iff_lt_mul (by omega)
 simp only [hd]
 revert sg
 generalize a * b = p at *
 intro sg
 unfold fitR isIn
 cases hn:(decide (a < 0) != decide (b < 0)) with
 | true =>
  simp only [hn,if_true] at sg hL
  subst hL
  constructor
  ·by_cases c:1152921504606846976 < p.natAbs
   ·rw [if_pos c,if_neg]; simp; omega
   ·rw [if_neg c,if_pos]; simp; omega
  ·omega
 | false =>
  simp only [hn,Bool.false_eq_true,if_false] at sg hL
  subst hL
  constructor
  ·by_cases c:1152921504606846975 < p.natAbs
   ·rw [if_pos c,if_neg]; simp; omega
   ·rw [if_neg c,if_pos]; simp; omega
  ·omega
theorem At0 {L:Nat} {b:Int} (hL:L ≤ 1152921504606846976):IntKind.i64.wrap ((L:Int).tdiv (b.natAbs:Int)) = ((L / b.natAbs:Nat):Int):=by
 rw [← Int.ofNat_tdiv]
 have:=Nat.div_le_self L b.natAbs
 generalize L / b.natAbs = q at *
 exact IntWalk.i64_in _ (by omega)
set_option maxRecDepth 20000 in
theorem q147 (a b:Int):Gives Tryz.prog ca 147 [int a,int b] (.tup [int (mulR a b).1,int (mulR a b).2]):=by
 refine Aag Tryz.func147 rfl rfl rfl rfl (by simp) (by simp [Tryz.f147]) (by simp [Tryz.f147]) fun m => ?_
 simp [Tryz.f147,show ca.keepRes 147 = false from rfl,(q81 a).go]
 unfold mulR
 cases h1:isIn a
 ·simp [undefV,undef]
 cases h2:isIn b
 ·simp [(q81 b).go,h2]
 have hz:fitR 0 = (0,0):=by decide
 by_cases a0:a = 0
 ·subst a0
  simp [(q81 b).go,h2,undefV,undef,hz]
 by_cases b0:b = 0
 ·subst b0
  simp [(q81 0).go,h2,a0,undefV,undef,hz]
 have bn:¬ (b.natAbs:Int) = 0:=by omega
 cases hn:(decide (a < 0) != decide (b < 0)) with
 | true =>
  obtain ⟨k1,k2⟩:=Asu (a:=a) b0 1152921504606846976 (by rw [hn]; rfl)
  have dv:=At0 (L:=1152921504606846976) (b:=b) (Nat.le_refl _)
  have dv':IntKind.i64.wrap (Int.tdiv 1152921504606846976 (b.natAbs:Int)) = _:=dv
  generalize 1152921504606846976 / b.natAbs = q at dv' k1 k2
  have hq:((q:Int) < (a.natAbs:Int)) = (q < a.natAbs):=by simp
  simp [(q81 b).go,h2,a0,b0,hn,(q150 h1).go,(q150 h2).go,Aep bn,dv']
  by_cases c:q < a.natAbs
  ·have c':(q:Int) < a.natAbs:=by omega
   simp [k1,c]
  ·have hw:IntKind.i64.wrap (a * b) = a * b:=IntWalk.i64_in _ (by have:=k2 c; omega)
   simp [c,Add,hw,(q149 _).go]
 | false =>
  obtain ⟨k1,k2⟩:=Asu (a:=a) b0 1152921504606846975 (by rw [hn]; rfl)
  have dv:=At0 (L:=1152921504606846975) (b:=b) (by decide)
  have dv':IntKind.i64.wrap (Int.tdiv 1152921504606846975 (b.natAbs:Int)) = _:=dv
  generalize 1152921504606846975 / b.natAbs = q at dv' k1 k2
  have hq:((q:Int) < (a.natAbs:Int)) = (q < a.natAbs):=by simp
  simp [(q81 b).go,h2,a0,b0,hn,(q150 h1).go,(q150 h2).go,Aep bn,dv']
  by_cases c:q < a.natAbs
  ·have c':(q:Int) < a.natAbs:=by omega
   simp [k1,c]
  ·have hw:IntKind.i64.wrap (a * b) = a * b:=IntWalk.i64_in _ (by have:=k2 c; omega)
   simp [c,Add,hw,(q149 _).go]
theorem q96 (n:Int):Gives Tryz.prog ca 96 [int n] (valA (1,n)):=by
 refine Aag Tryz.func96 rfl rfl rfl rfl (by simp) (by simp [Tryz.f96]) (by simp [Tryz.f96]) fun m => ?_
 simp [Tryz.f96,show ca.keepRes 96 = false from rfl,abuild,placesOf,fillAt]
 rfl
theorem q49 (b:Bool):Gives Tryz.prog ca 49 [.sc (.bool b)] (valA (truV b)):=by
 refine Aag Tryz.func49 rfl rfl rfl rfl (by simp) (by simp [Tryz.f49]) (by simp [Tryz.f49]) fun m => ?_
 cases b
 ·simp [Tryz.f49,show ca.keepRes 49 = false from rfl,abuild,placesOf,fillAt]
  rfl
 ·simp [Tryz.f49,show ca.keepRes 49 = false from rfl,abuild,placesOf,fillAt]
  rfl
theorem q90 {n:Int} (hn:6 ≤ n ∧ n ≤ 10) (x y:Int):Gives Tryz.prog ca 90 [int n,int x,int y] (.sc (.bool (relM n x y))):=by
 refine Aag Tryz.func90 rfl rfl rfl rfl (by simp) (by simp [Tryz.f90]) (by simp [Tryz.f90]) fun m => ?_
 simp [Tryz.f90,show ca.keepRes 90 = false from rfl]
 unfold relM
 by_cases n6:n = 6
 ·simp [n6]
 by_cases n7:n = 7
 ·simp [n7]
 by_cases n8:n = 8
 ·simp [n8]
 by_cases n9:n = 9
 ·simp [n9]
 have n10:n = 10:=by omega
 simp [n10]
theorem q84 (r e:Int):Gives Tryz.prog ca 84 [int r,int e] (.tup [valA (numV r e),int (kdOf e)]):=by
 refine Aag Tryz.func84 rfl rfl rfl rfl (by simp) (by simp [Tryz.f84]) (by simp [Tryz.f84]) fun m => ?_
 simp [Tryz.f84,show ca.keepRes 84 = false from rfl,(q96 r).go,Aan]
 unfold numV kdOf
 by_cases n0:e = 0
 ·simp [n0,aresult,oneOf,(q96 r).go]
  rfl
 ·by_cases n1:e = 10
  ·simp [n1,Aan]
   rfl
  ·by_cases n2:e = 11
   ·simp [n2,Aan]
    rfl
   ·simp [n0,n1,n2,Aan]
    rfl
theorem A0i {x y:Nat} (hx:x ≤ 1152921504606846976) (hy:y ≤ 1152921504606846976):Nat.gcd x y ≤ 1152921504606846976:=by
 rcases Nat.eq_zero_or_pos x with h | h
 ·subst h; rw [Nat.gcd_zero_left]; exact hy
 ·exact Nat.le_trans (Nat.gcd_le_left y h) hx
theorem Ar9 {P:Program} {t:TypeId} {xo yo:Operand} {x y:Nat} (h:y ≠ 0):abin P .rem t xo yo (int (x:Int)) (int (y:Int)) = some (int ((x % y:Nat):Int)):=by
 rw [Acu (by omega),← Int.ofNat_tmod]
theorem q148 (a b:Int):Gives Tryz.prog ca 148 [int a,int b] (.tup [int (gcdR a b).1,int (gcdR a b).2]):=by
 refine Aag Tryz.func148 rfl rfl rfl rfl (by simp) (by simp [Tryz.f148]) (by simp [Tryz.f148]) fun m => ?_
 simp [Tryz.f148,show ca.keepRes 148 = false from rfl,(q81 a).go]
 unfold gcdR
 cases h1:isIn a
 ·simp [undefV,undef]
 cases h2:isIn b
 ·simp [(q81 b).go,h2]
 have i1:=Aa0.1 h1
 have i2:=Aa0.1 h2
 have lim:=A0i (x:=a.natAbs) (y:=b.natAbs) (by omega) (by omega)
 have e:sgnR 0 (a.natAbs.gcd b.natAbs) false = fitR ((a.natAbs.gcd b.natAbs:Nat):Int):=by
  unfold sgnR
  rw [if_neg (by simp),if_neg (by omega)]
  simp
 have c69:Gives Tryz.prog ca 149 [.sc (.int .i64 ((a.natAbs.gcd b.natAbs:Nat):Int))] _:=q149 _
 rw [← e] at c69
 simp [(q81 b).go,h2,(q150 h1).go,(q150 h2).go]
 refine Ab7 (fun n s' m' => ∃ x y:Nat,n = y ∧ Nat.gcd x y = Nat.gcd a.natAbs b.natAbs ∧ s'.at 6 = .sc (.int .i64 x) ∧ s'.at 7 = .sc (.int .i64 y) ∧ Kp m m') b.natAbs ⟨a.natAbs,b.natAbs,rfl,rfl,by simp,by simp,by simp⟩ ?_
 rintro n s' m' ⟨x,y,rfl,hg,e7,e8,hkp⟩ hsame Q' hn he
 simp [e8]
 refine Aad (fun h => ?_) fun h => ?_
 ·have hy:n ≠ 0:=by simpa using h
  simp [e7,e8,Ar9 hy]
  refine hn (x % n) _ _ (Nat.mod_lt _ (by omega)) ⟨n,x % n,rfl,?_,by simp,by simp,by simpa using hkp⟩
  rw [← hg,Nat.gcd_comm x n,Nat.gcd_rec n x,Nat.gcd_comm]
 ·have hy:n = 0:=by simpa using h
  subst hy
  rw [Nat.gcd_zero_right] at hg
  rw [hg] at e7
  simp
  refine he _ _ _ (by simp) ?_
  simp [e7,c69.go]
  exact hkp
theorem Apd {a:Int} (ha:1 < a.natAbs):∀ (k:Nat) (x:Int),isIn a = true → isIn x = true → x.natAbs * 2 ^ k > 1152921504606846976 → powL a k x = (0,10)
 | 0,x,_,h1,h => by
  have:=Aa0.1 h1
  omega
 | k + 1,x,h0,h1,h => by
  rw [powL]
  by_cases hm:(mulR x a).2 = 0
  ·rw [if_neg (by simpa using hm)]
   have hmm:=hm
   unfold mulR at hm
   rw [h0,h1] at hm
   simp only [Bool.and_self,if_true] at hm
   unfold fitR at hm
   by_cases hi:isIn (x * a) = true
   ·have e:mulR x a = (x * a,0):=by unfold mulR fitR; simp [h0,h1,hi]
    rw [e]
    refine Apd ha k (x * a) h0 hi ?_
    rw [Int.natAbs_mul]
    have:x.natAbs * 2 ^ (k + 1) ≤ x.natAbs * a.natAbs * 2 ^ k:=by
     rw [Nat.pow_succ,Nat.mul_comm (2 ^ k) 2,← Nat.mul_assoc]
     exact Nat.mul_le_mul_right _ (Nat.mul_le_mul_left _ ha)
    omega
   ·rw [if_neg hi] at hm
    cases hm
  ·rw [if_pos hm]
   have:(mulR x a).2 = 10:=by
    unfold mulR fitR at hm ⊢
    rw [h0,h1] at hm ⊢
    simp only [Bool.and_self,if_true] at hm ⊢
    by_cases hi:isIn (x * a) = true
    ·rw [if_pos hi] at hm; exact absurd rfl hm
    ·rw [if_neg hi]
   rw [this]
theorem Av2 {a:Int} (h:isIn a = true):mulR 1 a = (a,0):=by
 unfold mulR fitR
 simp [h,show isIn 1 = true from by decide]
def powK (a:Int) (n:Nat):Nat:=if a.natAbs ≤ 1 then n % 2 else n
theorem pow_K {a:Int} {n:Nat} (h1:isIn a = true) (h2:isIn (n:Int) = true) (h0:¬ (a = 0 ∧ 0 < n)):powR a n = powL a (powK a n) 1:=by
 have ht:(n:Int).tmod 2 = ((n % 2:Nat):Int):=rfl
 by_cases cA:a.natAbs ≤ 1
 ·rw [show powK a n = n % 2 from if_pos cA]
  unfold powR
  rw [if_neg (by simp [h1,h2]),if_neg (by omega),if_neg (by omega),ht]
  by_cases n0:n = 0
  ·subst n0; rfl
  ·rw [if_neg (by omega)]
   rcases Nat.mod_two_eq_zero_or_one n with e | e
   ·rw [e,if_pos ⟨cA,rfl⟩]
    have:a = 1 ∨ a = -1:=by omega
    rcases this with rfl | rfl <;> rfl
   ·rw [e,if_neg (by simp),if_pos cA,powL,Av2 h1]
    rfl
 ·rw [show powK a n = n from if_neg cA]
  unfold powR
  rw [if_neg (by simp [h1,h2]),if_neg (by omega)]
  by_cases n0:n = 0
  ·subst n0
   rw [if_neg (by omega)]; rfl
  ·by_cases c:60 < n
   ·rw [if_pos ⟨by omega,by omega⟩]
    refine (Apd (by omega) n 1 h1 (by decide) ?_).symm
    have:2 ^ 61 ≤ 2 ^ n:=Nat.pow_le_pow_right (by omega) c
    simp
    omega
   ·rw [if_neg (by omega),if_neg (by omega),if_neg (by omega),if_neg cA]
    simp
theorem q89 (a n:Int):Gives Tryz.prog ca 89 [int a,int n] (.tup [int (powR a n).1,int (powR a n).2]):=by
 refine Aag Tryz.func89 rfl rfl rfl rfl (by simp) (by simp [Tryz.f89]) (by simp [Tryz.f89]) fun m => ?_
 simp [Tryz.f89,show ca.keepRes 89 = false from rfl,(q81 a).go]
 cases h1:isIn a
 ·simp [powR,h1,undefV,undef]
 cases h2:isIn n
 ·simp [powR,(q81 n).go,h2,undefV,undef]
 by_cases n0:n < 0
 ·simp [powR,(q81 n).go,h1,h2,n0]
 by_cases z:a = 0 ∧ 0 < n
 ·obtain ⟨rfl,hn⟩:=z
  have e:powR 0 n = (0,0):=by
   unfold powR
   rw [if_neg (by simp [h2]; decide),if_neg n0,if_neg (by simp),if_neg (by omega)]
   by_cases e:n.tmod 2 = 0 <;> simp [e]
  simp [(q81 n).go,h2,n0,hn,e]
 obtain ⟨k,rfl⟩:∃ k:Nat,n = k:=⟨n.toNat,by omega⟩
 have i2:=Aa0.1 h2
 have e:=pow_K h1 h2 (by omega)
 obtain ⟨res,hres⟩:∃ res,res = powR a k:=⟨_,rfl⟩
 rw [← hres] at e ⊢
 by_cases cA:a.natAbs ≤ 1
 ·have cA':(a.natAbs:Int) ≤ 1:=by omega
  have hr:(k:Int).tmod 2 = ((k % 2:Nat):Int):=rfl
  rw [show powK a k = k % 2 from if_pos cA] at e
  by_cases a0:a = 0
  ·have k0:k = 0:=by omega
   subst k0
   subst a0
   simp [(q81 0).go,show isIn 0 = true from by decide,(q150 h1).go,Acu (b:=2) (by decide),undefV,undef]
   refine Aar 7 (0) (fun i s' m' => Kp m m' ∧ ∃ x,s'.at 6 = int x ∧ res = powL 0 ((0) - i) x) (by simp) (by omega) ⟨by simp,1,by simp,e⟩ ?_
   rintro i s' m' hi e47 ⟨hkp,x,e7,ex⟩ hsame hw Q' hn he
   have e0:s'.at 0 = int 0:=(hsame 0 (by kernel_rfl)).trans (by simp)
   have e46:s'.at 1 = int ((0:Nat):Int):=(hsame 1 (by kernel_rfl)).trans (by simp)
   clear hsame
   obtain ⟨K,hK⟩:∃ K,K = 0:=⟨_,rfl⟩
   rw [← hK] at ex e46 hn hi
   simp [e46,e47]
   refine Aad (fun h => ?_) fun h => ?_
   ·have hlt:i < K:=by simpa using h
    rw [show K - i = (K - (i + 1)) + 1 by omega,powL] at ex
    simp [e7,e0,(q147 x 0).go]
    by_cases hz:(mulR x 0).2 = 0
    ·rw [if_neg (by simp [hz])] at ex
     simp [hz,e47,hw]
     exact hn _ _ hlt (by simp) ⟨hkp,(mulR x 0).1,by simp,ex⟩
    ·rw [if_pos hz] at ex
     simp [hz]
     refine he _ _ _ (by simp) ?_
     simp [ex]
     exact hkp
   ·have hge:i = K:=by have:=of_decide_eq_false h; omega
    rw [hge,Nat.sub_self,powL] at ex
    simp
    refine he _ _ _ (by simp) ?_
    simp [e7,ex]
    exact hkp
  simp [(q81 k).go,h2,n0,a0,(q150 h1).go,cA',Acu (b:=2) (by decide),undefV,undef]
  refine Aar 7 (k % 2) (fun i s' m' => Kp m m' ∧ ∃ x,s'.at 6 = int x ∧ res = powL a ((k % 2) - i) x) (by simp) (by omega) ⟨by simp,1,by simp,e⟩ ?_
  rintro i s' m' hi e47 ⟨hkp,x,e7,ex⟩ hsame hw Q' hn he
  have e0:s'.at 0 = int a:=(hsame 0 (by kernel_rfl)).trans (by simp)
  have e46:s'.at 1 = int ((k % 2:Nat):Int):=(hsame 1 (by kernel_rfl)).trans (by simp [hr])
  clear hsame
  obtain ⟨K,hK⟩:∃ K,K = k % 2:=⟨_,rfl⟩
  rw [← hK] at ex e46 hn hi
  simp [e46,e47]
  refine Aad (fun h => ?_) fun h => ?_
  ·have hlt:i < K:=by simpa using h
   rw [show K - i = (K - (i + 1)) + 1 by omega,powL] at ex
   simp [e7,e0,(q147 x a).go]
   by_cases hz:(mulR x a).2 = 0
   ·rw [if_neg (by simp [hz])] at ex
    simp [hz,e47,hw]
    exact hn _ _ hlt (by simp) ⟨hkp,(mulR x a).1,by simp,ex⟩
   ·rw [if_pos hz] at ex
    simp [hz]
    refine he _ _ _ (by simp) ?_
    simp [ex]
    exact hkp
  ·have hge:i = K:=by have:=of_decide_eq_false h; omega
   rw [hge,Nat.sub_self,powL] at ex
   simp
   refine he _ _ _ (by simp) ?_
   simp [e7,ex]
   exact hkp
 ·have cA':¬ (a.natAbs:Int) ≤ 1:=by omega
  rw [show powK a k = k from if_neg cA] at e
  have a0:¬ a = 0:=by omega
  simp [(q81 k).go,h2,n0,a0,(q150 h1).go,cA',undefV,undef]
  refine Aar 7 (k) (fun i s' m' => Kp m m' ∧ ∃ x,s'.at 6 = int x ∧ res = powL a ((k) - i) x) (by simp) (by omega) ⟨by simp,1,by simp,e⟩ ?_
  rintro i s' m' hi e47 ⟨hkp,x,e7,ex⟩ hsame hw Q' hn he
  have e0:s'.at 0 = int a:=(hsame 0 (by kernel_rfl)).trans (by simp)
  have e46:s'.at 1 = int ((k:Nat):Int):=(hsame 1 (by kernel_rfl)).trans (by simp)
  clear hsame
  obtain ⟨K,hK⟩:∃ K,K = k:=⟨_,rfl⟩
  rw [← hK] at ex e46 hn hi
  simp [e46,e47]
  refine Aad (fun h => ?_) fun h => ?_
  ·have hlt:i < K:=by simpa using h
   rw [show K - i = (K - (i + 1)) + 1 by omega,powL] at ex
   simp [e7,e0,(q147 x a).go]
   by_cases hz:(mulR x a).2 = 0
   ·rw [if_neg (by simp [hz])] at ex
    simp [hz,e47,hw]
    exact hn _ _ hlt (by simp) ⟨hkp,(mulR x a).1,by simp,ex⟩
   ·rw [if_pos hz] at ex
    simp [hz]
    refine he _ _ _ (by simp) ?_
    simp [ex]
    exact hkp
  ·have hge:i = K:=by have:=of_decide_eq_false h; omega
   rw [hge,Nat.sub_self,powL] at ex
   simp
   refine he _ _ _ (by simp) ?_
   simp [e7,ex]
   exact hkp
def opF (n:Int):Int → Int → Int × Int:=if n = 0 then addR else if n = 1 then subR else if n = 2 then mulR else if n = 51 then (fun a b => (min a b,0)) else if n = 52 then (fun a b => (max a b,0)) else gcdR
theorem q83 (n first:Int) (l:List Val) (hl:l.length ≤ 4096):Gives Tryz.prog ca 83 [int n,int first,.lst (vals l)] (.tup [valA (numV (foldR (opF n) first l).1 (foldR (opF n) first l).2),int (kdOf (foldR (opF n) first l).2)]):=by
 refine Aag Tryz.func83 rfl rfl rfl rfl (by simp) (by simp [Tryz.f83]) (by simp [Tryz.f83]) fun m => ?_
 simp only [Tryz.f83,show ca.keepRes 83 = false from rfl]
 have ln:∀ (R:TypeId) (m:Mem),abuiltin Tryz.prog .len #[66] R [.lst (vals l)] m = some (int l.length,m):=fun R m => by rw [Aat Tryz.underlying66]; simp
 obtain ⟨M1,hM1⟩:∃ M1,M1 = m.new [int 0,int 0] false:=⟨_,rfl⟩
 have k1:Kp m M1:=by rw [hM1]; simp
 have n1:M1.next = m.next + 1:=by rw [hM1]; simp
 have b0:M1.get m.next = some (.cells [int 0,int 0] false (m.clock + 1)):=by rw [hM1]; simp
 obtain ⟨res,hres⟩:∃ res,res = foldR (opF n) first l:=⟨_,rfl⟩
 rw [← hres]
 simp
 rw [← hM1]
 clear hM1
 refine Aar 8 l.length (fun i s' m' => Kp M1 m' ∧ ∃ x,s'.at 1 = int x ∧ res = foldR (opF n) x (l.drop i)) (by simp) (by omega) ⟨.refl _,first,by simp,hres⟩ ?_
 rintro i s' m' hi e8 ⟨hkp,x,e1,ex⟩ hsame hw Q' hn he
 have e0:s'.at 0 = int n:=(hsame 0 (by kernel_rfl)).trans (by simp)
 have e2:s'.at 2 = .lst (vals l):=(hsame 2 (by kernel_rfl)).trans (by simp)
 have e6:s'.at 6 = .ptr m.next 0:=(hsame 6 (by kernel_rfl)).trans (by simp)
 clear hsame
 have g:=(hkp.get m.next (by omega)).trans b0
 have k2:=k1.trans hkp
 simp [e8,e2,ln]
 refine Aad (fun h => ?_) fun h => ?_
 ·have hlt:i < l.length:=by simpa using h
  obtain ⟨v,hv⟩:∃ v,l[i]? = some v:=⟨_,List.getElem?_eq_getElem hlt⟩
  have hix:=Aak hv
  rw [Adg hv,foldR] at ex
  have fin:∀ (F:Int × Int),(opF n) x v.2 = F → (if F.2 ≠ 0 then res = (0,F.2) else res = foldR (opF n) F.1 (l.drop (i + 1))):=fun F hF => by
   rw [hF] at ex
   split <;> rename_i hz
   ·rw [if_pos hz] at ex; exact ex
   ·rw [if_neg hz] at ex; exact ex
  clear ex
  by_cases n0:n = 0
  ·have e:=fin (addR x v.2) (by simp [opF,n0])
   simp [e0,e1,e2,e8,hix,n0,(q145 x v.2).go]
   by_cases hz:(addR x v.2).2 = 0
   ·rw [if_neg (by simp [hz])] at e
    simp [hz,e8,hw]
    exact hn _ _ hlt (by simp) ⟨hkp,(addR x v.2).1,by simp,e⟩
   ·rw [if_pos hz] at e
    simp [hz,(q84 0 (addR x v.2).2).go,e6,g]
    refine he _ _ _ (by simp) ?_
    simp [e6]
    rw [e]
    simp [numV,hz]
    exact ⟨rfl,k2⟩
  by_cases n1:n = 1
  ·have e:=fin (subR x v.2) (by simp [opF,n1])
   simp [e0,e1,e2,e8,hix,n1,(q146 x v.2).go]
   by_cases hz:(subR x v.2).2 = 0
   ·rw [if_neg (by simp [hz])] at e
    simp [hz,e8,hw]
    exact hn _ _ hlt (by simp) ⟨hkp,(subR x v.2).1,by simp,e⟩
   ·rw [if_pos hz] at e
    simp [hz,(q84 0 (subR x v.2).2).go,e6,g]
    refine he _ _ _ (by simp) ?_
    simp [e6]
    rw [e]
    simp [numV,hz]
    exact ⟨rfl,k2⟩
  by_cases n2:n = 2
  ·have e:=fin (mulR x v.2) (by simp [opF,n2])
   simp [e0,e1,e2,e8,hix,n2,(q147 x v.2).go]
   by_cases hz:(mulR x v.2).2 = 0
   ·rw [if_neg (by simp [hz])] at e
    simp [hz,e8,hw]
    exact hn _ _ hlt (by simp) ⟨hkp,(mulR x v.2).1,by simp,e⟩
   ·rw [if_pos hz] at e
    simp [hz,(q84 0 (mulR x v.2).2).go,e6,g]
    refine he _ _ _ (by simp) ?_
    simp [e6]
    rw [e]
    simp [numV,hz]
    exact ⟨rfl,k2⟩
  by_cases n51:n = 51
  ·have e:=fin (min x v.2,0) (by simp [opF,n51])
   simp [e0,e1,e2,e8,hix,n51,amin2,hw]
   exact hn _ _ hlt (by simp) ⟨hkp,min x v.2,by simp,by simpa using e⟩
  by_cases n52:n = 52
  ·have e:=fin (max x v.2,0) (by simp [opF,n52])
   simp [e0,e1,e2,e8,hix,n52,amax2,hw]
   exact hn _ _ hlt (by simp) ⟨hkp,max x v.2,by simp,by simpa using e⟩
  have e:=fin (gcdR x v.2) (by simp [opF,n0,n1,n2,n51,n52])
  simp [e0,e1,e2,e8,hix,n0,n1,n2,n51,n52,(q148 x v.2).go]
  by_cases hz:(gcdR x v.2).2 = 0
  ·rw [if_neg (by simp [hz])] at e
   simp [hz,e8,hw]
   exact hn _ _ hlt (by simp) ⟨hkp,(gcdR x v.2).1,by simp,e⟩
  ·rw [if_pos hz] at e
   simp [hz,(q84 0 (gcdR x v.2).2).go,e6,g]
   refine he _ _ _ (by simp) ?_
   simp [e6]
   rw [e]
   simp [numV,hz]
   exact ⟨rfl,k2⟩
 ·have hge:i = l.length:=by have:=of_decide_eq_false h; omega
  subst hge
  rw [List.drop_length,foldR] at ex
  simp
  refine he _ _ _ (by simp) ?_
  simp [e1,e6,g,(q96 x).go,ex,numV,kdOf]
  exact ⟨rfl,k2⟩
def numsR (n:Int) (l:List Val):Val × Int :=
 if 50 ≤ n ∨ n ≤ 5 then (numV (reckR n l).1 (reckR n l).2,kdOf (reckR n l).2) else if n = 11 then (truV (decide (argN l 0 = 0)),0) else (truV (holdsM n l),0)
theorem A1f {l:List Val} {i:Nat} {v:Val} (h:l[i]? = some v):argN l i = v.2:=by simp [argN,h]
set_option maxRecDepth 20000 in
theorem q50 {n:Int} {l:List Val} (hl:l.length ≤ 4096) (hn:0 ≤ n ∧ n ≤ 11 ∨ 50 ≤ n ∧ n ≤ 54) (hk:∀ v ∈ l,v.1 = 1) (h1:n = 1 ∨ n = 51 ∨ n = 52 ∨ n = 50 ∨ n = 11 → l ≠ []) (h2:n = 3 ∨ n = 4 ∨ n = 5 ∨ n = 53 → 2 ≤ l.length):Gives Tryz.prog ca 50 [int n,.lst (vals l)] (.tup [valA (numsR n l).1,int (numsR n l).2]):=by
 refine Aag Tryz.func50 rfl rfl rfl rfl (by simp) (by simp [Tryz.f50]) (by simp [Tryz.f50]) fun m => ?_
 simp only [Tryz.f50,show ca.keepRes 50 = false from rfl]
 have ln:∀ (R:TypeId) (m:Mem),abuiltin Tryz.prog .len #[66] R [.lst (vals l)] m = some (int l.length,m):=fun R m => by rw [Aat Tryz.underlying66]; simp
 obtain ⟨M1,hM1⟩:∃ M1,M1 = m.new [int 0,int 0] false:=⟨_,rfl⟩
 have k1:Kp m M1:=by rw [hM1]; simp
 have n1:M1.next = m.next + 1:=by rw [hM1]; simp
 have b0:M1.get m.next = some (.cells [int 0,int 0] false (m.clock + 1)):=by rw [hM1]; simp
 obtain ⟨res,hres⟩:∃ res,res = numsR n l:=⟨_,rfl⟩
 rw [← hres]
 unfold numsR at hres
 have first:l ≠ [] → ∃ v l',l = v :: l' ∧ v.1 = 1 ∧ argN l 0 = v.2 ∧ l.tail = l' ∧ aindexAddr Tryz.prog 66 (.lst (vals l)) (int 0) = some ((valA v).cptr 0):=by
  intro h
  cases l with
  | nil => exact absurd rfl h
  | cons v l => exact ⟨v,l,rfl,hk v (by simp),rfl,rfl,Aak (i:=0) (l:=v :: l) rfl⟩
 have second:2 ≤ l.length → ∃ v w,argN l 0 = v.2 ∧ argN l 1 = w.2 ∧ aindexAddr Tryz.prog 66 (.lst (vals l)) (int 0) = some ((valA v).cptr 0) ∧ aindexAddr Tryz.prog 66 (.lst (vals l)) (int 1) = some ((valA w).cptr 0):=by
  intro h
  match l,h with
  | v :: w :: l,_ => exact ⟨v,w,rfl,rfl,Aak (i:=0) (l:=v :: w :: l) rfl,Aak (i:=1) (l:=v :: w :: l) rfl⟩
 simp
 rw [← hM1]
 clear hM1
 by_cases n0:n = 0
 ·rw [if_pos (by omega)] at hres
  have hF:reckR n l = foldR (opF n) 0 l:=by simp [reckR,opF,n0]
  have q:=q83 n 0 l hl
  rw [← hF] at q
  subst n0
  simp [q.go,b0,hres]
  exact ⟨rfl,k1⟩
 by_cases n54:n = 54
 ·rw [if_pos (by omega)] at hres
  have hF:reckR n l = foldR (opF n) 0 l:=by simp [reckR,opF,n54]
  have q:=q83 n 0 l hl
  rw [← hF] at q
  subst n54
  simp [q.go,b0,hres]
  exact ⟨rfl,k1⟩
 by_cases n2:n = 2
 ·rw [if_pos (by omega)] at hres
  have hF:reckR n l = foldR (opF n) 1 l:=by simp [reckR,opF,n2]
  have q:=q83 n 1 l hl
  rw [← hF] at q
  subst n2
  simp [q.go,b0,hres]
  exact ⟨rfl,k1⟩
 by_cases n1':n = 1
 ·rw [if_pos (by omega)] at hres
  obtain ⟨v,l',el,hv1,ea,et,hix⟩:=first (h1 (by simp [n1']))
  by_cases hlen:l.length = 1
  ·have hF:reckR n l = negR v.2:=by simp [reckR,n1',hlen,ea]
   simp [n1',ln,hlen,hix,(q85 v.2).go,(q84 (negR v.2).1 (negR v.2).2).go,b0,hres,hF]
   rw [← n1',hF]
   exact ⟨⟨rfl,rfl⟩,k1⟩
  ·have hF:reckR n l = foldR (opF n) v.2 l':=by simp [reckR,opF,n1',ea,et,show 1 < l.length by rw [el] at hlen ⊢; simp at hlen ⊢; cases l' with | nil => simp at hlen | cons a b => simp]
   have q:=q83 n v.2 l' (by rw [el] at hl; simp at hl; omega)
   rw [← hF] at q
   have hs:=Adj (h1 (by simp [n1']))
   rw [et] at hs
   have hlen':¬ (l.length:Int) = 1:=by omega
   subst n1'
   simp [ln,hlen,hlen']
   refine Aah (by kernel_rfl) (by kernel_rfl) ?_
   simp [hix,hs,q.go,b0,hres]
   exact ⟨rfl,k1⟩
 by_cases n51:n = 51
 ·rw [if_pos (by omega)] at hres
  obtain ⟨v,l',el,hv1,ea,et,hix⟩:=first (h1 (by simp [n51]))
  have hF:reckR n l = foldR (opF n) v.2 l':=by simp [reckR,opF,n51,ea,et]
  have q:=q83 n v.2 l' (by rw [el] at hl; simp at hl; omega)
  rw [← hF] at q
  have hs:=Adj (h1 (by simp [n51]))
  rw [et] at hs
  subst n51
  simp [n0]
  refine Aah (by kernel_rfl) (by kernel_rfl) ?_
  simp [hix,hs,q.go,b0,hres]
  exact ⟨rfl,k1⟩
 by_cases n52:n = 52
 ·rw [if_pos (by omega)] at hres
  obtain ⟨v,l',el,hv1,ea,et,hix⟩:=first (h1 (by simp [n52]))
  have hF:reckR n l = foldR (opF n) v.2 l':=by simp [reckR,opF,n52,ea,et]
  have q:=q83 n v.2 l' (by rw [el] at hl; simp at hl; omega)
  rw [← hF] at q
  have hs:=Adj (h1 (by simp [n52]))
  rw [et] at hs
  subst n52
  simp [n0]
  refine Aah (by kernel_rfl) (by kernel_rfl) ?_
  simp [hix,hs,q.go,b0,hres]
  exact ⟨rfl,k1⟩
 by_cases n3:n = 3
 ·rw [if_pos (by omega)] at hres
  obtain ⟨v,w,ea,eb,hix,hix2⟩:=second (h2 (by simp [n3]))
  have hF:reckR n l = quoR v.2 w.2:=by simp [reckR,n3,ea,eb]
  rw [hF] at hres
  have q:=q84 (quoR v.2 w.2).1 (quoR v.2 w.2).2
  subst n3
  simp [n0]
  refine Aah (by kernel_rfl) (by kernel_rfl) ?_
  simp [hix,hix2,(q86 v.2 w.2).go,q.go,b0,hres]
  exact ⟨rfl,k1⟩
 by_cases n4:n = 4
 ·rw [if_pos (by omega)] at hres
  obtain ⟨v,w,ea,eb,hix,hix2⟩:=second (h2 (by simp [n4]))
  have hF:reckR n l = remR v.2 w.2:=by simp [reckR,n4,ea,eb]
  rw [hF] at hres
  have q:=q84 (remR v.2 w.2).1 (remR v.2 w.2).2
  subst n4
  simp [n0]
  refine Aah (by kernel_rfl) (by kernel_rfl) ?_
  simp [hix,hix2,(q87 v.2 w.2).go,q.go,b0,hres]
  exact ⟨rfl,k1⟩
 by_cases n5:n = 5
 ·rw [if_pos (by omega)] at hres
  obtain ⟨v,w,ea,eb,hix,hix2⟩:=second (h2 (by simp [n5]))
  have hF:reckR n l = modR v.2 w.2:=by simp [reckR,n5,ea,eb]
  rw [hF] at hres
  have q:=q84 (modR v.2 w.2).1 (modR v.2 w.2).2
  subst n5
  simp [n0]
  refine Aah (by kernel_rfl) (by kernel_rfl) ?_
  simp [hix,hix2,(q88 v.2 w.2).go,q.go,b0,hres]
  exact ⟨rfl,k1⟩
 by_cases n53:n = 53
 ·rw [if_pos (by omega)] at hres
  obtain ⟨v,w,ea,eb,hix,hix2⟩:=second (h2 (by simp [n53]))
  have hF:reckR n l = powR v.2 w.2:=by simp [reckR,n53,ea,eb]
  rw [hF] at hres
  have q:=q84 (powR v.2 w.2).1 (powR v.2 w.2).2
  subst n53
  simp [n0]
  refine Aah (by kernel_rfl) (by kernel_rfl) ?_
  simp [hix,hix2,(q89 v.2 w.2).go,q.go,b0,hres]
  exact ⟨rfl,k1⟩
 by_cases n50:n = 50
 ·rw [if_pos (by omega)] at hres
  obtain ⟨v,l',el,hv1,ea,et,hix⟩:=first (h1 (by simp [n50]))
  by_cases hp:0 ≤ v.2
  ·have hF:reckR n l = (v.2,0):=by simp [reckR,n50,ea]; omega
   rw [hF] at hres
   subst n50
   simp [hix,hp,b0,hres,numV,kdOf,hv1]
   exact ⟨rfl,k1⟩
  ·have hF:reckR n l = negR v.2:=by simp [reckR,n50,ea]; omega
   rw [hF] at hres
   have q:=q84 (negR v.2).1 (negR v.2).2
   subst n50
   simp [hix,hp,(q85 v.2).go,q.go,b0,hres]
   exact ⟨rfl,k1⟩
 by_cases n11:n = 11
 ·rw [if_neg (by omega),if_pos n11] at hres
  obtain ⟨v,l',el,hv1,ea,et,hix⟩:=first (h1 (by simp [n11]))
  rw [ea] at hres
  subst n11
  simp [hix,(q49 _).go,b0,hres]
  exact ⟨rfl,k1⟩
 clear first second
 rw [if_neg (by omega),if_neg n11] at hres
 have hn6:6 ≤ n ∧ n ≤ 10:=by omega
 simp [n0,n54,n2,n1',n51,n52,n3,n4,n5,n53,n50,n11]
 refine Ab7 (fun j s' m' => ∃ i:Nat,1 ≤ i ∧ j = l.length - i ∧ s'.at 7 = int i ∧ i ≤ l.length + 1 ∧ m' = M1 ∧ ∃ b,s'.at 6 = .sc (.bool b) ∧ (b && holdsM n (l.drop (i - 1))) = holdsM n l) (l.length - 1) ⟨1,by omega,rfl,by simp,by omega,rfl,true,by simp,by simp⟩ ?_
 rintro j s' m' ⟨i,hi1,ej,e7,hi,hm,b,e6,hb⟩ hsame Q' hq he
 have e0:s'.at 0 = int n:=(hsame 0 (by kernel_rfl)).trans (by simp)
 have e1:s'.at 1 = .lst (vals l):=(hsame 1 (by kernel_rfl)).trans (by simp)
 have e4:s'.at 4 = .ptr m.next 0:=(hsame 4 (by kernel_rfl)).trans (by simp)
 clear hsame
 rw [hm]
 clear hm m'
 simp [e7,e1,ln]
 refine Aad (fun h => ?_) fun h => ?_
 ·have hlt:i < l.length:=by simpa using h
  obtain ⟨v,hv⟩:∃ v,l[i - 1]? = some v:=⟨_,List.getElem?_eq_getElem (by omega)⟩
  obtain ⟨w,hw⟩:∃ w,l[i - 1 + 1]? = some w:=⟨_,List.getElem?_eq_getElem (by omega)⟩
  have hh:=Apl (n:=n) hv hw
  have hix:=Aak hv
  have hix2:=Aak hw
  rw [show i - 1 + 1 = i by omega] at hix2 hh
  have ei:((i - 1:Nat):Int) = (i:Int) - 1:=by omega
  rw [ei] at hix
  have w1:IntKind.i64.wrap ((i:Int) - 1) = (i:Int) - 1:=IntWalk.i64_in _ (by omega)
  have w2:IntKind.i64.wrap ((i:Int) + 1) = ((i + 1:Nat):Int):=by rw [IntWalk.i64_in _ (by omega)]; omega
  simp
  refine Aah (by kernel_rfl) (by kernel_rfl) ?_
  cases b with
  | false =>
   simp [e6,e7,w2,undefV,undef]
   exact hq _ _ _ (by omega) ⟨i + 1,by omega,rfl,by simp,by omega,rfl,false,by simp,by simpa using hb⟩
  | true =>
   simp [e6,e0,e1,e7,w1,w2,hix,hix2,(q90 hn6 v.2 w.2).go]
   refine hq _ _ _ (by omega) ⟨i + 1,by omega,rfl,by simp,by omega,rfl,relM n v.2 w.2,by simp,?_⟩
   rw [← hb,hh]
   simp
 ·have hge:l.length ≤ i:=by have:=of_decide_eq_false h; omega
  rw [Al8 (by omega)] at hb
  simp
  refine he _ _ _ (by simp) ?_
  simp at hb
  simp [e6,e4,(q49 (holdsM n l)).go,b0,hres,hb]
  exact ⟨rfl,k1⟩
def Goods (a:ArM):Prop:=∀ c ∈ a.cells,∀ v ∈ c.a,goodM a v = true
theorem A0g {a:ArM} {v:Val} {i:Nat} {c:CeM} (hi:ixM a v = some i) (hc:a.cells[i]? = some c):getM a v = (c,0):=by
 simp [getM,hi,List.getD_eq_getElem?_getD,hc]
theorem An9 {a:ArM} {v:Val} (h:v.1 ≠ 7):(getM a v).1.k = 0:=by
 have:ixM a v = none:=by simp [ixM,h]
 simp [getM,this,zeroC]
theorem Aew {a:ArM} {v:Val} (h7:v.1 = 7) (hg:goodM a v = true):∃ (p:Nat) (c:CeM),v = (7,(p:Int)) ∧ ixM a v = some p ∧ a.cells[p]? = some c ∧ getM a v = (c,0):=by
 obtain ⟨p,hp⟩:∃ p,ixM a v = some p:=by simp [ixM,h7,hg]
 obtain ⟨e,c,hc⟩:=Ab6 hp
 exact ⟨p,c,e,hp,hc,A0g hp hc⟩
theorem RfT.part {t:Nat → Option Nat} {R:Nat} {ls ns:AV} {xs:List (AV × AV)} {a:ArM} {m:Mem} (_:RfT t R ls ns xs a m) {p q:Nat} {c:CeM} {x:AV × AV} {w:AV} (hz:(List.zipWith rowR a.cells xs)[p]? = some (rowR c x)) (h3:(rowR c x).cells[q]? = some w):(flat (List.zipWith rowR a.cells xs))[p * 4 + q]? = some w:=by
 obtain ⟨_,h2⟩:=Abq (Ade a.cells xs) hz
 have hq:q < 4:=by
  have:=(List.getElem?_eq_some_iff.1 h3).1
  simpa using this
 rw [← h2,List.getElem?_take_of_lt hq,List.getElem?_drop] at h3
 exact h3
section
variable {X:Nat → Prop} {R:Nat} {a:ArM} {m:Mem}
theorem q82 (hR:Rf X R a m) {v:Val} (hg:goodM a v = true):EH Tryz.prog ca (.func 82) [.ptr R 0,valA v] m (int (getM a v).1.k) m:=by
 refine Abj Tryz.func82 rfl rfl rfl rfl (args1:=[.ptr R 0,valA v]) (m1:=m) (by simp) (by simp) (by simp [Tryz.f82]) (by simp [Tryz.f82]) ?_
 simp only [Tryz.f82,show ca.keepRes 82 = false from rfl]
 have hRlt:=hR.lt
 have n0:R ≠ m.next:=by omega
 by_cases h7:v.1 = 7
 ·obtain ⟨p,c,rfl,hp,hc,hget⟩:=Aew h7 hg
  obtain ⟨t,ls,ns,xs,h,hx⟩:=hR
  obtain ⟨C,vc,x,rfl,hC,htC,hgC,hxi,hzi,hrA,hrS⟩:=h.at hc
  obtain ⟨w,hv⟩:=h.get
  have hlt:=(List.getElem?_eq_some_iff.1 hc).1
  have hix:=Aaj (P:=Tryz.prog) (q:=.i64) (ag:=true) (c:=none) (id:=C) (off:=0) (len:=a.cells.length) (i:=p) Tryz.underlying74 Ab1 hlt
  have px:=h.part (q:=0) hzi rfl
  have nC:C ≠ m.next:=by omega
  rw [hget]
  rw [Nat.add_zero] at px
  simp
  refine Aah (by kernel_rfl) (by kernel_rfl) ?_
  simp [hv,n0,nC,hix,hgC,px]
 ·rw [An9 h7]
  simp [h7]
theorem q95 (hR:Rf X R a m) (hp:Pairs a) (hgs:Goods a) {v:Val} (hg:goodM a v = true):EH Tryz.prog ca (.func 95) [.ptr R 0,valA v] m (.tup [.lst (vals (listM a 1024 v).1),int (listM a 1024 v).2]) m:=by
 refine Abj Tryz.func95 rfl rfl rfl rfl (args1:=[.ptr R 0,valA v]) (m1:=m) (by simp) (by simp) (by simp [Tryz.f95]) (by simp [Tryz.f95]) ?_
 simp only [Tryz.f95,show ca.keepRes 95 = false from rfl]
 have hRlt:=hR.lt
 simp
 refine Abs (fun q s m' => ∃ (vs:List Val) (w:Val),q = 1025 - vs.length ∧ vs.length ≤ 1024 ∧ goodM a w = true ∧ s.at 0 = .ptr R 0 ∧ s.at 3 = .ptr m.next 0 ∧ Kp m m' ∧ m.next < m'.next ∧ (∃ u,m'.get m.next = some (.cells [int w.1,int w.2] false u)) ∧ Acc (m.new [int v.1,int v.2] false) m' 2 true (vals vs) (s.at 6) ∧ listM a 1024 v = (if (listM a (1024 - vs.length) w).2 = 0 then (vs ++ (listM a (1024 - vs.length) w).1,0) else ([],(listM a (1024 - vs.length) w).2))) 1025 ?_ ?_
 ·refine ⟨[],v,by simp,by simp,hg,by simp,by simp,by simp,by simp,⟨_,by simp; rfl⟩,.inl ⟨rfl,by simp⟩,?_⟩
  simp
  split
  ·rename_i h; rw [← h]
  ·rename_i h; rw [← Al5 _ _ h]
 ·rintro q s m' ⟨vs,w,rfl,hvl,hgw,d0,d3,hkp,hlt,⟨u,hB⟩,hacc,heq⟩ Q' hn he
  have hR':=hR.kp hkp
  have q1:=q82 hR' hgw
  have ln:=Ak5 hacc
  simp [d0,d3,hB,Aaa,q1.go]
  by_cases hk:(getM a w).1.k = 1
  ·simp [hk,ln]
   by_cases hf:vs.length = 1024
   ·have hf':(1024:Int) ≤ vs.length:=by omega
    rw [hf,Nat.sub_self,Akk hk,if_neg (by decide)] at heq
    simp [hf,hf']
    refine he _ _ _ (by simp) ?_
    simp [heq]
    exact hkp
   ·have hf':¬ (1024:Int) ≤ vs.length:=by omega
    have h7:w.1 = 7:=by
     by_cases h7:w.1 = 7
     ·exact h7
     ·rw [An9 h7] at hk; cases hk
    obtain ⟨p,c,ew,hpx,hc,hget⟩:=Aew h7 hgw
    have ea:=hp.get hk
    rw [hget] at ea
    have gy:goodM a (cdrM a w) = true:=hgs c (List.mem_of_getElem? hc) _ (by rw [ea]; simp)
    obtain ⟨t,ls,ns,xs,h,hx⟩:=id hR
    obtain ⟨C,vc,x,rfl,hC,htC,hgC,hxi,hzi,hrA,hrS⟩:=h.at hc
    obtain ⟨wv,hv⟩:=h.get
    have hpl:=(List.getElem?_eq_some_iff.1 hc).1
    have hix:=Aaj (P:=Tryz.prog) (q:=.i64) (ag:=true) (c:=none) (id:=C) (off:=0) (len:=a.cells.length) (i:=p) Tryz.underlying74 Ab1 hpl
    have px:=h.part (q:=2) hzi rfl
    obtain ⟨ee,_⟩ | ⟨_,D,vD,ex,hD,htD,hgD⟩:=hrA
    ·rw [ea] at ee; cases ee
    rw [ex] at px
    rw [ea] at hgD px
    simp [Aay,Aa2] at hgD px
    have ix0:=Aaj (P:=Tryz.prog) (q:=.i64) (ag:=true) (c:=none) (id:=D) (off:=0) (len:=2) (i:=0) Tryz.underlying66 Abf (by omega)
    have ix1:=Aaj (P:=Tryz.prog) (q:=.i64) (ag:=true) (c:=none) (id:=D) (off:=0) (len:=2) (i:=1) Tryz.underlying66 Abf (by omega)
    have gv:=(hkp.get R hRlt).trans hv
    have gC:=(hkp.get C hC).trans hgC
    have gD:=(hkp.get D hD).trans hgD
    have hsrc:=Abv (m:=m'.new (valA (carM a w)).cells false) (id:=m'.next) (c:=some 1) (k:=2) (ag:=true) (x:=valA (carM a w)) (w:=m'.clock + 1) (f:=false) rfl (by simp) (by simp) (by simp [valA])
    obtain ⟨v3,m6,p1,p2,p3,p4⟩:=Adh (T:=66) (m:=m'.new (valA (carM a w)).cells false) (zs:=[valA (carM a w)]) (hacc.kp (.new _ _ _)) (by simp; omega) (Aa4 _) el66 (by simp [Aao,Aba]) (by simp [fzx,fzvs]) (by simp; omega)
    have n7:=p3.next
    simp at n7
    have ho:∀ j,owns (s.at 6) j → m.next < j ∧ j < m'.next:=fun j h => by
     have:=Aa7 hacc j h
     simp at this
     omega
    have k6:Kp m m6:=Aco p3 (hkp.newr _ _) fun j hj => by have:=ho j hj; omega
    have gv6:=(k6.get R hRlt).trans hv
    have gC6:=(k6.get C hC).trans hgC
    have gD6:=(k6.get D hD).trans hgD
    have nB:m.next ≠ m'.next:=by omega
    have gB6:=p3.get m.next (by simp; omega) fun h => by have:=ho _ h; omega
    simp [nB,hB] at gB6
    simp only [Acv] at hsrc p1 p3
    simp at ix0 ix1
    simp [hf,hf']
    refine Aah (by kernel_rfl) (by kernel_rfl) ?_
    have hw2:w.2 = (p:Int):=by rw [ew]
    simp [d0,d3,hB,hw2,gv,hix,gC,px,ix0,gD,abuildSlice,zeros,fillAt,abuiltin,hsrc,p1]
    refine Aah (by kernel_rfl) (by kernel_rfl) ?_
    simp [d0,d3,gB6,hw2,gv6,hix,gC6,px,ix1,gD6]
    have e1:1024 - vs.length = 1024 - (vs ++ [carM a w]).length + 1:=by simp; omega
    rw [e1,Akj hk] at heq
    refine hn _ _ _ (by simp; omega) ⟨vs ++ [carM a w],cdrM a w,rfl,by simp; omega,gy,by simp [d0],by simp [d3],k6.set (Nat.le_refl _) _,by simp; omega,⟨_,by simp; rfl⟩,?_,?_⟩
    ·rw [Ab8,Aay,Aef]
     simp
     refine p2.imp id fun ⟨h,i,w,e,h1,h2,h3⟩ => ⟨h,i,w,e,h1,by simpa using h2,?_⟩
     simp at h1
     have:i ≠ m.next:=by omega
     simp [this,h3]
    ·rw [heq]
     by_cases h0:(listM a (1024 - (vs ++ [carM a w]).length) (cdrM a w)).2 = 0
     ·simp only [if_pos h0]; simp
     ·simp only [if_neg h0]
  ·rw [Ahd hk] at heq
   simp [hk]
   refine he _ _ _ (by simp) ?_
   simp [d3,hB]
   by_cases h4:w.1 = 4
   ·rw [if_pos h4] at heq
    simp at heq
    have lv:Lv (m.new [int v.1,int v.2] false) m' 2 true (vals vs) (s.at 6):=by
     rcases hacc with ⟨h1,h2⟩ | ⟨h,id,w,h1,h2,h3,h4⟩
     ·exact .inl ⟨0,by omega,h1,h2⟩
     ·exact .inr (.inr ⟨id,w,none,h1,h2,h3,h4⟩)
    obtain ⟨m7,z1,z2⟩:=lv.fz rfl (Ab0 vs) (Aa4 vs)
    have k7:Kp m m7:=Aco z2 hkp fun j hj => by have:=(lv.lt j hj).1; simp at this; omega
    have oks:=(Ais hacc).1
    simp [h4,oks,fzs,z1,heq]
    have ez:fzv m' (s.at 6) = fz1 m' (s.at 6):=by rcases hacc with ⟨_,e⟩ | ⟨_,id,w,e,_⟩ <;> rw [e] <;> rfl
    rw [ez,z1]
    exact ⟨rfl,k7⟩
   ·rw [if_neg h4,if_neg (by decide)] at heq
    simp [h4,heq]
    exact hkp
end
theorem Ur.kpr {X:Nat → Prop} {R:Nat} {a:ArM} {m m1 m':Mem} (h:Ur X R a m m1) (k:Kp m1 m'):Ur X R a m m':=by
 obtain ⟨X',h1,h2,h3⟩:=h
 exact ⟨X',h1.kp k,h2.trans (.of (.of k)),h3⟩
theorem q92 {X:Nat → Prop} {R:Nat} {a:ArM} {m:Mem} (hR:Rf X R a m) (c:CeM) (h1:c.a.length < 2 ^ 21) (h2:c.s.length < 2 ^ 21):wph Tryz.prog ca (.func 92) [.ptr R 0,ceA c] m fun v m' => v = .tup [valA (allocC a 0 c).1,int (allocC a 0 c).2.2] ∧ Ur X R (allocC a 0 c).2.1 m m':=by
 refine Aas Tryz.func92 rfl rfl (by simp [Tryz.f92]) (by simp [Tryz.f92]) fun Q hQ => ?_
 simp only [Tryz.f92,show ca.keepRes 92 = false from rfl,show ca.keepArgs 92 = false from rfl] at hQ ⊢
 obtain ⟨M1,hM1⟩:∃ M1,M1 = ((m.new (ceA c).cells false).new [int 0,int 0] false):=⟨_,rfl⟩
 have k1:Kp m M1:=by rw [hM1]; simp
 have nM:M1.next = m.next + 2:=by rw [hM1]; simp
 have gc:M1.get m.next = some (.cells [int c.k,int c.n,.lst (vals c.a),.lst (byts c.s)] false (m.clock + 1)):=by rw [hM1]; simp
 have gB:M1.get (m.next + 1) = some (.cells [int 0,int 0] false (m.clock + 2)):=by rw [hM1]; simp
 have ecA:AV.agg [int c.k,int c.n,.lst (vals c.a),.lst (byts c.s)] = ceA c:=rfl
 have q:=q144 (hR.cut.kp k1) c h1 h2
 simp only [Afv] at hM1
 obtain ⟨res,hres⟩:∃ res,res = allocC a 0 c:=⟨_,rfl⟩
 rw [← hres] at hQ
 simp
 rw [← hM1]
 clear hM1
 simp [gc,ecA]
 refine Aae q ?_
 rintro _ m5 ⟨rfl,hup⟩
 obtain ⟨X1,hR5,kc5,hX5⟩:=hup.out
 have n5:=kc5.next
 have g5:m5.get (m.next + 1) = some (.cells [int 0,int 0] false (m.clock + 2)):=(kc5.get (m.next + 1) (by omega) (fun h => by omega)).trans gB
 have kk:Kp m5 ((m5.new [int 0,int 0] false).set m5.next [int (allocM a c).2.1.1,int (allocM a c).2.1.2]):=(Kp.new _ _ _).set (Nat.le_refl _) _
 have n0:m.next + 1 ≠ m5.next:=by omega
 have fin:∀ (s':Sl) (v:Val) (e:Int),s'.at 4 = .ptr (m.next + 1) 0 → s'.at 5 = int e → res = (v,(allocM a c).1,e) → Q .ret s' (((m5.new [int 0,int 0] false).set m5.next [int (allocM a c).2.1.1,int (allocM a c).2.1.2]).set (m.next + 1) [int v.1,int v.2]):=by
  intro s' v e h4 h5 hv
  refine hQ _ _ _ ?_
  rw [Aaf]
  refine ⟨[valA v,int e],by simp [aresult,h4,h5,g5,n0,aload,partOf,Aaa],?_⟩
  simp [oneOf,hv]
  exact (Ur.box k1 (fun j h => h.2) (hup.kpr kk) (by omega) (by omega) _).less
 unfold allocC at hres
 rw [if_neg (by simp)] at hres
 by_cases hz:(allocM a c).2.2 = 0
 ·rw [if_neg (by simp [hz])] at hres
  simp [hz,g5,n0]
  exact fin _ _ _ (by simp) (by simp) hres
 ·rw [if_pos hz] at hres
  simp [hz,g5,n0,Aan]
  exact fin _ (0,0) 8 (by simp) (by simp) hres
theorem Aj3 (a:ArM) (k:Int) (e:Val) (l2:List Val) (h:(aheadM a k e l2).2.2 ≠ 0):∀ l1:List Val,l1 ≠ [] → aheadM a k e (l1 ++ l2) = ((0,0),(aheadM a k e l2).2.1,(aheadM a k e l2).2.2)
 | [x],_ => by rw [List.cons_append,List.nil_append,aheadM,allocC,if_pos h]
 | x :: y :: l1,_ => by
  have ih:=Aj3 a k e l2 h (y :: l1) (by simp)
  rw [List.cons_append,aheadM,ih,allocC,if_pos h]
theorem Arb {a:ArM} {e x:Val} {l2:List Val} (h0:(aheadM a 0 e l2).2.2 = 0) (h:(aheadM a 0 e (x :: l2)).2.2 ≠ 0) (l1:List Val):aheadM a 0 e (l1 ++ x :: l2) = ((0,0),(aheadM a 0 e (x :: l2)).2.1,(aheadM a 0 e (x :: l2)).2.2):=by
 by_cases hl:l1 = []
 ·subst hl
  rw [List.nil_append]
  rw [aheadM,allocC,if_neg (by simp [h0])] at h ⊢
  split
  ·rfl
  ·rename_i hz
   rw [if_neg hz] at h
   exact absurd rfl h
 ·exact Aj3 a 0 e _ h l1 hl
theorem q94 {X:Nat → Prop} {R:Nat} {a:ArM} {m:Mem} (hR:Rf X R a m) (l:List Val) (hl:l.length < 2 ^ 21) (e:Val):wph Tryz.prog ca (.func 94) [.ptr R 0,.lst (vals l),valA e] m fun v m' => v = .tup [valA (if (aheadM a 0 e l).2.2 = 0 then (aheadM a 0 e l).1 else (0,0)),int (aheadM a 0 e l).2.2] ∧ Ur X R (aheadM a 0 e l).2.1 m m':=by
 refine Aas Tryz.func94 rfl rfl (by simp [Tryz.f94]) (by simp [Tryz.f94]) fun Q hQ => ?_
 simp only [Tryz.f94,show ca.keepRes 94 = false from rfl,show ca.keepArgs 94 = false from rfl] at hQ ⊢
 have ln:∀ (R:TypeId) (m:Mem),abuiltin Tryz.prog .len #[66] R [.lst (vals l)] m = some (int l.length,m):=fun R m => by rw [Aat Tryz.underlying66]; simp
 obtain ⟨M1,hM1⟩:∃ M1,M1 = ((m.new [int e.1,int e.2] false).new [int 0,int 0] false):=⟨_,rfl⟩
 have k1:Kp m M1:=by rw [hM1]; simp
 have nM:M1.next = m.next + 2:=by rw [hM1]; simp
 have gA:M1.get m.next = some (.cells [int e.1,int e.2] false (m.clock + 1)):=by rw [hM1]; simp
 have gB:M1.get (m.next + 1) = some (.cells [int 0,int 0] false (m.clock + 2)):=by rw [hM1]; simp
 have hRc:=hR.cut
 have wl:IntKind.i64.wrap ((l.length:Int) - 1) = (l.length:Int) - 1:=IntWalk.i64_in _ (by omega)
 obtain ⟨res,hres⟩:∃ res,res = aheadM a 0 e l:=⟨_,rfl⟩
 rw [← hres] at hQ
 have fin:∀ (s7:Sl) (m7:Mem) (v:Val) (a':ArM) (e':Int) (X7:Nat → Prop),s7.at 6 = .ptr (m.next + 1) 0 → s7.at 7 = int e' → Rf X7 R a' m7 → (∀ i,X7 i → ((X i ∧ i < m.next) ∨ M1.next ≤ i) ∧ i < m7.next) → KpC (fun i => (X i ∧ i < m.next) ∨ i = m.next) M1 m7 → res.2.1 = a' → res.2.2 = e' → (if res.2.2 = 0 then res.1 else (0,0)) = v → (∃ w,(m7.set (m.next + 1) [int v.1,int v.2]).get (m.next + 1) = some (.cells [int v.1,int v.2] false w)) → Q .ret s7 (m7.set (m.next + 1) [int v.1,int v.2]):=by
  intro s7 m7 v a' e' X7 h6 h7 hR7 hX7 kc7 ea ee ev ⟨w,hg⟩
  refine hQ _ _ _ ?_
  rw [Aaf]
  refine ⟨[valA v,int e'],by simp [aresult,h6,h7,hg,aload,partOf,Aaa],?_⟩
  rw [ev,ea,ee]
  simp [oneOf]
  have n7:=kc7.next
  refine ⟨X7,hR7.kc (Aap _ _ _) fun i h q => ?_,KpC.cut (((KpC.of (.of k1)).trans (kc7.mono fun i h => ?_)).trans ((Aap _ _ _).mono fun i h => .inr ?_)),fun i h => (hX7 i h).1.imp And.left fun h => by omega⟩
  ·have q:i = m.next + 1:=q
   have:=(hX7 i h).1
   omega
  ·rcases h with h | h
   ·exact .inl h.1
   ·exact .inr (by omega)
  ·have h:i = m.next + 1:=h
   omega
 simp [ln,wl]
 rw [← hM1]
 clear hM1
 refine Ab7 (fun j s' m' => j ≤ l.length ∧ s'.at 8 = int ((j:Int) - 1) ∧ ∃ X1,Rf X1 R (aheadM a 0 e (l.drop j)).2.1 m' ∧ (aheadM a 0 e (l.drop j)).2.2 = 0 ∧ (∀ i,X1 i → ((X i ∧ i < m.next) ∨ M1.next ≤ i) ∧ i < m'.next) ∧ KpC (fun i => (X i ∧ i < m.next) ∨ i = m.next) M1 m' ∧ ∃ w,m'.get m.next = some (.cells [int (aheadM a 0 e (l.drop j)).1.1,int (aheadM a 0 e (l.drop j)).1.2] false w)) l.length ⟨Nat.le_refl _,by simp,fun i => X i ∧ i < m.next,?_,?_,fun i h => ⟨.inl h,by omega⟩,.refl _ _,m.clock + 1,?_⟩ ?_
 ·rw [List.drop_length]; exact hRc.kp k1
 ·rw [List.drop_length]; rfl
 ·rw [List.drop_length]; exact gA
 rintro j s' m' ⟨hj,e8,X1,hR1,hz,hX1,kc,w,hgA⟩ hsame Q' hn he
 have e0:s'.at 0 = .ptr R 0:=(hsame 0 (by kernel_rfl)).trans (by simp)
 have e1:s'.at 1 = .lst (vals l):=(hsame 1 (by kernel_rfl)).trans (by simp)
 have e5:s'.at 5 = .ptr m.next 0:=(hsame 5 (by kernel_rfl)).trans (by simp)
 have e6:s'.at 6 = .ptr (m.next + 1) 0:=(hsame 6 (by kernel_rfl)).trans (by simp)
 clear hsame
 have n':=kc.next
 simp [e8]
 refine Aad (fun h => ?_) fun h => ?_
 ·have hj0:0 < j:=by have:=of_decide_eq_true h; omega
  simp
  obtain ⟨j,rfl⟩:∃ i,j = i + 1:=⟨j - 1,by omega⟩
  have ej:((j + 1:Nat):Int) - 1 = (j:Int):=by omega
  rw [ej] at e8
  obtain ⟨x,hx⟩:∃ x,l[j]? = some x:=⟨_,List.getElem?_eq_getElem (by omega)⟩
  have hix:=Aak hx
  have hdr:=Adg hx
  have nA:m.next ≠ m'.next:=by omega
  obtain ⟨r,hr⟩:∃ r,r = aheadM a 0 e (l.drop (j + 1)):=⟨_,rfl⟩
  rw [← hr] at hR1 hz hgA
  have hstep:aheadM a 0 e (l.drop j) = allocC r.2.1 0 ⟨1,0,[x,r.1],[]⟩:=by rw [hdr,aheadM,← hr,hz]
  obtain ⟨Mb,hMb⟩:∃ Mb,Mb = m'.new [int x.1,int x.2,int r.1.1,int r.1.2] false:=⟨_,rfl⟩
  have kb:Kp m' Mb:=by rw [hMb]; exact .new _ _ _
  have gF:Mb.get m'.next = some (.cells [int x.1,int x.2,int r.1.1,int r.1.2] false (m'.clock + 1)):=by rw [hMb]; simp
  have nb:Mb.next = m'.next + 1:=by rw [hMb]; simp
  obtain ⟨M9,hM9⟩:∃ M9,M9 = Mb.mark m'.next (flat (vals [x,r.1])) (m'.clock + 1):=⟨_,rfl⟩
  have k9:Kp m' M9:=by rw [hM9]; exact Aco (Agn m'.next _ _ Mb) kb fun j h => by have h:j = m'.next:=h; omega
  have n9:M9.next = m'.next + 1:=by rw [hM9]; simp [nb]
  have q:=Acz Tryz.func92 rfl rfl rfl (Apo (A:=R) (k:=1) (x:=x) (y:=r.1) gF) (by simp [fzvs]) (q92 (X:=X1) (R:=R) (a:=r.2.1) (m:=Mb.mark m'.next (flat (vals [x,r.1])) (m'.clock + 1)) (by rw [← hM9]; exact hR1.kp k9) ⟨1,0,[x,r.1],[]⟩ (by simp) (by simp))
  rw [← hM9,← hstep] at q
  refine Aax (by kernel_rfl) ?_
  simp [e0,e1,e5,e8,hix,hgA,abuildSlice,zeros,fillAt,abuild,placesOf]
  rw [← hMb]
  refine Aae q ?_
  rintro _ m5 ⟨rfl,hup⟩
  obtain ⟨X2,hR2,kc2,hX2⟩:=hup.out
  have n5:=kc2.next
  have keep:∀ i,m.next ≤ i → i < M1.next → ¬ X1 i:=fun i h1 h2 h => by
   rcases (hX1 i h).1 with h | h <;> omega
  have g5:=(kc2.get m.next (by omega) (keep _ (by omega) (by omega))).trans ((k9.get m.next (by omega)).trans hgA)
  have gB5:=(kc2.get (m.next + 1) (by omega) (keep _ (by omega) (by omega))).trans ((k9.get (m.next + 1) (by omega)).trans ((kc.get (m.next + 1) (by omega) (fun h => by rcases h with h | h <;> omega)).trans gB))
  have nA5:m.next ≠ m5.next:=by omega
  simp [g5,nA5]
  have hob:objV ((valA x).cptr 0) = none:=rfl
  refine Abh (l:=[(4,12),(5,12)]) (by kernel_rfl) (?_:List.all _ _ = true) ?_
  ·simp [metAtD,metOkD,rank,verKeptD,Region.wanted,Mem.ver,g5,nA5,hgA,nA,hob]
  simp [g5,nA5]
  have hX2':∀ i,X2 i → ((X i ∧ i < m.next) ∨ M1.next ≤ i) ∧ i < m5.next:=fun i h => ⟨(hX2 i h).1.elim (fun h => (hX1 i h).1) fun h => .inr (by omega),(hX2 i h).2⟩
  have kc5:KpC (fun i => (X i ∧ i < m.next) ∨ i = m.next) M1 m5:=KpC.cut (((kc.mono fun i h => .inl h).trans (KpC.of (.of k9))).trans (kc2.mono fun i h => (hX1 i h).1.imp .inl id))
  obtain ⟨M6,hM6⟩:∃ M6,M6 = (m5.new [int 0,int 0] false).set m5.next [int (aheadM a 0 e (List.drop j l)).1.1,int (aheadM a 0 e (List.drop j l)).1.2]:=⟨_,rfl⟩
  have k6:Kp m5 M6:=by rw [hM6]; exact (Kp.new _ _ _).set (Nat.le_refl _) _
  have n6:M6.next = m5.next + 1:=by rw [hM6]; simp
  have g6:∃ w,M6.get m5.next = some (.cells [int (aheadM a 0 e (List.drop j l)).1.1,int (aheadM a 0 e (List.drop j l)).1.2] false w):=⟨_,by rw [hM6]; simp; rfl⟩
  obtain ⟨w6,g6⟩:=g6
  have gA6:=(k6.get m.next (by omega)).trans g5
  have gB6:=(k6.get (m.next + 1) (by omega)).trans gB5
  rw [← hM6]
  by_cases hbad:(aheadM a 0 e (List.drop j l)).2.2 = 0
  ·have wj:IntKind.i64.wrap ((j:Int) - 1) = (j:Int) - 1:=IntWalk.i64_in _ (by omega)
   simp [hbad,g6,gA6,e5,e8,wj]
   refine hn j _ _ (by omega) ⟨by omega,by simp,X2,(hR2.kp k6).kc (Aap _ _ _) fun i h q => ?_,hbad,fun i h => ⟨(hX2' i h).1,by have:=(hX2' i h).2; simp; omega⟩,(kc5.trans (KpC.of (.of k6))).trans ((Aap _ _ _).mono fun i h => .inr h),_,by simp; rfl⟩
   have q:i = m.next:=q
   have:=(hX2' i h).1
   omega
  ·have hall:res = ((0,0),(aheadM a 0 e (l.drop j)).2.1,(aheadM a 0 e (l.drop j)).2.2):=by
    rw [hres]
    have:=Arb (a:=a) (e:=e) (x:=x) (l2:=l.drop (j + 1)) (by rw [← hr]; exact hz) (by rw [← hdr]; exact hbad) (l.take j)
    rw [← hdr,List.take_append_drop] at this
    exact this
   simp [hbad,Aan,e6,gB6]
   refine he _ _ _ (by simp) ?_
   simp
   exact fin _ _ (0,0) _ (aheadM a 0 e (List.drop j l)).2.2 X2 (by simp [e6]) (by simp) (hR2.kp k6) (fun i h => ⟨(hX2' i h).1,by have:=(hX2' i h).2; omega⟩) (kc5.trans (KpC.of (.of k6))) (by rw [hall]) (by rw [hall]) (by rw [hall,if_neg hbad]) ⟨_,by simp; rfl⟩
 ·have hj0:j = 0:=by have:=of_decide_eq_false h; omega
  subst hj0
  simp
  refine he _ _ _ (by simp) ?_
  rw [List.drop_zero] at hz hgA hR1
  have gB0:=(kc.get (m.next + 1) (by omega) (fun h => by rcases h with h | h <;> omega)).trans gB
  simp [e5,e6,hgA,gB0]
  exact fin _ _ (aheadM a 0 e l).1 _ 0 X1 (by simp [e6]) (by simp) hR1 hX1 kc (by rw [hres]) (by rw [hres]; exact hz) (by rw [hres]; exact if_pos hz) ⟨_,by simp; rfl⟩
theorem Ak3 (a:ArM) {k:Int} (h:k ≠ 0) (e:Val):∀ l,(aheadM a k e l).2 = (a,k)
 | [] => rfl
 | x :: l => by
  have ih:=Ak3 a h e l
  rw [aheadM,allocC,ih,if_pos h]
theorem Amq {a:ArM} {e:Val} {xs:List (List Val)} (h:(foldM a e xs).2.2 ≠ 0):∀ l1,(foldM a e (l1 ++ xs)).2 = (foldM a e xs).2
 | [] => rfl
 | x :: l1 => by
  have ih:=Amq h l1
  rw [List.cons_append,foldM,ih]
  exact Ak3 _ h _ _
theorem lenL {m0 m1:Mem} {ys:List (List Val)} {x:AV} (h:Acc m0 m1 1 false (lists ys) x) (R:TypeId) (m:Mem):abuiltin Tryz.prog .len #[175] R [x] m = some (int ys.length,m):=by
 rcases h with ⟨h1,rfl⟩ | ⟨h,id,w,rfl,h2,h3,h4⟩
 ·have:ys = []:=by simpa [lists] using h1
  subst this
  exact Adb Tryz.underlying175
 ·rw [Abw Tryz.underlying175]
  simp [lists]
theorem atL {m0 m1:Mem} {ys:List (List Val)} {x:AV} (h:Acc m0 m1 1 false (lists ys) x) {j:Nat} {y:List Val} (hy:ys[j]? = some y):∃ id w,aindexAddr Tryz.prog 175 x (int j) = some (.ptr id j) ∧ m0.next ≤ id ∧ id < m1.next ∧ m1.get id = some (.cells (flat (lists ys)) false w) ∧ (flat (lists ys))[j]? = some (.lst (vals y)):=by
 have hj:=(List.getElem?_eq_some_iff.1 hy).1
 rcases h with ⟨h1,rfl⟩ | ⟨h,id,w,rfl,h2,h3,h4⟩
 ·have:ys = []:=by simpa [lists] using h1
  subst this
  simp at hy
 ·have hz:(lists ys)[j]? = some (.lst (vals y)):=by simp [lists,hy]
  obtain ⟨_,h5⟩:=Abq (okl ys) hz
  refine ⟨id,w,?_,h2,h3,h4,?_⟩
  ·rw [Aaj Tryz.underlying175 Ang (by simpa [lists] using hj)]
   simp
  ·have h5:((flat (lists ys)).drop (j * 1)).take 1 = [.lst (vals y)]:=h5
   have:=congrArg (·[0]?) h5
   simpa using this
section
variable {X:Nat → Prop} {R:Nat} {a:ArM} {m:Mem}
theorem q97 (hR:Rf X R a m) (hp:Pairs a) (hgs:Goods a) (l:List Val) (hl:l.length < 2 ^ 21) (hg:∀ v ∈ l,goodM a v = true):wph Tryz.prog ca (.func 97) [.ptr R 0,.lst (vals l)] m fun v m' => v = .tup [valA (if (appendM a l).2.2 = 0 then (appendM a l).1 else (0,0)),int (appendM a l).2.2] ∧ Ur X R (appendM a l).2.1 m m':=by
 refine Aas Tryz.func97 rfl rfl (by simp [Tryz.f97]) (by simp [Tryz.f97]) fun Q hQ => ?_
 simp only [Tryz.f97,show ca.keepRes 97 = false from rfl,show ca.keepArgs 97 = false from rfl] at hQ ⊢
 have ln:∀ (R:TypeId) (m:Mem),abuiltin Tryz.prog .len #[66] R [.lst (vals l)] m = some (int l.length,m):=fun R m => by rw [Aat Tryz.underlying66]; simp
 obtain ⟨res,hres⟩:∃ res,res = appendM a l:=⟨_,rfl⟩
 rw [← hres] at hQ
 have fin:∀ (s7:Sl) (m7:Mem) (v:Val),s7.at 4 = .ptr m.next 0 → s7.at 5 = int res.2.2 → (∃ w,m7.get m.next = some (.cells [int v.1,int v.2] false w)) → (if res.2.2 = 0 then res.1 else (0,0)) = v → Ur X R res.2.1 m m7 → Q .ret s7 m7:=by
  intro s7 m7 v h4 h5 ⟨w,hg⟩ ev hu
  refine hQ _ _ _ ?_
  rw [Aaf]
  refine ⟨[valA v,int res.2.2],by simp [aresult,h4,h5,hg,aload,partOf,Aaa],?_⟩
  rw [ev]
  simp [oneOf]
  exact hu
 by_cases hl0:l = []
 ·subst hl0
  have e0:res = ((4,0),a,0):=by rw [hres,appendM,if_pos rfl]
  simp [ln,abuild,placesOf,fillAt]
  rw [e0] at fin
  exact fin _ _ (4,0) (by simp) (by simp) ⟨_,by simp; rfl⟩ rfl (.kp hR (by simp))
 have hlp:0 < l.length:=by cases l with | nil => exact absurd rfl hl0 | cons _ _ => simp
 have hl0':¬ ((l.length:Int) = 0):=by omega
 have wl:IntKind.i64.wrap ((l.length:Int) - 1) = ((l.length - 1:Nat):Int):=by rw [IntWalk.i64_in _ (by omega)]; omega
 obtain ⟨M1,hM1⟩:∃ M1,M1 = m.new [int 0,int 0] false:=⟨_,rfl⟩
 have k1:Kp m M1:=by rw [hM1]; simp
 have n1:M1.next = m.next + 1:=by rw [hM1]; simp
 have b1:M1.get m.next = some (.cells [int 0,int 0] false (m.clock + 1)):=by rw [hM1]; simp
 have hR1:=hR.cut.kp k1
 obtain ⟨L,hL⟩:∃ L,L = l.dropLast:=⟨_,rfl⟩
 obtain ⟨N,hN⟩:∃ N,N = l.length - 1:=⟨_,rfl⟩
 have hLN:L.length = N:=by rw [hL,hN,List.length_dropLast]
 have hLl:∀ i,i < N → L[i]? = l[i]?:=by
  intro i hi
  rw [hL,List.dropLast_eq_take,List.getElem?_take_of_lt (by omega)]
 rw [← hN] at wl
 simp [ln,hl0]
 rw [← hM1]
 clear hM1
 refine Aar 7 N (fun i s' m' => ∃ ys,listsM a (L.take i) = (ys,0) ∧ Acc M1 m' 1 false (lists ys) (s'.at 6) ∧ ys.length ≤ i ∧ Kp M1 m') (by simp) (by omega) ⟨[],by simp [listsM],.inl ⟨rfl,by simp⟩,by simp,.refl _⟩ ?_
 rintro i s' m' hi e7 ⟨ys,hys,hacc,hyl,kp⟩ hsame hw Q' hn he
 have d0:s'.at 0 = .ptr R 0:=(hsame 0 (by kernel_rfl)).trans (by simp)
 have d1:s'.at 1 = .lst (vals l):=(hsame 1 (by kernel_rfl)).trans (by simp)
 have d4:s'.at 4 = .ptr m.next 0:=(hsame 4 (by kernel_rfl)).trans (by simp)
 clear hsame
 have n':=kp.next
 have f1:=(kp.get m.next (by omega)).trans b1
 have hRm:=hR1.kp kp
 have own6:∀ j,owns (s'.at 6) j → M1.next ≤ j ∧ j < m'.next:=Aa7 hacc
 simp [e7,d1,ln,wl]
 refine Aad (fun h => ?_) fun h => ?_
 ·have hlt:i < N:=by simpa using h
  obtain ⟨x,hx⟩:∃ x,L[i]? = some x:=⟨_,List.getElem?_eq_getElem (by omega)⟩
  have hxl:l[i]? = some x:=by rw [← hLl i hlt]; exact hx
  have hix:aindexAddr Tryz.prog 66 (.lst (vals l)) (int i) = some ((valA x).cptr 0):=Aak hxl
  have q:=q95 hRm hp hgs (hg x (List.mem_of_getElem? hxl))
  obtain ⟨r,hr⟩:∃ r,r = listM a 1024 x:=⟨_,rfl⟩
  rw [← hr] at q
  have hsrc:=Abv (m:=m'.new [.lst (vals r.1)] false) (id:=m'.next) (c:=some 1) (k:=1) (ag:=false) (x:=.lst (vals r.1)) (w:=m'.clock + 1) (f:=false) rfl (by simp) (by simp) rfl
  obtain ⟨v6,m6,p1,p2,p3,p4⟩:=Adh (T:=175) (m:=m'.new [.lst (vals r.1)] false) (zs:=[.lst (vals r.1)]) (hacc.kp (.new _ _ _)) (by simp; omega) (okl _) el175 (by simp [Aao,Aba]) (by simp [fzx,fzvs]) (by simp [lists]; omega)
  have n6:=p3.next
  simp at n6
  have k6:Kp M1 m6:=Aco p3 (kp.newr _ _) fun j hj => by have:=own6 j hj; omega
  simp [e7,d0,d1,hix,q.go,Aaa]
  have hall:L = L.take i ++ x :: L.drop (i + 1):=by
   obtain ⟨h1,h2⟩:=List.getElem?_eq_some_iff.1 hx
   rw [← h2,List.getElem_cons_drop,List.take_append_drop]
  have hvA:=Adm a (L.take i) (x :: L.drop (i + 1)) (by rw [hys])
  rw [← hall,listsM,← hr] at hvA
  by_cases hz:r.2 = 0
  ·simp [hz,e7,hw,abuildSlice,fzx,fzvs,zeros,fillAt,abuiltin,hsrc,p1]
   have htk1:L.take (i + 1) = L.take i ++ [x]:=by
    obtain ⟨h1,h2⟩:=List.getElem?_eq_some_iff.1 hx
    rw [List.take_succ_eq_append_getElem h1,h2]
   refine hn _ _ hlt (by simp) ⟨ys ++ [r.1],?_,?_,by simp; omega,k6⟩
   ·rw [htk1,Adm a _ _ (by rw [hys]),hys]
    simp [listsM,← hr,hz]
   ·simpa [lists] using p2
  ·have hvB:listsM a L = ([],r.2):=by
    rw [hvA,if_pos hz]
    simp [hz]
   simp [hz,d4,f1,Aan]
   refine he _ _ _ (by simp) ?_
   simp
   have e0:res = ((4,0),a,r.2):=by
    rw [hres,appendM,if_neg hl0,← hL,hvB]
    simp [hz]
   rw [e0] at fin
   exact fin _ _ (0,0) (by simp [d4]) (by simp) ⟨_,by simp; rfl⟩ (if_neg hz) (.kp hR ((k1.trans kp).set (Nat.le_refl _) _))
 ·have hge:i = N:=by have:=of_decide_eq_false h; omega
  subst hge
  simp
  refine he _ _ _ (by simp) ?_
  obtain ⟨ev,hev⟩:∃ v,l[i]? = some v:=⟨_,List.getElem?_eq_getElem (by omega)⟩
  have hix:aindexAddr Tryz.prog 66 (.lst (vals l)) (int i) = some ((valA ev).cptr 0):=Aak hev
  have hlast:l.getLastD (0,0) = ev:=by
   rw [List.getLastD_eq_getLast?,List.getLast?_eq_getElem?,← hN,hev]
   rfl
  have hre:res = foldM a ev ys:=by
   rw [hres,appendM,if_neg hl0,← hL,hlast]
   have:L.take i = L:=by rw [List.take_of_length_le (by omega)]
   rw [this] at hys
   rw [hys]
   simp
  have hy1:∀ y ∈ ys,y.length ≤ 1024:=by
   intro y hy
   refine Agl a (L.take i) y ?_
   rw [hys]
   exact hy
  have wy:IntKind.i64.wrap ((ys.length:Int) - 1) = (ys.length:Int) - 1:=IntWalk.i64_in _ (by omega)
  obtain ⟨x6,hx6⟩:∃ x,x = s'.at 6:=⟨_,rfl⟩
  rw [← hx6] at hacc own6
  have ly:=lenL hacc
  obtain ⟨T,hT⟩:∃ T,T = m'.next:=⟨_,rfl⟩
  obtain ⟨M2,hM2⟩:∃ M,M = (m'.new [int 0,int 0] false).set m'.next [int ev.1,int ev.2]:=⟨_,rfl⟩
  have k2:Kp m' M2:=by rw [hM2]; simp
  have n2:M2.next = T + 1:=by rw [hM2,hT]; simp
  have gT:M2.get T = some (.cells [int ev.1,int ev.2] false (m'.clock + 2)):=by rw [hM2,hT]; simp
  simp [d1,hix,ln,wl,← hx6,ly,wy]
  rw [← hM2,← hT]
  clear hM2
  have hR2:=hRm.kp k2
  have hacc2:=hacc.kp k2
  have hown:∀ (j:Nat) (y:List Val),ys[j]? = some y → ∀ (id:Nat),aindexAddr Tryz.prog 175 x6 (int j) = some (.ptr id j) → id < m'.next:=by
   intro j y hy id h
   obtain ⟨id',_,h1,_,h2,_⟩:=atL hacc hy
   rw [h1] at h
   cases h
   exact h2
  have b2:=(k2.get m.next (by omega)).trans f1
  have km2:Kp m M2:=(k1.trans kp).trans k2
  have xlo:∀ j,X j ∧ j < m.next → j < m.next:=fun j h => h.2
  refine Ab7 (fun j s' m' => j ≤ ys.length ∧ s'.at 11 = int ((j:Int) - 1) ∧ ∃ X1,Rf X1 R (foldM a ev (ys.drop j)).2.1 m' ∧ (foldM a ev (ys.drop j)).2.2 = 0 ∧ (∀ i,X1 i → ((X i ∧ i < m.next) ∨ M2.next ≤ i) ∧ i < m'.next) ∧ KpC (fun i => (X i ∧ i < m.next) ∨ i = T) M2 m' ∧ ∃ w,m'.get T = some (.cells [int (foldM a ev (ys.drop j)).1.1,int (foldM a ev (ys.drop j)).1.2] false w)) ys.length ⟨Nat.le_refl _,by simp,fun i => X i ∧ i < m.next,?_,?_,fun i h => ⟨.inl h,by omega⟩,.refl _ _,m'.clock + 2,?_⟩ ?_
  ·rw [List.drop_length]; exact hR2
  ·rw [List.drop_length]; rfl
  ·rw [List.drop_length]; exact gT
  clear hn he hw e7
  have urs:∀ {X2:Nat → Prop} {b:ArM} {m5:Mem} (cs:List AV),Rf X2 R b m5 → (∀ i,X2 i → ((X i ∧ i < m.next) ∨ M2.next ≤ i) ∧ i < m5.next) → KpC (fun i => (X i ∧ i < m.next) ∨ i = T) M2 m5 → Ur X R b m (m5.set m.next cs):=by
   intro X2 b m5 cs h hX2 k
   have n5:=k.next
   refine ⟨X2,h.kc (Aap _ _ _) fun i h q => ?_,KpC.cut (((KpC.of (.of km2)).trans (k.mono fun i h => ?_)).trans ((Aap _ _ _).mono fun i h => .inr ?_)),fun i h => (hX2 i h).1.imp And.left fun h => by omega⟩
   ·have q:i = m.next:=q
    have:=(hX2 i h).1
    omega
   ·rcases h with h | h
    ·exact .inl h.1
    ·exact .inr (by omega)
   ·have h:i = m.next:=h
    omega
  rintro j s3 m3 ⟨hj,e11,X1,hR3,hz,hX1,kc,w,hgT⟩ hsame Q2 hn he
  have e0:s3.at 0 = .ptr R 0:=(hsame 0 (by kernel_rfl)).trans (by simp [d0])
  have e4:s3.at 4 = .ptr m.next 0:=(hsame 4 (by kernel_rfl)).trans (by simp [d4])
  have e6:s3.at 6 = x6:=(hsame 6 (by kernel_rfl)).trans (by simp [← hx6])
  have e10:s3.at 10 = .ptr T 0:=(hsame 10 (by kernel_rfl)).trans (by simp)
  clear hsame
  have n3:=kc.next
  have hacc3:Acc M1 m3 1 false (lists ys) x6:=Aa9 hacc2 kc fun j h e => by have:=own6 j h; omega
  have b3:=(kc.get m.next (by omega) (fun h => by omega)).trans b2
  simp [e11]
  refine Aad (fun h => ?_) fun h => ?_
  ·have hj0:0 < j:=by have:=of_decide_eq_true h; omega
   simp
   obtain ⟨j,rfl⟩:∃ i,j = i + 1:=⟨j - 1,by omega⟩
   have ej:((j + 1:Nat):Int) - 1 = (j:Int):=by omega
   rw [ej] at e11
   obtain ⟨y,hy⟩:∃ y,ys[j]? = some y:=⟨_,List.getElem?_eq_getElem (by omega)⟩
   obtain ⟨id,wi,hix,hi1,hi2,hgi,hpi⟩:=atL hacc3 hy
   have hdr:ys.drop j = y :: ys.drop (j + 1):=by
    obtain ⟨h1,h2⟩:=List.getElem?_eq_some_iff.1 hy
    rw [List.drop_eq_getElem_cons h1,h2]
   have hstep:foldM a ev (ys.drop j) = aheadM (foldM a ev (ys.drop (j + 1))).2.1 0 (foldM a ev (ys.drop (j + 1))).1 y:=by rw [hdr,foldM,hz]
   obtain ⟨r,hr⟩:∃ r,r = foldM a ev (ys.drop (j + 1)):=⟨_,rfl⟩
   rw [← hr] at hR3 hz hgT hstep
   have q:=q94 hR3 y (by have:=hy1 y (List.mem_of_getElem? hy); omega) r.1
   rw [← hstep] at q
   obtain ⟨t,ht⟩:∃ t,t = foldM a ev (ys.drop j):=⟨_,rfl⟩
   rw [← ht] at q
   obtain ⟨tv,htv⟩:∃ tv,tv = (if t.2.2 = 0 then t.1 else (0,0)):=⟨_,rfl⟩
   rw [← htv] at q
   have nT:T ≠ m3.next:=by omega
   have nI:id ≠ m3.next:=by omega
   refine Aax (by kernel_rfl) ?_
   simp [e0,e6,e10,e11,hix,hgi,hpi,hgT,Aaa]
   refine Aae q ?_
   rintro _ m5 ⟨rfl,hup⟩
   obtain ⟨X2,hR5,kc2,hX2⟩:=hup.out
   have n5:=kc2.next
   have n2':=k2.next
   have keep:∀ i,m.next ≤ i → i < M2.next → ¬ X1 i:=fun i h1 h2 h => by
    rcases (hX1 i h).1 with h | h <;> omega
   have g5:=(kc2.get T (by omega) (keep _ (by omega) (by omega))).trans hgT
   have gI5:=(kc2.get id (by omega) (keep _ (by omega) (by have:=hown j y hy id hix; omega))).trans hgi
   have b5:=(kc2.get m.next (by omega) (keep _ (by omega) (by omega))).trans b3
   have nT5:T ≠ m5.next:=by omega
   have nI5:id ≠ m5.next:=by omega
   have n05:m.next ≠ m5.next:=by omega
   simp [g5,nT5]
   refine Abh (l:=[(4,10),(5,10)]) (by kernel_rfl) (?_:List.all _ _ = true) ?_
   ·simp [metAtD,metOkD,rank,verKeptD,Region.wanted,Mem.ver,g5,gI5,nT5,nI5,hgT,hgi,nT,nI]
   have hX2':∀ i,X2 i → ((X i ∧ i < m.next) ∨ M2.next ≤ i) ∧ i < m5.next:=fun i h => ⟨(hX2 i h).1.elim (fun h => (hX1 i h).1) fun h => .inr (by omega),(hX2 i h).2⟩
   have kc5:KpC (fun i => (X i ∧ i < m.next) ∨ i = T) M2 m5:=KpC.cut ((kc.mono fun i h => .inl h).trans (kc2.mono fun i h => (hX1 i h).1.imp .inl fun h => h))
   obtain ⟨M6,hM6⟩:∃ M6,M6 = (m5.new [int 0,int 0] false).set m5.next [int tv.1,int tv.2]:=⟨_,rfl⟩
   have k6:Kp m5 M6:=by rw [hM6]; exact (Kp.new _ _ _).set (Nat.le_refl _) _
   have n6:M6.next = m5.next + 1:=by rw [hM6]; simp
   have g6:∃ w,M6.get m5.next = some (.cells [int tv.1,int tv.2] false w):=⟨_,by rw [hM6]; simp; rfl⟩
   obtain ⟨w6,g6⟩:=g6
   have gT6:=(k6.get T (by omega)).trans g5
   have b6:=(k6.get m.next (by omega)).trans b5
   rw [← hM6]
   clear hM6
   by_cases hbad:t.2.2 = 0
   ·rw [if_pos hbad] at htv
    have wj:IntKind.i64.wrap ((j:Int) - 1) = (j:Int) - 1:=IntWalk.i64_in _ (by omega)
    simp [hbad,g6,gT6,e10,e11,wj]
    refine hn j _ _ (by omega) ⟨by omega,by simp,X2,?_,?_,fun i h => ⟨(hX2' i h).1,by have:=(hX2' i h).2; simp; omega⟩,(kc5.trans (KpC.of (.of k6))).trans ((Aap _ _ _).mono fun i h => .inr h),M6.clock + 1,?_⟩
    ·rw [← ht]
     refine (hR5.kp k6).kc (Aap _ _ _) fun i h q => ?_
     have q:i = T:=q
     have:=(hX2' i h).1
     omega
    ·rw [← ht]; exact hbad
    ·rw [← ht,htv]; simp
   ·rw [if_neg hbad] at htv
    have hall:res.2 = (t.2.1,t.2.2):=by
     have:=Amq (a:=a) (e:=ev) (xs:=ys.drop j) (by rw [← ht]; exact hbad) (ys.take j)
     rw [List.take_append_drop,← hre,← ht] at this
     exact this
    simp [hbad,Aan,e4,b6]
    refine he _ _ _ (by simp) ?_
    simp
    refine fin _ _ (0,0) (by simp [e4]) (by simp [hall]) ⟨_,by simp; rfl⟩ (by rw [hall]; exact if_neg hbad) ?_
    rw [hall]
    exact urs _ (hR5.kp k6) (fun i h => ⟨(hX2' i h).1,by have:=(hX2' i h).2; omega⟩) (kc5.trans (KpC.of (.of k6)))
  ·have hj0:j = 0:=by have:=of_decide_eq_false h; omega
   subst hj0
   simp
   refine he _ _ _ (by simp) ?_
   rw [List.drop_zero,← hre] at hz hgT hR3
   simp [e10,e4,hgT,b3]
   refine fin _ _ res.1 (by simp [e4]) (by simp [hz]) ⟨_,by simp; rfl⟩ (if_pos hz) ?_
   exact urs _ hR3 hX1 kc
end
theorem Ax6 {a:ArM} {c:CeM} (h:(allocC a 0 c).2.2 ≠ 0):(allocC a 0 c).1 = (0,0):=by
 unfold allocC at h ⊢
 rw [if_neg (by simp)] at h ⊢
 split
 ·rfl
 ·rename_i h1
  rw [if_neg h1] at h
  exact absurd rfl h
theorem Afy (a:ArM) (c:CeM):(if (allocC a 0 c).2.2 = 0 then (allocC a 0 c).1 else (0,0)) = (allocC a 0 c).1:=by
 split
 ·rfl
 ·rename_i h; exact (Ax6 h).symm
section
variable {X:Nat → Prop} {R:Nat} {a:ArM} {m:Mem}
theorem Ake (h:Rf X R a m) (hp:Pairs a) {w:Val} (hg:goodM a w = true) (hk:(getM a w).1.k = 1):∃ (p C D u1 u2 u3:Nat) (ns:AV) (F:List AV),w = (7,(p:Int)) ∧ C < m.next ∧ D < m.next ∧ m.get R = some (.cells [int a.room,.sl C 0 a.cells.length 4 true none,ns] false u1) ∧ aindexAddr Tryz.prog 74 (.sl C 0 a.cells.length 4 true none) (int p) = some (.ptr C (p * 4)) ∧ m.get C = some (.cells F false u2) ∧ F[p * 4 + 2]? = some (.sl D 0 2 2 true none) ∧ m.get D = some (.cells [int (carM a w).1,int (carM a w).2,int (cdrM a w).1,int (cdrM a w).2] false u3) ∧ aindexAddr Tryz.prog 66 (.sl D 0 2 2 true none) (int 0) = some (.ptr D 0) ∧ aindexAddr Tryz.prog 66 (.sl D 0 2 2 true none) (int 1) = some (.ptr D 2):=by
 have h7:w.1 = 7:=by
  by_cases h7:w.1 = 7
  ·exact h7
  ·rw [An9 h7] at hk; cases hk
 obtain ⟨p,c,ew,hpx,hc,hget⟩:=Aew h7 hg
 have ea:=hp.get hk
 rw [hget] at ea
 obtain ⟨t,ls,ns,xs,h,hx⟩:=h
 obtain ⟨C,vc,x,rfl,hC,htC,hgC,hxi,hzi,hrA,hrS⟩:=h.at hc
 obtain ⟨wv,hv⟩:=h.get
 have hpl:=(List.getElem?_eq_some_iff.1 hc).1
 have hix:=Aaj (P:=Tryz.prog) (q:=.i64) (ag:=true) (c:=none) (id:=C) (off:=0) (len:=a.cells.length) (i:=p) Tryz.underlying74 Ab1 hpl
 have px:=h.part (q:=2) hzi rfl
 obtain ⟨ee,_⟩ | ⟨_,D,vD,ex,hD,htD,hgD⟩:=hrA
 ·rw [ea] at ee; cases ee
 rw [ex] at px
 rw [ea] at hgD px
 simp [Aay,Aa2] at hgD px
 have ix0:=Aaj (P:=Tryz.prog) (q:=.i64) (ag:=true) (c:=none) (id:=D) (off:=0) (len:=2) (i:=0) Tryz.underlying66 Abf (by omega)
 have ix1:=Aaj (P:=Tryz.prog) (q:=.i64) (ag:=true) (c:=none) (id:=D) (off:=0) (len:=2) (i:=1) Tryz.underlying66 Abf (by omega)
 simp at hix ix0 ix1
 exact ⟨p,C,D,wv,vc,vD,ns,_,ew,hC,hD,hv,hix,hgC,px,hgD,ix0,ix1⟩
theorem Aym (hR:Rf X R a m) (k:Int) (l:List Val) (h1:l.length < 2 ^ 21):wph Tryz.prog ca (.func 92) [.ptr R 0,.agg [int k,int 0,.lst (vals l),.emp 0]] m fun v m' => v = .tup [valA (allocC a 0 ⟨k,0,l,[]⟩).1,int (allocC a 0 ⟨k,0,l,[]⟩).2.2] ∧ Ur X R (allocC a 0 ⟨k,0,l,[]⟩).2.1 m m' :=
 Acz Tryz.func92 rfl rfl rfl (args:=[.ptr R 0,ceA ⟨k,0,l,[]⟩]) (by simp [fzvs,fzv,fzs,fz1,ceA]) (by simp [fzvs]) (q92 hR ⟨k,0,l,[]⟩ h1 (by simp))
theorem goodAt {a:ArM} {n:Int} {l:List Val} (hc:Called a n l) {i:Nat} (h:i < l.length):goodM a (argV l i) = true:=hc.good (Aaq h)
set_option maxRecDepth 20000 in
theorem q52 {n:Int} {l:List Val} (hR:Rf X R a m) (hs:Small a) (hp:Pairs a) (hgs:Goods a) (hc:Called a n l) (hn:n = 15 ∨ n = 16 ∨ n = 17 ∨ n = 18 ∨ n = 19 ∨ n = 22 ∨ n = 23 ∨ n = 24 ∨ n = 25 ∨ n = 26):wph Tryz.prog ca (.func 52) [.ptr R 0,int n,.lst (vals l)] m fun v m' => v = .tup [valA (if (listsR a n l).2.2 = 0 then (listsR a n l).1 else (0,0)),int (listsR a n l).2.2] ∧ Ur X R (listsR a n l).2.1 m m':=by
 have hll:=hc.ll
 have hRlt:=hR.lt
 have at0:1 ≤ l.length → aindexAddr Tryz.prog 66 (.lst (vals l)) (int 0) = some ((valA (argV l 0)).cptr 0):=fun h => Aak (i:=0) (Aaq h)
 have at1:2 ≤ l.length → aindexAddr Tryz.prog 66 (.lst (vals l)) (int 1) = some ((valA (argV l 1)).cptr 0):=fun h => Aak (i:=1) (Aaq h)
 have gd0:1 ≤ l.length → goodM a (argV l 0) = true:=fun h => goodAt hc h
 have gd1:2 ≤ l.length → goodM a (argV l 1) = true:=fun h => goodAt hc h
 have pair:1 ≤ l.length → 16 ≤ n ∧ n ≤ 19 → (getM a (argV l 0)).1.k = 1:=fun h1 hn => by
  obtain ⟨p,c,_,_,h3,h4,_⟩:=Ab5 hp hc h1 hn
  rw [h3]
  exact h4
 have l16:n = 16 → l.length = 1:=by rintro rfl; exact hc.c16
 have l17:n = 17 → l.length = 1:=by rintro rfl; exact hc.c17
 have l18:n = 18 → l.length = 2:=by rintro rfl; exact hc.c18
 have l19:n = 19 → l.length = 2:=by rintro rfl; exact hc.c19
 have l23:n = 23 → l.length = 1:=by rintro rfl; exact hc.c23
 have l25:n = 25 → l.length = 1:=by rintro rfl; exact hc.c25
 have l26:n = 26 → l.length = 2:=by rintro rfl; exact hc.c26
 have gdl:∀ v ∈ l,goodM a v = true:=fun v hv => by
  obtain ⟨i,hi⟩:=List.mem_iff_getElem?.1 hv
  exact hc.good hi
 refine Aas Tryz.func52 rfl rfl (by simp [Tryz.f52]) (by simp [Tryz.f52]) fun Q hQ => ?_
 simp only [Tryz.f52,show ca.keepRes 52 = false from rfl,show ca.keepArgs 52 = false from rfl] at hQ ⊢
 obtain ⟨res,hres⟩:∃ res,res = listsR a n l:=⟨_,rfl⟩
 rw [← hres] at hQ
 obtain ⟨M1,hM1⟩:∃ M1,M1 = m.new [int 0,int 0] false:=⟨_,rfl⟩
 have k1:Kp m M1:=by rw [hM1]; simp
 have n1:M1.next = m.next + 1:=by rw [hM1]; simp
 have b1:M1.get m.next = some (.cells [int 0,int 0] false (m.clock + 1)):=by rw [hM1]; simp
 have hR1:=hR.cut.kp k1
 have n0:R ≠ m.next:=by omega
 have fin:∀ (s7:Sl) (m7:Mem) (v:Val),s7.at 6 = .ptr m.next 0 → s7.at 7 = int res.2.2 → (∃ w,m7.get m.next = some (.cells [int v.1,int v.2] false w)) → (if res.2.2 = 0 then res.1 else (0,0)) = v → Ur X R res.2.1 m m7 → Q .ret s7 m7:=by
  intro s7 m7 v h4 h5 ⟨w,hg⟩ ev hu
  refine hQ _ _ _ ?_
  rw [Aaf]
  refine ⟨[valA v,int res.2.2],by simp [aresult,h4,h5,hg,aload,partOf,Aaa],?_⟩
  rw [ev]
  simp [oneOf]
  exact hu
 have box:∀ {b:ArM} {m5:Mem} (cs:List AV),Ur (fun j => X j ∧ j < m.next) R b M1 m5 → Ur X R b m (m5.set m.next cs):=fun cs hu => (Ur.box k1 (fun j h => h.2) hu (by omega) (by omega) cs).less
 have got:∀ {b:ArM} {m5:Mem},Ur (fun j => X j ∧ j < m.next) R b M1 m5 → m5.get m.next = some (.cells [int 0,int 0] false (m.clock + 1)):=fun {b m5} hu => by
  obtain ⟨X',_,kc5,_⟩:=hu
  exact (kc5.get m.next (by omega) (fun h => by have:=h.2; omega)).trans b1
 have same:∀ {m5:Mem} (cs:List AV),Kp M1 m5 → Ur X R a m (m5.set m.next cs):=fun cs k => .kp hR ((k1.trans k).set (Nat.le_refl _) _)
 have e16:(16:Int) ≤ n ∧ n ≤ 19 ↔ n = 16 ∨ n = 17 ∨ n = 18 ∨ n = 19:=by omega
 unfold listsR at hres
 by_cases h15:n = 15
 ·rw [if_pos h15] at hres
  simp [h15,abuild,placesOf,fillAt]
  rw [← hM1]
  refine Aae (Aym hR1 1 l (by omega)) ?_
  rintro _ m5 ⟨rfl,hu⟩
  rw [← hres] at hu ⊢
  simp [got hu,Aaa]
  exact fin _ _ res.1 (by simp) (by simp) ⟨_,by simp; rfl⟩ (by rw [hres]; exact Afy _ _) (box _ hu)
 rw [if_neg h15] at hres
 by_cases h16:n = 16
 ·rw [if_pos h16] at hres
  have hl:=l16 h16
  obtain ⟨p,C,D,u1,u2,u3,ns,F,ew,hC,hD,hgR,hix,hgC,hF,hgD,ix0,ix1⟩:=Ake hR hp (gd0 (by omega)) (pair (by omega) (by omega))
  have nC:C ≠ m.next:=by omega
  have nD:D ≠ m.next:=by omega
  have ew2:(argV l 0).2 = (p:Int):=by rw [ew]
  simp [h16]
  refine Aah (by kernel_rfl) (by kernel_rfl) ?_
  simp [n0,hgR,at0 (by omega),ew2,hix,nC,hgC,hF,nD,hgD,ix0]
  rw [← hM1]
  exact fin _ _ (carM a (argV l 0)) (by simp) (by simp [hres]) ⟨_,by simp; rfl⟩ (by simp [hres]) (by rw [hres]; exact same _ (.refl _))
 rw [if_neg h16] at hres
 by_cases h17:n = 17
 ·rw [if_pos h17] at hres
  have hl:=l17 h17
  obtain ⟨p,C,D,u1,u2,u3,ns,F,ew,hC,hD,hgR,hix,hgC,hF,hgD,ix0,ix1⟩:=Ake hR hp (gd0 (by omega)) (pair (by omega) (by omega))
  have nC:C ≠ m.next:=by omega
  have nD:D ≠ m.next:=by omega
  have ew2:(argV l 0).2 = (p:Int):=by rw [ew]
  simp [h16,h17]
  refine Aah (by kernel_rfl) (by kernel_rfl) ?_
  simp [n0,hgR,at0 (by omega),ew2,hix,nC,hgC,hF,nD,hgD,ix1]
  rw [← hM1]
  exact fin _ _ (cdrM a (argV l 0)) (by simp) (by simp [hres]) ⟨_,by simp; rfl⟩ (by simp [hres]) (by rw [hres]; exact same _ (.refl _))
 rw [if_neg h17] at hres
 by_cases h18:n = 18
 ·rw [if_pos h18] at hres
  have hl:=l18 h18
  obtain ⟨p,c,e1,e2,e3,e4,e5⟩:=Ab5 hp hc (by omega) (by omega)
  have q:=q93 hR1 hs e2 (.inl e4) (i:=0) (by rw [e5]; simp) (gd1 (by omega))
  rw [← e1] at q
  rw [e3,e1] at hres
  simp [h16,h17,h18]
  refine Aah (by kernel_rfl) (by kernel_rfl) ?_
  simp [at0 (by omega),at1 (by omega),Aaa]
  rw [← hM1]
  refine Aae q ?_
  rintro _ m5 ⟨rfl,hu⟩
  simp [(q49 false).go,got hu,Aaa,truV]
  refine fin _ _ (2,0) (by simp) (by simp [hres]) ⟨_,by simp; rfl⟩ (by simp [hres]) ?_
  rw [hres]
  simpa using box _ hu
 rw [if_neg h18] at hres
 by_cases h19:n = 19
 ·rw [if_pos h19] at hres
  have hl:=l19 h19
  obtain ⟨p,c,e1,e2,e3,e4,e5⟩:=Ab5 hp hc (by omega) (by omega)
  have q:=q93 hR1 hs e2 (.inl e4) (i:=1) (by rw [e5]; simp) (gd1 (by omega))
  rw [← e1] at q
  rw [e3,e1] at hres
  simp [h16,h17,h18,h19]
  refine Aah (by kernel_rfl) (by kernel_rfl) ?_
  simp [at0 (by omega),at1 (by omega),Aaa]
  rw [← hM1]
  refine Aae q ?_
  rintro _ m5 ⟨rfl,hu⟩
  simp [(q49 false).go,got hu,Aaa,truV]
  refine fin _ _ (2,0) (by simp) (by simp [hres]) ⟨_,by simp; rfl⟩ (by simp [hres]) ?_
  rw [hres]
  simpa using box _ hu
 rw [if_neg h19] at hres
 by_cases h22:n = 22
 ·rw [if_pos h22] at hres
  have q:=q94 hR1 l (by omega) (4,0)
  rw [← hres] at q
  simp [h16,h17,h18,h19,h22,abuild,placesOf,fillAt]
  rw [← hM1]
  refine Aae q ?_
  rintro _ m5 ⟨rfl,hu⟩
  simp [got hu,Aaa]
  exact fin _ _ (if res.2.2 = 0 then res.1 else (0,0)) (by simp) (by simp) ⟨_,by simp; rfl⟩ rfl (box _ hu)
 rw [if_neg h22] at hres
 by_cases h23:n = 23
 ·rw [if_pos h23] at hres
  have hl:=l23 h23
  have q:=q95 hR1 hp hgs (gd0 (by omega))
  simp [h16,h17,h18,h19,h22,h23,at0 (by omega),Aaa]
  rw [← hM1]
  by_cases hk:(listM a 1024 (argV l 0)).2 = 0
  ·simp [q.go,hk,(q96 _).go,b1,Aaa,Aat Tryz.underlying66]
   exact fin _ _ (1,((listM a 1024 (argV l 0)).1.length:Int)) (by simp) (by simp [hres,hk]) ⟨_,by simp; rfl⟩ (by simp [hres,hk]) (by rw [hres]; exact same _ (.refl _))
  ·simp [q.go,hk,b1,Aan]
   exact fin _ _ (0,0) (by simp) (by simp [hres]) ⟨_,by simp; rfl⟩ (by simp [hres,hk]) (by rw [hres]; exact same _ (.refl _))
 rw [if_neg h23] at hres
 by_cases h25:n = 25
 ·rw [if_pos h25] at hres
  have hl:=l25 h25
  have q:=q95 hR1 hp hgs (gd0 (by omega))
  obtain ⟨r,hr⟩:∃ r,r = listM a 1024 (argV l 0):=⟨_,rfl⟩
  have hrl:r.1.length ≤ 1024:=by rw [hr]; exact Afm a 1024 _
  rw [← hr] at q hres
  simp [h16,h17,h18,h19,h22,h23,h25,at0 (by omega),Aaa]
  rw [← hM1]
  by_cases hk:r.2 = 0
  rotate_left
  ·simp [q.go,hk,b1,Aan]
   have hq:=Ak3 a hk (4,0) r.1.reverse
   rw [← hres] at hq
   exact fin _ _ (0,0) (by simp) (by simp [hq]) ⟨_,by simp; rfl⟩ (by simp [hq,hk]) (by rw [hq]; exact same _ (.refl _))
  have wl:IntKind.i64.wrap ((r.1.length:Int) - 1) = (r.1.length:Int) - 1:=IntWalk.i64_in _ (by omega)
  simp [q.go,hk,Aat Tryz.underlying66,wl]
  rw [hk] at hres
  refine Ab7 (fun j s' m' => j ≤ r.1.length ∧ s'.at 13 = int ((j:Int) - 1) ∧ Kp M1 m' ∧ Acc M1 m' 2 true (vals (r.1.drop j).reverse) (s'.at 12)) r.1.length ⟨Nat.le_refl _,by simp,.refl _,?_⟩ ?_
  ·rw [List.drop_length]
   exact .inl ⟨rfl,by simp⟩
  rintro j s' m' ⟨hj,e13,kp,hacc⟩ hsame Q' hn he
  have d0:s'.at 0 = .ptr R 0:=(hsame 0 (by kernel_rfl)).trans (by simp)
  have d6:s'.at 6 = .ptr m.next 0:=(hsame 6 (by kernel_rfl)).trans (by simp)
  have d10:s'.at 10 = .lst (vals r.1):=(hsame 10 (by kernel_rfl)).trans (by simp)
  clear hsame
  have n':=kp.next
  have own12:∀ j,owns (s'.at 12) j → M1.next ≤ j ∧ j < m'.next:=Aa7 hacc
  simp [e13]
  refine Aad (fun h => ?_) fun h => ?_
  ·have hj0:0 < j:=by have:=of_decide_eq_true h; omega
   obtain ⟨j,rfl⟩:∃ i,j = i + 1:=⟨j - 1,by omega⟩
   have ej:((j + 1:Nat):Int) - 1 = (j:Int):=by omega
   rw [ej] at e13
   obtain ⟨x,hx⟩:∃ x,r.1[j]? = some x:=⟨_,List.getElem?_eq_getElem (by omega)⟩
   have hix:=Aak hx
   have hdr:=Adg hx
   have wj:IntKind.i64.wrap ((j:Int) - 1) = (j:Int) - 1:=IntWalk.i64_in _ (by omega)
   have hsrc:=Abv (m:=m'.new (valA x).cells false) (id:=m'.next) (c:=some 1) (k:=2) (ag:=true) (x:=valA x) (w:=m'.clock + 1) (f:=false) rfl (by simp) (by simp) (by simp [valA])
   obtain ⟨v3,m6,p1,p2,p3,p4⟩:=Adh (T:=66) (m:=m'.new (valA x).cells false) (zs:=[valA x]) (hacc.kp (.new _ _ _)) (by simp; omega) (Aa4 _) el66 (by simp [Aao,Aba]) (by simp [fzx,fzvs]) (by simp; omega)
   have n6:=p3.next
   simp at n6
   have k6:Kp M1 m6:=Aco p3 (kp.newr _ _) fun j hj => by have:=own12 j hj; omega
   simp only [Acv] at hsrc p1
   simp [e13,d10,hix,abuildSlice,fzx,fzvs,zeros,fillAt,abuiltin,hsrc,p1,wj]
   refine hn j _ _ (by omega) ⟨by omega,by simp,k6,?_⟩
   rw [hdr,List.reverse_cons,Ab8,Aay,Aef]
   simpa using p2
  ·have hj0:j = 0:=by have:=of_decide_eq_false h; omega
   subst hj0
   simp
   refine he _ _ _ (by simp) ?_
   rw [List.drop_zero] at hacc
   obtain ⟨m4,ez,kz⟩:=Ayq (C:=R) (e:=(4,0)) hacc
   have n4:=kz.next
   have k4:Kp M1 m4:=Aco kz kp fun j hj => by have:=own12 j hj; omega
   have q4:=Acz Tryz.func94 rfl rfl rfl ez (by simp [fzvs]) (q94 (hR1.kp k4) r.1.reverse (by simp; omega) (4,0))
   rw [← hres] at q4
   simp [d0,abuild,placesOf,fillAt]
   refine Aae q4 ?_
   rintro _ m5 ⟨rfl,hu⟩
   have hu:=Ur.pre k4 hu
   simp [d6,got hu,Aaa]
   exact fin _ _ (if res.2.2 = 0 then res.1 else (0,0)) (by simp [d6]) (by simp) ⟨_,by simp; rfl⟩ rfl (box _ hu)
 rw [if_neg h25] at hres
 by_cases h26:n = 26
 ·rw [if_pos h26] at hres
  have hl:=l26 h26
  obtain ⟨V,hV⟩:∃ V,V = (argV l 1).2:=⟨_,rfl⟩
  rw [← hV] at hres
  by_cases hi0:V < 0
  ·rw [listRefM,if_pos (.inl hi0)] at hres
   simp [h16,h17,h18,h19,h22,h23,h25,h26,at1 (by omega),← hV,hi0,undefV,undef,Aan]
   rw [← hM1]
   exact fin _ _ (0,0) (by simp) (by simp [hres,failK]) ⟨_,by simp; rfl⟩ (by simp [hres,failK]) (by rw [hres]; exact same _ (.refl _))
  by_cases hi1:1024 ≤ V
  ·rw [listRefM,if_pos (.inr hi1)] at hres
   simp [h16,h17,h18,h19,h22,h23,h25,h26,at1 (by omega),← hV,hi0,hi1,Aan]
   rw [← hM1]
   exact fin _ _ (0,0) (by simp) (by simp [hres,failK]) ⟨_,by simp; rfl⟩ (by simp [hres,failK]) (by rw [hres]; exact same _ (.refl _))
  obtain ⟨N,hN⟩:∃ N:Nat,V = N:=⟨V.toNat,by omega⟩
  rw [hN] at hV hi0 hi1 hres
  have hval:res = (match refM a N (argV l 0) with | some x => (x,a,0) | none => ((0,0),a,6)):=by
   rw [hres,listRefM,if_neg (by omega)]
   simp
   cases refM a N (argV l 0) <;> rfl
  simp [h16,h17,h18,h19,h22,h23,h25,h26,at1 (by omega),at0 (by omega),← hV,hi0,hi1,Aaa]
  rw [← hM1]
  have hVN:=hV.symm
  clear hV
  have hg0:=gd0 (by omega)
  obtain ⟨v0,hv0⟩:∃ v,v = argV l 0:=⟨_,rfl⟩
  rw [← hv0] at hval hg0
  obtain ⟨M2,hM2⟩:∃ M,M = (M1.new [int 0,int 0] false).set (m.next + 1) [int v0.1,int v0.2]:=⟨_,rfl⟩
  have k2:Kp M1 M2:=by rw [hM2]; exact (Kp.new _ _ _).set (by omega) _
  have n2:M2.next = M1.next + 1:=by rw [hM2]; simp
  have gB:M2.get M1.next = some (.cells [int v0.1,int v0.2] false (M1.clock + 2)):=by rw [hM2]; simp [n1]
  rw [← hv0,← hM2]
  clear hM2
  refine Aar 15 N (fun i s' m' => Kp M1 m' ∧ M1.next < m'.next ∧ ∃ w u,m'.get M1.next = some (.cells [int w.1,int w.2] false u) ∧ goodM a w = true ∧ refM a (N - i) w = refM a N v0) (by simp) (by omega) ⟨k2,by omega,v0,_,gB,hg0,rfl⟩ ?_
  rintro i s' m' hi e15 ⟨kp,hlt,w,u,hB,hgw,href⟩ hsame hw Q' hn he
  have d0:s'.at 0 = .ptr R 0:=(hsame 0 (by kernel_rfl)).trans (by simp)
  have d2:s'.at 2 = .lst (vals l):=(hsame 2 (by kernel_rfl)).trans (by simp)
  have d6:s'.at 6 = .ptr m.next 0:=(hsame 6 (by kernel_rfl)).trans (by simp)
  have d14:s'.at 14 = .ptr M1.next 0:=(hsame 14 (by kernel_rfl)).trans (by simp [n1])
  clear hsame
  have hRm:=hR1.kp kp
  have q:=q82 hRm hgw
  have bm:=(kp.get m.next (by omega)).trans b1
  simp [d0,d14,hB,Aaa,q.go]
  by_cases hk:(getM a w).1.k = 1
  rotate_left
  ·have hno:res = ((0,0),a,6):=by
    rw [hval,← href]
    cases N - i <;> simp [refM,hk]
   simp [hk,Aan]
   refine he _ _ _ (by simp) ?_
   simp [d6,bm,Aan]
   exact fin _ _ (0,0) (by simp [d6]) (by simp [hno]) ⟨_,by simp; rfl⟩ (by simp [hno]) (by rw [hno]; exact same _ kp)
  obtain ⟨p,C,D,u1,u2,u3,ns,F,ew,hC,hD,hgR,hix,hgC,hF,hgD,ix0,ix1⟩:=Ake hRm hp hgw hk
  have ew2:w.2 = (p:Int):=by rw [ew]
  have eN:i = N ↔ (i:Int) = (N:Int):=by omega
  by_cases hiN:i = N
  ·have hiN':(i:Int) = (N:Int):=by omega
   have hyes:res = (carM a w,a,0):=by
    rw [hval,← href,hiN,Nat.sub_self,refM,if_pos hk]
   simp [hk,e15,d2,at1 (by omega),hVN,hiN']
   refine Aah (by kernel_rfl) (by kernel_rfl) ?_
   simp [d0,d14,hgR,hB,ew2,hix,hgC,hF,hgD,ix0,d6,bm]
   refine he _ _ _ (by simp) ?_
   simp
   exact fin _ _ (carM a w) (by simp [d6]) (by simp [hyes]) ⟨_,by simp; rfl⟩ (by simp [hyes]) (by rw [hyes]; exact same _ kp)
  ·have hiN':¬ (i:Int) = (N:Int):=by omega
   have hNi:N - i = N - (i + 1) + 1:=by omega
   rw [hNi,refM,if_pos hk] at href
   have gy:goodM a (cdrM a w) = true:=by
    obtain ⟨q1,c,_,_,hc,hget⟩:=Aew (by rw [ew]) hgw
    have ea:=hp.get hk
    rw [hget] at ea
    exact hgs c (List.mem_of_getElem? hc) _ (by rw [ea]; simp)
   simp [hk,e15,d2,at1 (by omega),hVN,hiN']
   refine Aah (by kernel_rfl) (by kernel_rfl) ?_
   simp [d0,d14,hgR,hB,ew2,hix,hgC,hF,hgD,ix1,hw,e15]
   exact hn _ _ (by omega) (by simp) ⟨kp.set (by omega) _,by simpa using hlt,cdrM a w,_,by simp; rfl,gy,href⟩
 rw [if_neg h26] at hres
 have q:=q97 hR1 hp hgs l (by omega) gdl
 rw [← hres] at q
 simp [h15,h16,h17,h18,h19,h22,h23,h25,h26]
 rw [← hM1]
 refine Aae q ?_
 rintro _ m5 ⟨rfl,hu⟩
 simp [got hu,Aaa]
 exact fin _ _ (if res.2.2 = 0 then res.1 else (0,0)) (by simp) (by simp) ⟨_,by simp; rfl⟩ rfl (box _ hu)
end
def isAM (a:ArM) (v:Val) (c:Int):Bool :=
 if c = 110 then decide (v.1 = 1) else if c = 115 then decide ((getM a v).1.k = 3) else if c = 112 then decide ((getM a v).1.k = 1) else if c = 118 then decide ((getM a v).1.k = 2) else if c = 121 then decide (v.1 = 5) else if c = 99 then decide (v.1 = 3) else true
section
variable {X:Nat → Prop} {R:Nat} {a:ArM} {m:Mem}
theorem q47 (hR:Rf X R a m) {v:Val} (hg:goodM a v = true) (c:Int):EH Tryz.prog ca (.func 47) [.ptr R 0,valA v,.sc (.int .u8 c)] m (.sc (.bool (isAM a v c))) m:=by
 have k1:Kp m (m.new [int v.1,int v.2] false):=by simp
 have q:=q82 (hR.kp k1) hg
 obtain ⟨vt,vn⟩:=v
 refine Abj Tryz.func47 rfl rfl rfl rfl (args1:=[.ptr R 0,valA (vt,vn),.sc (.int .u8 c)]) (m1:=m) (by simp) (by simp) (by simp [Tryz.f47]) (by simp [Tryz.f47]) ?_
 simp only [Tryz.f47,show ca.keepRes 47 = false from rfl]
 have hag:AV.agg [int vt,int vn] = valA (vt,vn):=rfl
 unfold isAM
 by_cases c1:c = 110
 ·simp [c1]
 by_cases c2:c = 115
 ·simp [c2,hag,q.go]
 by_cases c3:c = 112
 ·simp [c3,hag,q.go]
 by_cases c4:c = 118
 ·simp [c4,hag,q.go]
 by_cases c5:c = 121
 ·simp [c5]
 by_cases c6:c = 99
 ·simp [c6]
 ·simp [c1,c2,c3,c4,c5,c6]
theorem q48 (hR:Rf X R a m) {v:Val} (hg:goodM a v = true) {n:Int} (hn:n = 12 ∨ n = 20 ∨ n = 21 ∨ (43 ≤ n ∧ n ≤ 49)):EH Tryz.prog ca (.func 48) [.ptr R 0,int n,valA v] m (.tup [.sc (.bool (asksM a n v)),.sc (.bool true)]) m:=by
 have k1:Kp m (m.new [int v.1,int v.2] false):=by simp
 have q:=q82 (hR.kp k1) hg
 obtain ⟨vt,vn⟩:=v
 refine Abj Tryz.func48 rfl rfl rfl rfl (args1:=[.ptr R 0,int n,valA (vt,vn)]) (m1:=m) (by simp) (by simp) (by simp [Tryz.f48]) (by simp [Tryz.f48]) ?_
 simp only [Tryz.f48,show ca.keepRes 48 = false from rfl]
 have hag:AV.agg [int vt,int vn] = valA (vt,vn):=rfl
 unfold asksM
 by_cases n12:n = 12
 ·subst n12
  simp
  refine Aax (by kernel_rfl) ?_
  simp [(q49 false).go,hag,Ajb,truV]
  refine Abh (l:=[(0,1)]) (by kernel_rfl) (?_:List.all _ _ = true) ?_
  ·simp [metAtD,metOkD,rank,verKeptD,Region.wanted,Mem.ver,hag]
  simp
 by_cases n20:n = 20
 ·simp [n20,hag,q.go]
 by_cases n21:n = 21
 ·simp [n21]
 by_cases n43:n = 43
 ·simp [n43]
 by_cases n44:n = 44
 ·simp [n44,hag,q.go]
 by_cases n45:n = 45
 ·simp [n45]
 by_cases n46:n = 46
 ·simp [n46]
 by_cases n47:n = 47
 ·simp [n47]
 by_cases n49:n = 49
 ·simp [n49,hag,q.go]
 have n48:n = 48:=by omega
 subst n48
 by_cases v6:vt = 6
 ·subst v6
  have hag:AV.agg [int 6,int vn] = valA (6,vn):=rfl
  simp [hag,q.go,undefV,undef]
 ·by_cases k5:(getM a (vt,vn)).1.k = 5
  ·simp [hag,q.go,v6,k5,undefV,undef]
  ·simp [hag,q.go,v6,k5]
end
end Go.Proofs.YtnhcmcfgemoehaaGreat
namespace Go.Proofs.YtnhcmcfgemoehaaGreat
set_option maxRecDepth 4000
open Go.V
def takesT:List (List UInt8):=[[110],[110],[110],[110],[110],[110],[110],[110],[110],[110],[110],[110],[46],[46],[46],[46],[112],[112],[112,46],[112,46],[46],[46],[46],[46],[46],[46],[46,110],[46],[110,46],[118,110],[118,110,46],[118],[115],[115,110],[115],[115,110],[115],[121],[115],[110],[115],[99],[110],[46],[46],[46],[46],[46],[46],[46],[110],[110],[110],[110],[110]]
def takesS (n:Nat):List UInt8:=takesT.getD n [46]
theorem q45 {n:Int} (h0:0 ≤ n) (h:n ≤ 54):Gives Tryz.prog ca 45 [int n] (strA (takesS n.toNat)):=by
 obtain ⟨k,rfl⟩:∃ k:Nat,n = k:=⟨n.toNat,by omega⟩
 have hk:k ≤ 54:=by omega
 rw [Int.toNat_natCast]
 clear h0 h
 have hcs:k = 0 ∨ k = 1 ∨ k = 2 ∨ k = 3 ∨ k = 4 ∨ k = 5 ∨ k = 6 ∨ k = 7 ∨ k = 8 ∨ k = 9 ∨ k = 10 ∨ k = 11 ∨ k = 12 ∨ k = 13 ∨ k = 14 ∨ k = 15 ∨ k = 16 ∨ k = 17 ∨ k = 18 ∨ k = 19 ∨ k = 20 ∨ k = 21 ∨ k = 22 ∨ k = 23 ∨ k = 24 ∨ k = 25 ∨ k = 26 ∨ k = 27 ∨ k = 28 ∨ k = 29 ∨ k = 30 ∨ k = 31 ∨ k = 32 ∨ k = 33 ∨ k = 34 ∨ k = 35 ∨ k = 36 ∨ k = 37 ∨ k = 38 ∨ k = 39 ∨ k = 40 ∨ k = 41 ∨ k = 42 ∨ k = 43 ∨ k = 44 ∨ k = 45 ∨ k = 46 ∨ k = 47 ∨ k = 48 ∨ k = 49 ∨ k = 50 ∨ k = 51 ∨ k = 52 ∨ k = 53 ∨ k = 54:=by omega
 rcases hcs with rfl | rfl | rfl | rfl | rfl | rfl | rfl | rfl | rfl | rfl | rfl | rfl | rfl | rfl | rfl | rfl | rfl | rfl | rfl | rfl | rfl | rfl | rfl | rfl | rfl | rfl | rfl | rfl | rfl | rfl | rfl | rfl | rfl | rfl | rfl | rfl | rfl | rfl | rfl | rfl | rfl | rfl | rfl | rfl | rfl | rfl | rfl | rfl | rfl | rfl | rfl | rfl | rfl | rfl | rfl
 all_goals
  refine Aag Tryz.func45 rfl rfl rfl rfl (by simp) (by simp [Tryz.f45]) (by simp [Tryz.f45]) fun m => ?_
  simp [Tryz.f45,show ca.keepRes 45 = false from rfl]
  rfl
end Go.Proofs.YtnhcmcfgemoehaaGreat
