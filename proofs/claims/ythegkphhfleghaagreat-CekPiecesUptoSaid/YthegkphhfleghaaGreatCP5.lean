/- Part of a proof. -/
import Derived.Test.YthegkphhfleghaaGreatCP4
import Derived.Carry
import Derived.ChangeCalls
import Derived.OpenShut
import Derived.JoinedCond
import Derived.DataReads
set_option maxHeartbeats 64000000
set_option linter.unusedSimpArgs false
set_option linter.unusedVariables false
set_option linter.unusedSectionVars false
namespace Go.V
variable {P:Program} {cfg:Cfg}
structure ElemOf (P:Program) (T:TypeId) (k:Nat) (ag:Bool):Prop where
 ex:∃ e b z,telem P T = some e ∧ tsize P e = some k ∧ tbytes P e = some b ∧ tzero P e = some z ∧ tagg P e = some ag ∧ z.cells.length = k ∧ b ≤ 2 ^ 16 ∧ z.okc = true
 pos:0 < k
def okAll (k:Nat) (ys:List AV):Bool:=ys.all fun v => v.okc && v.cells.length == k
theorem Aci {k:Nat}:okAll k [] = true:=rfl
theorem Aan {k:Nat} {y:AV} {ys:List AV}:okAll k (y :: ys) = (y.okc && y.cells.length == k && okAll k ys):=by simp [okAll]
theorem Aav {k:Nat}:∀ {ys:List AV},okAll k ys = true → (flat ys).length = ys.length * k
 | [],_ => by simp [flat]
 | y :: ys,h => by
  rw [Aan] at h
  simp only [Bool.and_eq_true,beq_iff_eq] at h
  have:=Aav (ys:=ys) h.2
  simp only [flat,List.flatMap_cons,List.length_append,List.length_cons,h.1.2,Nat.succ_mul]
  simp only [flat] at this
  omega
theorem Aa3 {x:AV} {l:List AV}:flat (x :: l) = x.cells ++ flat l:=by simp [flat]
theorem Ak6:flat [] = []:=rfl
theorem Adl {x l:List AV}:flat (x ++ l) = flat x ++ flat l:=by simp [flat]
section
variable {T:TypeId} {k:Nat} {ag ag':Bool} {ys ys':List AV} {m m':Mem}
theorem Awt {s:AV} (h:ElemOf P T k ag) (hs:(∃ n,s = .emp n) ∨ ∃ id off len q g c,s = .sl id off len q g c):aappend P T s none (some []) m = some (s,m):=by
 obtain ⟨⟨e,b,z,h1,h2,h3,h4,h5,h6,h7,_⟩,hk⟩:=h
 unfold aappend
 simp only [h1,h2,h3,h4,h5]
 rw [if_pos ⟨hk,h6,rfl⟩]
 rcases hs with ⟨n,rfl⟩ | ⟨id,off,len,q,g,c,rfl⟩ <;> rfl
theorem Afu {n:Nat} (hn:n ≤ 1) (h:ElemOf P T k ag) (hy:ys ≠ []) (ho:okAll k ys = true) (hf:fzx P T m ys = (ys',m')) (hb:ys.length ≤ 2 ^ 26):aappend P T (.emp n) none (some ys) m = some (.sl m'.next 0 ys.length k ag none,m'.new (flat ys') false):=by
 obtain ⟨⟨e,b,z,h1,h2,h3,h4,h5,h6,h7,_⟩,hk⟩:=h
 have hlen:ys'.length = ys.length:=by rw [← Aee P T ys m,hf]
 have hm:ys.length * b ≤ 2 ^ 26 * 2 ^ 16:=Nat.mul_le_mul hb h7
 unfold aappend
 simp only [h1,h2,h3,h4,h5]
 rw [if_pos ⟨hk,h6,ho⟩]
 cases ys with
 | nil => exact absurd rfl hy
 | cons y ys =>
  simp only [hf,hlen]
  have hn':n = 0 ∨ n = 1:=by omega
  rcases hn' with rfl | rfl
  all_goals
   simp only []
   rw [if_pos ⟨by omega,by omega⟩]
theorem Afs {id len v:Nat} {cs:List AV} (h:ElemOf P T k ag) (hy:ys ≠ []) (ho:okAll k ys = true) (hf:fzx P T m ys = (ys',m')) (hg:m'.get id = some (.cells cs false v)) (hc:cs.length = len * k) (hb:len + ys.length ≤ 2 ^ 26) :
  aappend P T (.sl id 0 len k ag' none) none (some ys) m = some (.sl m'.next 0 (len + ys.length) k ag none,(m'.kill id).new (cs ++ flat ys') false):=by
 obtain ⟨⟨e,b,z,h1,h2,h3,h4,h5,h6,h7,_⟩,hk⟩:=h
 have hlen:ys'.length = ys.length:=by rw [← Aee P T ys m,hf]
 have hm:(len + ys.length) * b ≤ 2 ^ 26 * 2 ^ 16:=Nat.mul_le_mul hb h7
 unfold aappend
 simp only [h1,h2,h3,h4,h5]
 rw [if_pos ⟨hk,h6,ho⟩]
 cases ys with
 | nil => exact absurd rfl hy
 | cons y ys =>
  simp only [hf,hlen,hg]
  have hlt:¬ (0 + (len + (y :: ys).length) * k ≤ cs.length):=by
   rw [hc,Nat.zero_add,Nat.add_mul]
   have:0 < (y :: ys).length * k:=Nat.mul_pos (by simp) hk
   omega
  rw [if_pos ⟨trivial,by omega,by omega,by omega⟩,if_neg (by simp [full]),if_neg hlt,if_pos (by simp)]
  have e1:(cs.drop 0).take (len * k) = cs:=by rw [List.drop_zero,List.take_of_length_le (by omega)]
  rw [e1]
theorem Aft {id v:Nat} (h:ElemOf P T k ag) (hy:ys ≠ []) (ho:okAll k ys = true) (hf:fzx P T m ys = (ys',m')) (hg:m'.get id = some (.cells [] false v)) (hb:ys.length ≤ 2 ^ 26) :
  aappend P T (.sl id 0 0 k ag' (some 0)) none (some ys) m = some (.sl m'.next 0 ys.length k ag none,m'.new (flat ys') false):=by
 obtain ⟨⟨e,b,z,h1,h2,h3,h4,h5,h6,h7,_⟩,hk⟩:=h
 have hlen:ys'.length = ys.length:=by rw [← Aee P T ys m,hf]
 have hm:ys.length * b ≤ 2 ^ 26 * 2 ^ 16:=Nat.mul_le_mul hb h7
 unfold aappend
 simp only [h1,h2,h3,h4,h5]
 rw [if_pos ⟨hk,h6,ho⟩]
 cases ys with
 | nil => exact absurd rfl hy
 | cons y ys =>
  simp only [hf,hlen,hg,Nat.zero_add,Nat.zero_mul]
  rw [if_pos ⟨trivial,by omega,by omega,by simp⟩,if_pos (by simp [full])]
  simp
end
theorem Agp {T e:TypeId} (h:P.underlying T = some (.slice e)) {x:AV} {l:List AV}:nilTest P T (.lst (x :: l)) (.emp 0) = some false:=by simp [nilTest,h]
theorem Aej {k:Nat} {ag:Bool} (hk:(ag || k == 1) = true):∀ (ys:List AV),(∀ y ∈ ys,y.cells.length = k ∧ (if ag then AV.agg y.cells = y else y.cells = [y])) → chunk k ag ys.length (flat ys) = ys
 | [],_ => rfl
 | y :: ys,h => by
  obtain ⟨h1,h2⟩:=h y (by simp)
  have ih:=Aej hk ys fun y hy => h y (by simp [hy])
  simp only [List.length_cons,chunk,Aa3]
  have e1:(y.cells ++ flat ys).drop k = flat ys:=by rw [← h1]; simp
  rw [e1,ih]
  congr 1
  cases ag with
  | true =>
   simp only [if_true] at h2 ⊢
   rw [← h1]
   simp [h2]
  | false =>
   simp only [Bool.false_eq_true,if_false] at h2 ⊢
   rw [h2]
   rfl
theorem Aeu {m:Mem} {id k:Nat} {ag:Bool} {cap:Option Nat} {ys:List AV} {v:Nat} {f:Bool} (hk:(ag || k == 1) = true) (hg:m.get id = some (.cells (flat ys) f v)) (hy:∀ y ∈ ys,y.cells.length = k ∧ (if ag then AV.agg y.cells = y else y.cells = [y])) (ho:okAll k ys = true) :
  fz1 m (.sl id 0 ys.length k ag cap) = (.lst ys,m.mark id (flat ys) v):=by
 simp only [fz1,hg]
 rw [if_pos ⟨by rw [Aav ho]; omega,hk⟩,List.drop_zero,Aej hk ys hy]
theorem Am6 {f:FuncId} {m:Mem} {ys:List AV} (hk:cfg.hook f = some (cloneP P f)) (hb:AV.bels m.next ys = true) (h:∀ x l,ys = x :: l → ∃ m',EH P cf0 (.func f) [.lst ys] m (.lst ys) m' ∧ Kp m m' ∨ ∃ k ag id v,EH P cf0 (.func f) [.lst ys] m (.sl id 0 ys.length k ag none) m' ∧ Kp m m' ∧ m.next ≤ id ∧ m'.get id = some (.cells (flat ys) false v) ∧ (ag || k == 1) = true ∧ (∀ y ∈ ys,y.cells.length = k ∧ (if ag then AV.agg y.cells = y else y.cells = [y])) ∧ okAll k ys = true) :
  EH P cfg (.func f) [.lst ys] m (.lst ys) m:=by
 refine Abh hk ?_
 have hz:fzvs m [.lst ys] = ([.lst ys],m):=rfl
 unfold cloneP
 rw [hz]
 have fin:∀ m',Kp m m' → gcw 1 m (.lst ys,m') = some (.lst ys,m):=by
  intro m' hk
  simp only [gcw]
  rw [if_pos]
  simp only [sameX,Bool.and_eq_true,List.all_eq_true,List.mem_range]
  exact ⟨⟨by simpa [AV.bel] using hb,fun id hi => by rw [hk.get id hi]; exact Aji _⟩,fun id hi => by rw [(hk.x id hi).1,(hk.x id hi).2]; exact ⟨Ajk _,Ajj _⟩⟩
 cases ys with
 | nil =>
  have:cloneL P f [.lst []] m = some (.emp 1,m.skip):=rfl
  rw [this]
  exact fin _ (by unfold Mem.skip; exact (Kp.new _ _ _).kill (Nat.le_refl _))
 | cons x l =>
  obtain ⟨m',h1⟩:=h x l rfl
  have e1:cloneL P f [.lst (x :: l)] m = lim P cf0 (.func f) [.lst (x :: l)] m:=rfl
  rcases h1 with ⟨h1,h2⟩ | ⟨k,ag,id,v,h1,h2,h3,h4,h5,h6,h7⟩
  ·rw [e1,Afh h1]
   exact fin _ h2
  ·rw [e1,Afh h1]
   simp only [A14]
   rw [Aeu h5 h4 h6 h7]
   exact fin _ (h2.mark h3 _ _)
theorem Mem.clock_new {m:Mem} {cs:List AV} {f:Bool}:(m.new cs f).clock = m.clock + 1:=Eq.trans rfl rfl
theorem Mem.clock_set {m:Mem} {id:Nat} {cs:List AV}:(m.set id cs).clock = m.clock + 1:=Eq.trans rfl rfl
theorem Mem.clock_kill {m:Mem} {id:Nat}:(m.kill id).clock = m.clock:=Eq.trans rfl rfl
attribute [simp] Mem.clock_new Mem.clock_set Mem.clock_kill
theorem Af1 {m:Mem} {id k w:Nat} {ag f:Bool} {c:Option Nat} {x:AV} (hk:(ag || k == 1) = true) (hg:m.get id = some (.cells x.cells f w)) (h:x.cells.length = k) (hx:if ag then AV.agg x.cells = x else x.cells = [x]):srcOf m (.sl id 0 1 k ag c) = some [x]:=by
 simp only [srcOf,elemsOf,hg]
 rw [if_pos ⟨by omega,hk⟩]
 simp only [chunk,List.drop_zero]
 cases ag with
 | true => simp only [if_true] at hx ⊢; rw [← h]; simp [hx]
 | false => simp only [Bool.false_eq_true,if_false] at hx ⊢; rw [hx]; rfl
def Acc (m m':Mem) (k:Nat) (ag:Bool) (ys:List AV) (v:AV):Prop:=(ys = [] ∧ v = .emp 0) ∨ (ys ≠ [] ∧ ∃ id w,v = .sl id 0 ys.length k ag none ∧ m.next ≤ id ∧ id < m'.next ∧ m'.get id = some (.cells (flat ys) false w))
theorem Acc.nil {m m':Mem} {k:Nat} {ag:Bool}:Acc m m' k ag [] (.emp 0):=.inl ⟨rfl,rfl⟩
theorem Acc.kp {m m' m2:Mem} {k:Nat} {ag:Bool} {ys:List AV} {v:AV} (h:Acc m m' k ag ys v) (hk:Kp m' m2):Acc m m2 k ag ys v:=by
 rcases h with h | ⟨h,id,w,h1,h2,h3,h4⟩
 ·exact .inl h
 ·exact .inr ⟨h,id,w,h1,h2,Nat.lt_of_lt_of_le h3 hk.next,by rw [hk.get id h3]; exact h4⟩
theorem Acc.app {T:TypeId} {m m' m2:Mem} {k:Nat} {ag:Bool} {ys zs zs':List AV} {v:AV} (h:Acc m m' k ag ys v) (hy:okAll k ys = true) (el:ElemOf P T k ag) (hz:zs ≠ []) (ho:okAll k zs = true) (hf:fzx P T m' zs = (zs',m2)) (hm2:Kp m' m2) (hb:ys.length + zs.length ≤ 2 ^ 26) (hk:Kp m m') (hl:zs'.length = zs.length) :
  ∃ v' m3,aappend P T v none (some zs) m' = some (v',m3) ∧ Acc m m3 k ag (ys ++ zs') v' ∧ Kp m m3:=by
 have hne:zs' ≠ []:=by intro e; rw [e] at hl; cases zs with | nil => exact hz rfl | cons a b => cases hl
 rcases h with ⟨rfl,rfl⟩ | ⟨h,id,w,rfl,h2,h3,h4⟩
 ·refine ⟨_,_,Afu (by omega) el hz ho hf (by simp at hb; omega),.inr ⟨by simpa using hne,m2.next,m2.clock + 1,by simp [hl],(hk.trans hm2).next,by simp,by simp⟩,(hk.trans hm2).newr _ _⟩
 ·have h5:m2.get id = some (.cells (flat ys) false w):=by rw [hm2.get id h3]; exact h4
  refine ⟨_,_,Afs el hz ho hf h5 (Aav hy) hb,.inr ⟨by simp [h],m2.next,m2.clock + 1,by simp [hl],(hk.trans hm2).next,by simp,by simp [Adl]⟩,((hk.trans hm2).kill h2).newr _ _⟩
theorem Acc.fz {m m':Mem} {k:Nat} {ag:Bool} {ys:List AV} {v:AV} (h:Acc m m' k ag ys v) (hk:Kp m m') (ha:(ag || k == 1) = true) (hy:∀ y ∈ ys,y.cells.length = k ∧ (if ag then AV.agg y.cells = y else y.cells = [y])) (ho:okAll k ys = true):∃ m2,fz1 m' v = (.lst ys,m2) ∧ Kp m m2:=by
 rcases h with ⟨rfl,rfl⟩ | ⟨h,id,w,rfl,h2,h3,h4⟩
 ·exact ⟨m',rfl,hk⟩
 ·exact ⟨_,Aeu ha h4 hy ho,hk.mark h2 _ _⟩
theorem Acc.okc {m m':Mem} {k:Nat} {ag:Bool} {ys:List AV} {v:AV} (h:Acc m m' k ag ys v):v.okc = true ∧ v.cells = [v]:=by
 rcases h with ⟨rfl,rfl⟩ | ⟨h,id,w,rfl,h2,h3,h4⟩ <;> exact ⟨rfl,rfl⟩
theorem Acc.fzr {m m':Mem} {k:Nat} {ag:Bool} {ys:List AV} {v:AV} (h:Acc m m' k ag ys v):fzr m' v = fz1 m' v:=by
 rcases h with ⟨rfl,rfl⟩ | ⟨h,id,w,rfl,h2,h3,h4⟩ <;> rfl
theorem Aay {N:Nat} {Q:Ex → Sl → Mem → Prop} {all:Array Oper} {f:Nat × Nat → Bool} {k:List It} {s:Sl} {m:Mem} {l:List (Nat × Nat)} (h:metL all = l) (h1:l.all f = true) (h2:go P cfg N Q k s m):goM P cfg N Q ((metL all).all f) k s m:=by rw [h]; exact ⟨h1,h2⟩
theorem Ao7 {s:Sl} {m:Mem}:aresult P s m [] = some []:=Eq.trans rfl rfl
theorem Ao6 {s:Sl} {m:Mem} {t:Nat} {r:List ResultVar}:aresult P s m (.tmp t :: r) = (aresult P s m r).map (s.at t :: ·):=Eq.trans rfl rfl
theorem Anf {s:Sl} {m:Mem} {t:Nat} {T:TypeId} {r:List ResultVar}:aresult P s m (.cell t T :: r) = (aload P T (s.at t) m).bind fun v => (aresult P s m r).map (v :: ·):=by
 simp only [aresult]
 cases aload P T (s.at t) m <;> cases aresult P s m r <;> rfl
theorem Arv {t:Nat} {T:TypeId} {r:List ResultVar} {K:AV → Mem → Prop} {s:Sl} {m:Mem}:leave P false (.cell t T :: r) K .ret s m = ∃ vs,aresult P s m (.cell t T :: r) = some vs ∧ K (fzr m (oneOf vs)).1 (fzr m (oneOf vs)).2:=by simp [leave]
theorem Aj0 {K:AV → Mem → Prop} {s:Sl} {m:Mem} {e:Ex} (he:e = .normal ∨ e = .ret):leave P false [] K e s m = K (.tup []) m:=by simp [leave,aresult,oneOf,fzr,fzvs,he]
theorem At9 {v:AV}:oneOf [v] = v:=Eq.trans rfl rfl
theorem At8 {v w:AV}:oneOf [v,w] = .tup [v,w]:=Eq.trans rfl rfl
attribute [simp] Ao7 Ao6 Anf Arv At9 At8
section
variable {T u R e:TypeId} {s x:AV} {m:Mem}
theorem Ann (hu:P.underlying u = some (.slice e)):abuiltin P .append #[T,u] R [s,x] m = aappend P T s none (srcOf m x) m:=by
 unfold abuiltin
 simp [hu]
theorem And {id off len k c:Nat} {ag:Bool} {cap:Option Nat} {lo hi:Option AV} {l h:Option Nat} (hu:P.underlying T = some (.slice e)) (hk:tsize P e = some k) (hl:obnd lo = some l) (hh:obnd hi = some h) (h1:l.getD 0 ≤ h.getD len) (h2:h.getD len ≤ len):aslice P T (.sl id off len k ag cap) lo hi none = some (.sl id (off + l.getD 0 * k) (h.getD len - l.getD 0) k ag (cap.map (· - l.getD 0))):=by
 simp only [aslice,aslice1,telem,hu,hl,hh,show obnd none = some none from rfl,hk]
 rw [if_pos ⟨h1,h2,trivial⟩]
theorem Ael {xs:List AV} {k:Nat} {lo hi:Option AV} {l h:Option Nat} (hu:P.underlying T = some (.slice e)) (hk:tsize P e = some k) (hl:obnd lo = some l) (hh:obnd hi = some h) (h1:l.getD 0 ≤ h.getD xs.length) (h2:h.getD xs.length ≤ xs.length) (ho:okAll k xs = true):aslice P T (.lst xs) lo hi none = some (.lst ((xs.take (h.getD xs.length)).drop (l.getD 0))):=by
 simp only [aslice,aslice1,telem,hu,hl,hh,show obnd none = some none from rfl,hk]
 have h3:(xs.all fun v => k == v.cells.length) = true:=by
  simp only [okAll,List.all_eq_true,Bool.and_eq_true,beq_iff_eq] at ho ⊢
  exact fun x hx => (ho x hx).2.symm
 rw [if_pos ⟨h1,h2,h3⟩]
theorem Ac8:obnd none = some none:=Eq.trans rfl rfl
theorem Acr {n:Nat} {q:IntKind}:obnd (some (.sc (.int q n))) = some (some n):=by simp [obnd]
end
attribute [simp] Ann Ac8 Acr
end Go.V
namespace Go.V
open Go.RowKit
variable {P:Program} {cfg:Cfg}
def G.start (W:World):G:=⟨0,fun _ => (0,0),fun _ => 0,fun _ => 0,fun b o => W.cell? ⟨b,o,none⟩,fun _ => false,fun _ => false,fun _ => none⟩
def Bs.all (W:World):Bs:=⟨W.heap.size,fun b o => W.cell? ⟨b,o,Option.none⟩⟩
theorem WR.start (W:World):WR (Bs.all W) W (G.start W) Mem.empty W :=
 ⟨.refl _ _,Nat.le_refl _,rfl,fun id o h => (by cases h),fun id cs f v h => (by cases h),fun i j hi => (by cases hi),fun b o v h => ⟨h,fun _ => h⟩,fun id L h => (by cases h),fun i j hi => (by cases hi),fun id L h => (by cases h),fun i j hi => (by cases hi),fun b h => (by cases h),fun b h => (by cases h),fun b o h => (by cases h)⟩
theorem Alh:VI Mem.empty:=⟨fun id cs f v h => (by cases h),fun id L h => (by cases h),fun id L h => (by cases h)⟩
theorem Ask {f : FuncId} {fn : Func} {c : Code} {W : World} {args : Array Value} {as : List AV} {m' : Mem} (hP : P.follows .mixedOrders = true) (hk : Hooks P (Bs.all W) W cfg) (hf : P.funcs[f]? = some fn) (hb : fn.body = some c) (hn : fn.name ≠ "runtime.NumGoroutine")
  (hr:Rels (G.start W) as args.toList) (he:EH P cfg (.func f) as Mem.empty (.sc (.bool true)) m'):Calls P f args W fun e W' => e = .returned (.bool true) ∧ Below W.heap.size W W':=by
 obtain ⟨n,hn'⟩:=he.one
 have h1:=(Ab6 hP hk n).func f _ _ _ _ hn' Alh (G.start W) W args.toList hr (.start W)
 rcases h1 with ⟨h2,h3⟩ | ⟨v',g',w',h2,h3⟩
 ·have e:args.toList.toArray = args:=by simp
  rw [e] at h3
  refine h3.mono fun e w' ⟨v',g',h4,_,h6,h7⟩ => ?_
  simp only [Rel] at h6
  subst h6
  exact ⟨h4,h7.below⟩
 ·have:=Abr (P:=P) (args:=args.toList.toArray) (w:=W) hf hb hn
  rw [h2] at this
  cases this
theorem Below.kept {W W':World} (h:Below W.heap.size W W') (may:MemPlace → Prop):W.keptBut W' may:=by
 refine ⟨h.os,h.output,fun i hi => ?_⟩
 rw [h.block i hi]
 cases W.heap[i]? with
 | none => trivial
 | some o => cases o with
  | cells c t fr => exact ⟨rfl,rfl,rfl,fun _ _ => rfl⟩
  | map es clock => exact .inr ⟨rfl,rfl⟩
  | _ => rfl
theorem Ae6 {H:Type} {enc:TypeId × Value → H} (hl:laidOutB P = true) {W W':World} (hb:Below W.heap.size W W'):∀ (ts:List TypeId),(∀ t ∈ ts,P.readableRec t = true ∧ t < P.types.size) → ∀ (vs:List Value) (ds:List (DataW H)) (ps:List MemPlace),
  DataW.TrodAll enc P W 0 (fun _ => true) true ts vs ds ps → (∀ x ∈ ps,x.block < W.heap.size) → DataW.TrodAll enc P W' 0 (fun b => decide (b < W.heap.size)) true ts vs ds ps
 | [],ht,[],[],ps,h,hp => h
 | t :: ts,ht,v :: vs,d :: ds,ps,h,hp => by
  obtain ⟨p,q,h1,h2,rfl⟩:=h
  have:=ht t (by simp)
  exact ⟨p,q,Below.trod hl this.1 this.2 h1 hb fun x hx => hp x (by simp [hx]),Ae6 hl hb ts (fun t h => ht t (by simp [h])) vs ds q h2 fun x hx => hp x (by simp [hx]),rfl⟩
 | [],ht,_ :: _,_,ps,h,hp => h.elim
 | [],ht,[],_ :: _,ps,h,hp => h.elim
 | _ :: _,ht,[],_,ps,h,hp => h.elim
 | _ :: _,ht,_ :: _,[],ps,h,hp => h.elim
theorem At2 {H:Type} {enc:TypeId × Value → H} {f:Func} {s:ChangeSpec} {W W':World} {args:Array Value} {ds gs:List (DataW H)} {before:List MemPlace}
  (hl:laidOutB P = true) (hv:s.vars = []) (hres:f.resultTypes = #[4]) (h4:P.underlying 4 = some .bool) (hp:∀ t ∈ f.params.toList,P.readableRec t = true ∧ t < P.types.size)
  (hW:DataW.Whole enc P f.params.toList s.vars false W args.toList ds gs before) (hs:∀ ds:List (DataW H),ds.length = f.params.size → s.fn H (ds ++ []) = { results:=[.lit (.bool true)],args:=ds }) (hb:Below W.heap.size W W') :
  s.post enc P f false true false false W args (.bool true) W':=by
 have hW':=hW
 obtain ⟨p,q,h1,h2,rfl,h5,_⟩:=hW
 have hlen:=(trodAll_length h1).2
 rw [hv] at h2
 obtain ⟨rfl,rfl⟩:=ChangeShapes.trodVars_none h2
 have e:=hs ds (by rw [hlen]; simp)
 have lt:∀ x ∈ p,x.block < W.heap.size:=fun x hx => hW'.lt x (by simp [hx])
 refine ⟨ds,[],p ++ [],[],p,[],hW',?_,?_,?_,Below.kept hb _,fun h => (by cases h)⟩
 ·rw [e,hres]
  exact ChangeShapes.trodAll_mk1 ⟨1,by simp [DataW.trod,h4,Value.cells]⟩
 ·rw [e]; exact Ae6 hl hb _ hp _ _ _ h1 lt
 ·rw [e,hv]; rfl
end Go.V
namespace Go.V
variable {P:Program} {H:Type} {enc:TypeId × Value → H} {W:World}
abbrev rd (enc:TypeId × Value → H) (P:Program) (W:World) (fuel:Nat) (T:TypeId) (cs:List Value):Option (DataW H × List MemPlace):=DataW.trod enc P W 0 (fun _ => true) true fuel T cs
section
variable {T:TypeId} {fuel:Nat} {cs:List Value} {d:DataW H} {ps:List MemPlace}
theorem Ajr {k:IntKind} (hu:P.underlying T = some (.int k)) (h:rd enc P W fuel T cs = some (d,ps)):∃ n,cs = [.int k n] ∧ d = .lit (.int k n) ∧ (Lit.int k n).wf = true:=by
 cases fuel with
 | zero => cases h
 | succ fuel =>
  rcases cs with _ | ⟨v,_ | ⟨w,r⟩⟩
  ·simp [rd,DataW.trod,hu] at h
  ·cases v <;> simp [rd,DataW.trod,hu] at h
   rename_i k' n
   obtain ⟨⟨rfl,hw⟩,rfl,_⟩:=h
   exact ⟨n,rfl,rfl,hw⟩
  ·simp [rd,DataW.trod,hu] at h
theorem Alz (hu:P.underlying T = some .string) (h:rd enc P W fuel T cs = some (d,ps)):∃ l:List UInt8,cs = [.string ⟨⟨l⟩⟩] ∧ d = .lit (.string l):=by
 cases fuel with
 | zero => cases h
 | succ fuel =>
  rcases cs with _ | ⟨v,_ | ⟨w,r⟩⟩
  ·simp [rd,DataW.trod,hu] at h
  ·cases v <;> simp [rd,DataW.trod,hu] at h
   rename_i s
   obtain ⟨_,rfl,_⟩:=h
   exact ⟨s.data.toList,rfl,rfl⟩
  ·simp [rd,DataW.trod,hu] at h
def LiesAt (W:World) (b o:Nat) (cs:List Value):Prop:=∀ (j:Nat) (c:Value),cs[j]? = some c → W.cell? ⟨b,o + j,none⟩ = some c
theorem Aqw {a:Addr} {n:Nat} {cs:List Value} (h:W.cells? 0 a n = some cs):cs.length = n ∧ (0 < n → a.spot = none) ∧ LiesAt W a.block a.off cs:=by
 unfold World.cells? at h
 rw [if_pos (Nat.zero_le _)] at h
 have hl:=mapM_some_length h
 have hg:=mapM_some_get h
 simp only [List.length_range] at hl
 have at_:∀ j,j < n → W.cell? (a.add j) = cs[j]?:=fun j hj => hg j j (by simp [hj])
 have spot:0 < n → a.spot = none:=by
  intro h0
  have:=at_ 0 h0
  simp only [Addr.add,if_true] at this
  rw [List.getElem?_eq_getElem (by omega)] at this
  unfold World.cell? at this
  split at this
  ·split at this
   ·cases this
   ·rename_i hs; simpa using hs
  ·cases this
 refine ⟨hl,spot,fun j c hc => ?_⟩
 have hj:j < n:=by have:=(List.getElem?_eq_some_iff.1 hc).1; omega
 have e:=at_ j hj
 rw [hc] at e
 rw [← e]
 congr 1
 unfold Addr.add
 have:=spot (by omega)
 split
 ·rename_i h0; subst h0; cases a; simp_all
 ·rfl
theorem Aya {e:TypeId} {v:Value} (hu:P.underlying T = some (.slice e)) (hk:0 < P.cellsOf e) (h:rd enc P W fuel T [v] = some (d,ps)) :
  (v = .slice none 0 0 ∧ d = .nil) ∨ ∃ (a:Addr) (len cap:Nat) (elems rest:List (DataW H × List MemPlace)),v = .slice (some a) len cap ∧ len ≤ cap ∧ d = .slice (elems.map (·.1)) (rest.map (·.1)) ∧ elems.length = len ∧
   ∀ i x,elems[i]? = some x → ∃ cs,cs.length = P.cellsOf e ∧ rd enc P W (fuel - 1) e cs = some x ∧ a.spot = none ∧ LiesAt W a.block (a.off + i * P.cellsOf e) cs:=by
 cases fuel with
 | zero => cases h
 | succ fuel =>
  cases v with
  | slice a len cap =>
   cases a with
   | none =>
    left
    match len,cap with
    | 0,0 => simp [rd,DataW.trod,hu] at h; exact ⟨rfl,h.1.symm⟩
    | 0,c + 1 => simp [rd,DataW.trod,hu] at h
    | l + 1,c => simp [rd,DataW.trod,hu] at h
   | some a =>
    right
    simp only [rd,DataW.trod,hu] at h
    split at h
    ·rename_i hc
     rw [Option.bind_eq_some_iff] at h
     obtain ⟨elems,h1,h2⟩:=h
     rw [Option.map_eq_some_iff] at h2
     obtain ⟨rest,h3,h4⟩:=h2
     cases h4
     have hl:=mapM_some_length h1
     have hg:=mapM_some_get h1
     simp only [List.length_range] at hl
     refine ⟨a,len,cap,elems,rest,rfl,hc.2.1,rfl,hl,fun i x hx => ?_⟩
     have hi:i < len:=by have:=(List.getElem?_eq_some_iff.1 hx).1; omega
     have:=hg i i (by simp [hi])
     rw [hx,Option.bind_eq_some_iff] at this
     obtain ⟨cs,h5,h6⟩:=this
     obtain ⟨h7,h8,h9⟩:=Aqw h5
     refine ⟨cs,h7,h6,?_,?_⟩
     ·have:=h8 hk
      unfold Addr.add at this
      split at this
      ·exact this
      ·-- the first one lies at the place itself
       have h0:=hg 0 0 (by rw [List.getElem?_range (by omega)])
       rw [List.getElem?_eq_getElem (by omega),Option.bind_eq_some_iff] at h0
       obtain ⟨cs0,h10,_⟩:=h0
       have:=(Aqw h10).2.1 hk
       simpa [Addr.add] using this
     ·intro j c hj
      have:=h9 j c hj
      unfold Addr.add at this
      split at this
      ·rename_i h0; rw [h0,Nat.add_zero]; exact this
      ·exact this
    ·cases h
  | _ => simp [rd,DataW.trod,hu] at h
end
theorem Aty {α:Type} {T e:TypeId} {fuel:Nat} {v:Value} {d:DataW H} {ps:List MemPlace} (hu:P.underlying T = some (.slice e)) (hk:0 < P.cellsOf e) (h:rd enc P W fuel T [v] = some (d,ps)) (toAV:α → AV) (C:DataW H → α → Prop)
  (conv:∀ cs x p,(∃ l r,d = .slice l r ∧ x ∈ l) → rd enc P W (fuel - 1) e cs = some (x,p) → cs.length = P.cellsOf e → ∃ (y:α) (u:Value),Rel (G.start W) (toAV y) u ∧ u.cells.toList = cs ∧ C x y) :
  ∃ ys:List α,Rel (G.start W) (.lst (ys.map toAV)) v ∧ ((d = .nil ∧ ys = []) ∨ ∃ l r,d = .slice l r ∧ l.length = ys.length ∧ ∀ (i:Nat) (x:DataW H) (y:α),l[i]? = some x → ys[i]? = some y → C x y):=by
 rcases Aya hu hk h with ⟨rfl,rfl⟩ | ⟨a,len,cap,elems,rest,rfl,hlc,rfl,hlen,hel⟩
 ·exact ⟨[],⟨none,0,[],0,rfl,.nil,⟨Nat.le_refl _,fun _ => rfl⟩,by simp⟩,.inl ⟨rfl,rfl⟩⟩
 ·have key:∀ n,n ≤ len → ∃ (ys:List α) (us:List Value),ys.length = n ∧ us.length = n ∧ Rels (G.start W) (ys.map toAV) us ∧ ∀ i x y u,i < n → elems[i]? = some x → ys[i]? = some y → us[i]? = some u → C x.1 y ∧ u.cells.size = P.cellsOf e ∧ a.spot = none ∧ LiesAt W a.block (a.off + i * P.cellsOf e) u.cells.toList:=by
   intro n
   induction n with
   | zero => intro _; exact ⟨[],[],rfl,rfl,.nil,by omega⟩
   | succ n ih =>
    intro hn
    obtain ⟨ys,us,h1,h2,h3,h4⟩:=ih (by omega)
    obtain ⟨x,hx⟩:∃ x,elems[n]? = some x:=⟨_,List.getElem?_eq_getElem (by omega)⟩
    obtain ⟨cs,c1,c2,c3,c4⟩:=hel n x hx
    obtain ⟨y,u,y1,y2,y3⟩:=conv cs x.1 x.2 ⟨_,_,rfl,List.mem_map.2 ⟨x,List.mem_of_getElem? hx,rfl⟩⟩ c2 c1
    refine ⟨ys ++ [y],us ++ [u],by simp [h1],by simp [h2],?_,fun i x' y' u' hi hx' hy' hu' => ?_⟩
    ·rw [List.map_append]; exact h3.append (.one y1)
    ·rcases Nat.lt_or_ge i n with hlt | hge
     ·rw [List.getElem?_append_left (by omega)] at hy' hu'
      exact h4 i x' y' u' hlt hx' hy' hu'
     ·obtain rfl:i = n:=by omega
      rw [hx] at hx'
      cases hx'
      rw [List.getElem?_append_right (by omega),h1,Nat.sub_self] at hy'
      rw [List.getElem?_append_right (by omega),h2,Nat.sub_self] at hu'
      cases hy'
      cases hu'
      exact ⟨y3,by rw [← c1,← y2]; simp,c3,by rw [y2]; exact c4⟩
  obtain ⟨ys,us,h1,h2,h3,h4⟩:=key len (Nat.le_refl _)
  have full:∀ i (u:Value),us[i]? = some u → ∃ x y,elems[i]? = some x ∧ ys[i]? = some y ∧ i < len:=by
   intro i u hu
   have hi:i < len:=by have:=(List.getElem?_eq_some_iff.1 hu).1; omega
   exact ⟨_,_,List.getElem?_eq_getElem (by omega),List.getElem?_eq_getElem (by omega),hi⟩
  refine ⟨ys,⟨some a,cap,us,P.cellsOf e,by simp [h1],h3,⟨by simp [h1]; exact hlc,fun e => by cases e⟩,fun i u hu => ?_⟩,.inr ⟨_,_,rfl,by simp [hlen,h1],fun i x y hx hy => ?_⟩⟩
  ·obtain ⟨x,y,hx,hy,hi⟩:=full i u hu
   obtain ⟨_,c1,c2,c3⟩:=h4 i x y u hi hx hy hu
   refine ⟨c1,a.block,a.off,by rw [← c2],fun j c hc => ?_⟩
   have:=c3 j c (by simpa using hc)
   exact this
  ·rw [List.getElem?_map,Option.map_eq_some_iff] at hx
   obtain ⟨x',hx,rfl⟩:=hx
   have hi:i < len:=by have:=(List.getElem?_eq_some_iff.1 hx).1; omega
   exact (h4 i x' y _ hi hx hy (List.getElem?_eq_getElem (by omega))).1
variable {P:Program} {cfg:Cfg}
section
variable {t:TypeId} {x y:Operand} {a b:Bool}
theorem Aet {α β:Type} (f:α → β) (s:Sem α):pureRun P (f <$> s) = (pureRun P s).map f:=by
 have:f <$> s = s >>= fun a => pure (f a):=rfl
 rw [this,Aag]
 cases pureRun P s <;> rfl
theorem Asd (ht:P.underlying t = some .bool):pureRun P (Op.equal t (.bool a) (.bool b)) = some (a == b):=by
 show pureRun P (Op.equalIn (9999 + 1) t (.bool a) (.bool b)) = _
 unfold Op.equalIn
 rw [Aag,Aaj ht]
 rfl
theorem Aws (ht:P.underlying t = some .bool):abin P .eql t x y (.sc (.bool a)) (.sc (.bool b)) = some (.sc (.bool (a == b))):=by
 simp only [abin,plain,eqGuard,binOp]; simp [Aet,Asd ht]
end
attribute [simp] Aws
theorem Afv {N:Nat} {all:Array Oper}:∀ (l:List Oper) (s:Sl) (m:Mem) (acc:List (Sl × Mem)) (K:Sl → Mem → Prop),wpo P cfg N all l s m K → wpt P cfg N all l s m acc fun _ s m => K s m
 | [],s,m,acc,K,h => h
 | o :: l,s,m,acc,K,h => by
  simp only [wpo] at h
  simp only [wpt]
  exact Ab2 h (fun h => Ae1 h fun v m1 h => Aco h fun s1 h => Afv l s1 m1 _ K h) (fun h => Aco h fun s1 h => Afv l s1 m _ K h)
theorem Aai {N:Nat} {Q:Ex → Sl → Mem → Prop} {id:Nat} {ops:List Oper} {k:List It} {s:Sl} {m:Mem} (h:drawOk ⟨ops⟩ = true) (h0:metL ⟨ops⟩ = []) (h2:go P cfg N Q (.opz ⟨ops⟩ ops :: k) s m):go P cfg N Q (.code (.region id ⟨ops⟩ true) :: k) s m:=by
 refine Aaz h ?_
 refine Adf _ _ _ _ _ _ (Afv ops s m [] _ h2) fun a s m h => ⟨by rw [h0]; rfl,h⟩
variable {P:Program} {cfg:Cfg}
theorem Ayl (s:Sl) (o:Oper):objOf s o = objE s o.op:=by
 unfold objOf objE
 cases o.op <;> first | rfl | (dsimp only; unfold objV; rfl)
def digs (all:Array Oper):List Oper → List (Sl × Mem) → List Dg
 | o :: l,x :: t => dgOf all x.1 x.2 o :: digs all l t
 | [],x :: t => (false,none,x.2) :: digs all [] t
 | _,[] => []
theorem Ahc (all:Array Oper):∀ (l:List Oper) (t:List (Sl × Mem)) (i:Nat),((digs all l t)[i]?).map (·.2.2) = (t[i]?).map (·.2)
 | o :: l,x :: t,0 => by simp [digs,dgOf]
 | o :: l,x :: t,i + 1 => by simp [digs,Ahc all l t i]
 | [],x :: t,0 => by simp [digs]
 | [],x :: t,i + 1 => by simp [digs,Ahc all [] t i]
 | [],[],i => by simp [digs]
 | o :: l,[],i => by simp [digs]
theorem Aos (all:Array Oper):∀ (l:List Oper) (t:List (Sl × Mem)) (i:Nat) (o:Oper),l[i]? = some o → (digs all l t)[i]? = (t[i]?).map fun x => dgOf all x.1 x.2 o
 | o :: l,x :: t,0,o',h => by simp at h; subst h; simp [digs]
 | o :: l,x :: t,i + 1,o',h => by simp at h; simp [digs,Aos all l t i o' h]
 | [],_,i,o',h => by simp at h
 | o :: l,[],i,o',h => by simp [digs]
theorem Afw {N:Nat} {all:Array Oper}:∀ (l:List Oper) (s:Sl) (m:Mem) (acc:List (Sl × Mem)) (ds:List Dg) (K:List (Sl × Mem) → Sl → Mem → Prop) (L:List Dg → Sl → Mem → Prop),(∀ t s m,L (ds ++ digs all l t) s m → K (acc ++ t) s m) → wpd P cfg N all l s m ds L → wpt P cfg N all l s m acc K
 | [],s,m,acc,ds,K,L,hk,h => by
  simp only [wpd] at h
  simp only [wpt]
  exact hk [(s,m)] s m (by simpa [digs] using h)
 | o :: l,s,m,acc,ds,K,L,hk,h => by
  simp only [wpd] at h
  simp only [wpt]
  have hk2:∀ t s' m',L ((ds ++ [dgOf all s m o]) ++ digs all l t) s' m' → K ((acc ++ [(s,m)]) ++ t) s' m':=fun t s' m' h => by
   have:=hk ((s,m) :: t) s' m' (by simpa [digs] using h)
   simpa using this
  exact Ab2 h (fun h => Ae1 h fun v m1 h => Aco h fun s1 h => Afw l s1 m1 _ _ K L hk2 h) (fun h => Aco h fun s1 h => Afw l s1 m _ _ K L hk2 h)
theorem Ars {all:Array Oper} {ms:List (Sl × Mem)} {p:Nat × Nat} (h:metAtD all (digs all all.toList ms) p = true):metAt all ms p = true:=by
 unfold metAtD at h
 unfold metAt
 split at h
 ·cases h
 rename_i hne
 rw [if_neg hne]
 split at h
 ·rename_i x y hx hy
  rw [hx,hy]
  dsimp only
  have ex:=Aos all all.toList ms p.1 x (by simpa using hx)
  have ey:=Aos all all.toList ms p.2 y (by simpa using hy)
  have ek:∀ j id,verKeptD (digs all all.toList ms) j id = verKept ms j id:=by
   intro j id
   have a:=Ahc all all.toList ms j
   have b:=Ahc all all.toList ms (j + 1)
   unfold verKeptD verKept
   revert a b
   cases (digs all all.toList ms)[j]? <;> cases (digs all all.toList ms)[j + 1]? <;> cases ms[j]? <;> cases ms[j + 1]? <;> simp
   intro a b
   rw [a,b]
  unfold metOkD at h
  rw [ex,ey] at h
  unfold metOk
  cases hi:ms[p.1]? with
  | none => rw [hi] at h; simp at h
  | some si =>
   cases hj:ms[p.2]? with
   | none => rw [hi,hj] at h; simp at h
   | some sj =>
    rw [hi,hj] at h
    simp only [Option.map_some,dgOf,ek] at h
    simp only [Ayl]
    revert h
    split
    ·intro _; rfl
    ·split
     ·cases objE si.1 x.op with
      | none => intro _; rfl
      | some id => intro h; dsimp only at h ⊢; rw [h]; rfl
     ·split
      ·cases objE sj.1 y.op with
       | none => intro _; rfl
       | some id => intro h; dsimp only at h ⊢; rw [h]; rfl
      ·exact fun h => h
 ·cases h
theorem Aau {N:Nat} {Q:Ex → Sl → Mem → Prop} {id:Nat} {ops:List Oper} {k:List It} {s:Sl} {m:Mem} (h:drawOk ⟨ops⟩ = true) (h2:go P cfg N Q (.opd ⟨ops⟩ ops [] :: k) s m):go P cfg N Q (.code (.region id ⟨ops⟩ true) :: k) s m:=by
 refine Aaz h ?_
 refine Afw ops s m [] [] _ (fun ds s m => (metL ⟨ops⟩).all (metAtD ⟨ops⟩ ds) = true ∧ goE P cfg N Q k .normal s m) (fun t s m hk => ⟨?_,hk.2⟩) h2
 have h3:=hk.1
 rw [List.all_eq_true] at h3 ⊢
 intro p hp
 exact Ars (by simpa using h3 p hp)
end Go.V
namespace Go.V
open Go.RowKit
variable {P:Program} {B:Bs} {W:World} {g:G} {m:Mem} {w:World} {cfg:Cfg}
structure ByHand (P:Program) (f:FuncId) (h:List AV → Mem → Option (AV × Mem)):Prop where
 sound:∀ B W args m v m',h args m = some (v,m') → VI m → CallOk P B W f args m v m'
 ver:∀ args m v m',h args m = some (v,m') → VM m m'
theorem Aed (h:∀ f k,cfg.hook f = some k → ByHand P f k):Hooks P B W cfg:=⟨fun f k e args m v m' => (h f k e).sound B W args m v m',fun f k e => (h f k e).ver⟩
noncomputable def limH (P:Program) (cfg:Cfg) (f:FuncId) (args:List AV) (m:Mem):Option (AV × Mem):=lim P cfg (.func f) args m
theorem Ag2 (hP:P.follows .mixedOrders = true) (h:∀ f k,cfg.hook f = some k → ByHand P f k) (f:FuncId):ByHand P f (limH P cfg f):=by
 refine ⟨fun B W args m v m' e hv => ?_,fun args m v m' e => ?_⟩
 ·obtain ⟨n,hn⟩:=(Aqh e).one
  exact (Ab6 hP (Aed h) n).func f _ _ _ _ hn hv
 ·obtain ⟨n,hn⟩:=(Aqh e).one
  exact Adr (B:=Bs.bare 0) (W:=default) (Aed h) n _ _ _ _ _ hn
def mcloneH (args:List AV) (m:Mem):Option (AV × Mem) :=
 match args with
 | [.iface t (.mp id)] => (m.map id).map fun M => (.iface t (.mp m.next),m.newMap.setMap m.next M.es M.ck)
 | _ => none
theorem Arf {f : FuncId} {fn : Func} {args : Array Value} {e : Array Value → Sem Value} {w w' : World} {v : Value} (hf : P.funcs[f]? = some fn) (hn : (fn.name == "runtime.NumGoroutine") = false) (hb : fn.body = none) (h1 : Extern.findNext fn = none) (h2 : Extern.find fn = some e)
  (hr:(e args).run P w = .ok v w'):(callFunc f args).run P w = .ok (.value v) w':=by
 have hn' : ¬ fn.name = "runtime.NumGoroutine" := by simpa using hn
 unfold callFunc
 simp [Sem.run_bind,hf,hn',hb,h1,h2,hr,Sem.run_pure]
theorem Ahm {f : FuncId} {fn : Func} (hf : P.funcs[f]? = some fn) (hn : (fn.name == "runtime.NumGoroutine") = false) (hb : fn.body = none) (h1 : Extern.findNext fn = none) (h2 : Extern.find fn = some Extern.MapsClone.clone) : ByHand P f mcloneH := by
 refine ⟨fun B W args m v m' e hv => ?_,fun args m v m' e => ?_⟩
 ·unfold mcloneH at e
  split at e
  ·rename_i t id
   simp only [Option.map_eq_some_iff,Prod.mk.injEq] at e
   obtain ⟨M,hM,rfl,rfl⟩:=e
   intro g w vals k h
   simp only [Rels,Rel] at k
   obtain ⟨x,rest,rfl,⟨u,rfl,hid,rfl⟩,rfl⟩:=k
   obtain ⟨_,_,es,h3,hE⟩:=h.x.mids id M hM
   have w1:=h.newMap
   have le:=G.le_new g w.heap.size 0 0 0
   have hmu:(g.new w.heap.size 0 0 0).mu m.next = (w.heap.size,0):=by rw [h.n]; simp [G.new]
   have hnew:m.newMap.map m.next = some ⟨[],0,m.clock + 1⟩:=by simp [Mem.newMap,Mem.map]
   have w2:=w1.setMap hnew (hE.mono le) M.ck
   rw [hmu] at w2
   have ew:(w.alloc (.map #[] 0)).putObj w.heap.size (.map es.toArray M.ck) = w.alloc (.map es.toArray M.ck):=by
    unfold World.putObj World.alloc
    congr 1
    apply Array.ext'
    simp [List.set_append]
   rw [ew] at w2
   refine .inr ⟨_,_,_,Arf (e:=Extern.MapsClone.clone) (v:=.iface t (.map (some w.heap.size))) hf hn hb h1 h2 ?_,le,⟨_,rfl,?_⟩,w2⟩
   ·show (Extern.MapsClone.clone #[.iface t (.map (some (g.mu id).1))]).run P w = _
    have e:Extern.MapsClone.clone #[.iface t (.map (some (g.mu id).1))] = (getObj (g.mu id).1 >>= fun o => match o with
     | .map entries clock => do pure (.iface t (.map (some (← newObj (.map entries clock)))))
     | _ => stuck "maps.clone: a map expected") := rfl
    rw [e]
    simp only [Sem.run_bind,Abm h3,Result.andThen_ok,run_newObj,Sem.run_pure]
    rfl
   ·rw [h.n]; exact Af5 g _
  ·cases e
 ·unfold mcloneH at e
  split at e
  ·simp only [Option.map_eq_some_iff,Prod.mk.injEq] at e
   obtain ⟨M,hM,rfl,rfl⟩:=e
   exact (VM.newMap m).trans (VM.setMap m.newMap (M:=⟨[],0,m.clock + 1⟩) (by simp [Mem.newMap,Mem.map]) _ _)
  ·cases e
def AV.out:AV → Bool
 | .sc _ => true
 | .emp k => decide (k ≤ 2)
 | .agg cs => cs.all fun c => match c with | .sc _ => true | .emp k => decide (k ≤ 2) | _ => false
 | .tup cs => cs.all fun c => match c with | .sc _ => true | .emp k => decide (k ≤ 2) | .agg ds => ds.all (fun c => match c with | .sc _ => true | .emp k => decide (k ≤ 2) | _ => false) | _ => false
 | _ => false
theorem Avm {g g':G} {n:Nat} {v:Value} (k:Rel g (.emp n) v):Rel g' (.emp n) v:=by
 match n,k with
 | 0,k => exact k
 | 1,k => exact k
 | 2,k => exact k
 | n + 3,k => exact k.elim
theorem Akq {g g':G}:∀ {cs:List AV} {vs:List Value},(cs.all fun c => match c with | .sc _ => true | .emp k => decide (k ≤ 2) | _ => false) = true → Rels g cs vs → Rels g' cs vs
 | [],vs,_,h => h
 | c :: cs,vs,h,h2 => by
  simp only [List.all_cons,Bool.and_eq_true] at h
  simp only [Rels] at h2 ⊢
  obtain ⟨u,rest,rfl,a,b⟩:=h2
  refine ⟨u,rest,rfl,?_,Akq h.2 b⟩
  cases c with
  | sc _ => exact a
  | emp k => exact Avm a
  | _ => cases h.1
theorem Al6 {g g':G}:∀ {cs:List AV} {vs:List Value},(cs.all fun c => match c with | .sc _ => true | .emp k => decide (k ≤ 2) | .agg ds => ds.all (fun c => match c with | .sc _ => true | .emp k => decide (k ≤ 2) | _ => false) | _ => false) = true → Rels g cs vs → Rels g' cs vs
 | [],vs,_,h => h
 | c :: cs,vs,h,h2 => by
  simp only [List.all_cons,Bool.and_eq_true] at h
  simp only [Rels] at h2 ⊢
  obtain ⟨u,rest,rfl,a,b⟩:=h2
  refine ⟨u,rest,rfl,?_,Al6 h.2 b⟩
  cases c with
  | sc _ => exact a
  | emp k => exact Avm a
  | agg ds =>
   simp only [Rel] at a ⊢
   obtain ⟨ws,h1,h2,h3⟩:=a
   exact ⟨ws,h1,Akq h.1 h2,h3⟩
  | _ => cases h.1
theorem AV.out_rel {g g':G} {x:AV} (h:x.out = true) {v:Value} (k:Rel g x v):Rel g' x v:=by
 cases x with
 | sc u => exact k
 | emp n =>
  match n,k with
  | 0,k => exact k
  | 1,k => exact k
  | 2,k => exact k
  | n + 3,k => exact k.elim
 | agg cs =>
  simp only [Rel] at k ⊢
  obtain ⟨vs,h1,h2,h3⟩:=k
  exact ⟨vs,h1,Akq h h2,h3⟩
 | tup cs =>
  simp only [Rel] at k ⊢
  obtain ⟨vs,h1,h2⟩:=k
  exact ⟨vs,h1,Al6 h h2⟩
 | _ => cases h
def roH (h:List AV → Mem → Option (AV × Mem)) (args:List AV) (m:Mem):Option (AV × Mem) :=
 if AV.bels 0 (fzvs m args).1 then match h (fzvs m args).1 Mem.empty with
  | some (v,_) => if v.out then some (v,m) else none
  | none => none
 else none
theorem A2h {f:FuncId} {h:List AV → Mem → Option (AV × Mem)} (t:ByHand P f h):ByHand P f (roH h):=by
 refine ⟨fun B W args m v m' e hv => ?_,fun args m v m' e => ?_⟩
 ·intro g w vals k hw
  unfold roH at e
  split at e
  ·rename_i hb
   split at e
   ·rename_i u m2 hr
    split at e
    ·rename_i ho
     cases e
     obtain ⟨g1,l1,w1,k1⟩:=Abn args hw k
     have k2:Rels (G.start w) (fzvs m args).1 vals:=by
      refine Rels.monoE (g:=g1.back 0) ⟨Nat.zero_le _,fun id hi => absurd hi (Nat.not_lt_zero _),fun id hi => absurd hi (Nat.not_lt_zero _),fun id hi => absurd hi (Nat.not_lt_zero _),fun b o v hv => (w1.fz b o v hv).1⟩ _ _ (Rels.back _ _ k1 hb)
     rcases t.sound (Bs.all w) w _ _ _ _ hr Alh (G.start w) w vals k2 (.start w) with ⟨h2,h3⟩ | ⟨v',g',w',h2,h3,h4,h5⟩
     ·refine .inl ⟨h2,h3.mono fun e w' ⟨v',g',h4,h5,h6,h7⟩ => ⟨v',g,h4,.refl g,AV.out_rel ho h6,hw.later h7.below⟩⟩
     ·exact .inr ⟨v',g,w',h2,.refl g,AV.out_rel ho h4,hw.later h5.below⟩
    ·cases e
   ·cases e
  ·cases e
 ·unfold roH at e
  split at e
  ·split at e
   ·split at e
    ·cases e; exact .refl _
    ·cases e
   ·cases e
  ·cases e
def puH (h:List AV → Mem → Option (AV × Mem)) (args:List AV) (m:Mem):Option (AV × Mem) :=
 if AV.bels 0 (fzvs m args).1 then match h (fzvs m args).1 Mem.empty with
  | some (v,_) => if v.bel 0 then some (v,(fzvs m args).2) else none
  | none => none
 else none
def G.with (g:G) (n:Nat) (F:Nat → Nat → Option Value):G:={ g with fz:=fun b o => if b < n then g.fz b o else F b o }
theorem WR.with {g g':G} {B':Bs} {m m2:Mem} {w w':World} (h:WR B W g m w) (h':WR B' w g' m2 w') (hn:B'.n = w.heap.size):g.le (g.with w.heap.size g'.fz) ∧ WR B W (g.with w.heap.size g'.fz) m w':=by
 have hb:Below w.heap.size w w':=by have:=h'.below; rw [hn] at this; exact this
 have k:=h.later hb
 have hle:g.le (g.with w.heap.size g'.fz):=by
  refine ⟨Nat.le_refl _,fun _ _ => rfl,fun _ _ => rfl,fun _ _ => rfl,fun b o v hv => ?_,fun _ q => q,fun _ q => q,fun _ _ q => q⟩
  show (if b < w.heap.size then g.fz b o else g'.fz b o) = some v
  rw [if_pos (Ad1 (h.fz b o v hv).1)]
  exact hv
 have old:∀ b o,b < w.heap.size → (g.with w.heap.size g'.fz).fz b o = g.fz b o:=fun b o hlt => by
  show (if b < w.heap.size then g.fz b o else g'.fz b o) = _
  rw [if_pos hlt]
 refine ⟨hle,⟨k.below,k.base,k.n,k.ids,fun id cs f ver hi => ?_,k.inj,fun b o v hv => ?_,k.x.step hle rfl rfl rfl rfl (fun _ _ q _ => q) rfl fun b o hp p => ⟨p.here,fun q => ?_,p.obj⟩⟩⟩
 ·refine ObjR.mono hle (k.ids id _ hi) (k.objs id cs f ver hi) fun o v hv => ?_
  rwa [old _ _ (h.block_lt hi)] at hv
 ·by_cases hlt:b < w.heap.size
  ·rw [old _ _ hlt] at hv
   exact k.fz b o v hv
  ·have hv':g'.fz b o = some v:=by
    have:(if b < w.heap.size then g.fz b o else g'.fz b o) = some v:=hv
    rwa [if_neg hlt] at this
   exact ⟨(h'.fz b o v hv').1,fun q => absurd h.base (by omega)⟩
 ·have hlt:b < w.heap.size:=h.pinned_lt hp
  rw [old _ _ hlt]
  exact p.fz q
theorem A2i {f:FuncId} {h:List AV → Mem → Option (AV × Mem)} (t:ByHand P f h):ByHand P f (puH h):=by
 refine ⟨fun B W args m v m' e hv => ?_,fun args m v m' e => ?_⟩
 ·intro g w vals k hw
  unfold puH at e
  split at e
  ·rename_i hb
   split at e
   ·rename_i u m2 hr
    split at e
    ·rename_i ho
     cases e
     obtain ⟨g1,l1,w1,k1⟩:=Abn args hw k
     let g0:G:=⟨0,fun _ => (0,0),fun _ => 0,fun _ => 0,g1.fz,fun _ => false,fun _ => false,fun _ => none⟩
     let B':Bs:=⟨w.heap.size,g1.fz⟩
     have w0:WR B' w g0 Mem.empty w :=
      ⟨.refl _ _,Nat.le_refl _,rfl,fun id o h => (by cases h),fun id cs f v h => (by cases h),fun i j hi => (by cases hi),fun b o v h => ⟨(w1.fz b o v h).1,fun _ => h⟩,fun id L h => (by cases h),fun i j hi => (by cases hi),fun id L h => (by cases h),fun i j hi => (by cases hi),fun b h => (by cases h),fun b h => (by cases h),fun b o h => (by cases h)⟩
     have k2:Rels g0 (fzvs m args).1 vals:=by
      refine Rels.monoE (g:=g1.back 0) (g':=g0) ⟨Nat.zero_le _,fun id hi => absurd hi (Nat.not_lt_zero _),fun id hi => absurd hi (Nat.not_lt_zero _),fun id hi => absurd hi (Nat.not_lt_zero _),fun b o v hv => hv⟩ _ _ (Rels.back _ _ k1 hb)
     have fin:∀ (v':Value) (g':G) (w':World),Rel g' v v' → WR B' w g' m2 w' → ∃ g2,g.le g2 ∧ Rel g2 v v' ∧ WR B W g2 (fzvs m args).2 w':=by
      intro v' g' w' r2 h5
      obtain ⟨q1,q2⟩:=w1.with h5 rfl
      refine ⟨_,l1.trans q1,?_,q2⟩
      refine Rel.monoE (g:=g'.back 0) ⟨Nat.zero_le _,fun id hi => absurd hi (Nat.not_lt_zero _),fun id hi => absurd hi (Nat.not_lt_zero _),fun id hi => absurd hi (Nat.not_lt_zero _),fun b o u hu => ?_⟩ _ _ (Rel.back _ _ r2 ho)
      show (if b < w.heap.size then g1.fz b o else g'.fz b o) = some u
      split
      ·rename_i hlt
       exact (h5.fz b o u hu).2 hlt
      ·exact hu
     rcases t.sound B' w _ _ _ _ hr Alh g0 w vals k2 w0 with ⟨h2,h3⟩ | ⟨v',g',w',h2,h3,h4,h5⟩
     ·refine .inl ⟨h2,h3.mono fun e w' ⟨v',g',h4,h5,h6,h7⟩ => ?_⟩
      obtain ⟨g2,a,b,c⟩:=fin v' g' w' h6 h7
      exact ⟨v',g2,h4,a,b,c⟩
     ·obtain ⟨g2,a,b,c⟩:=fin v' g' w' h4 h5
      exact .inr ⟨v',g2,w',h2,a,b,c⟩
    ·cases e
   ·cases e
  ·cases e
 ·unfold puH at e
  split at e
  ·split at e
   ·split at e
    ·cases e; exact VM.fzvs args m
    ·cases e
   ·cases e
  ·cases e
end Go.V
namespace Go.V
variable {P:Program} {cfg:Cfg}
section
variable {m:Mem} {i id:Nat} {cs:List AV} {f:Bool} {v:Nat} {c:LCode} {st:LoopState} {pd:Option Code}
theorem Mem.loop_newLoop:(m.newLoop c).loop i = if i = m.next then some ⟨.ready,none,c,m.clock + 1⟩ else m.loop i:=by simp [Mem.newLoop,Mem.loop]
theorem Mem.loop_setLoop:(m.setLoop id st pd c).loop i = if i = id then some ⟨st,pd,c,m.clock + 1⟩ else m.loop i:=by simp [Mem.setLoop,Mem.loop]
theorem Mem.loop_killLoop:(m.killLoop id).loop i = if i = id then none else m.loop i:=by simp [Mem.killLoop,Mem.loop]
theorem Mem.loop_new:(m.new cs f).loop i = m.loop i:=Eq.trans rfl rfl
theorem Mem.loop_set:(m.set id cs).loop i = m.loop i:=Eq.trans rfl rfl
theorem Mem.loop_mark:(m.mark id cs v).loop i = m.loop i:=Eq.trans rfl rfl
theorem Mem.loop_kill:(m.kill id).loop i = m.loop i:=Eq.trans rfl rfl
theorem Mem.get_newLoop:(m.newLoop c).get i = m.get i:=Eq.trans rfl rfl
theorem Mem.get_setLoop:(m.setLoop id st pd c).get i = m.get i:=Eq.trans rfl rfl
theorem Mem.get_killLoop:(m.killLoop id).get i = m.get i:=Eq.trans rfl rfl
theorem Mem.next_newLoop:(m.newLoop c).next = m.next + 1:=Eq.trans rfl rfl
theorem Mem.next_setLoop:(m.setLoop id st pd c).next = m.next:=Eq.trans rfl rfl
theorem Mem.next_killLoop:(m.killLoop id).next = m.next:=Eq.trans rfl rfl
theorem Mem.clock_setLoop:(m.setLoop id st pd c).clock = m.clock + 1:=Eq.trans rfl rfl
theorem Mem.clock_killLoop:(m.killLoop id).clock = m.clock:=Eq.trans rfl rfl
theorem Mem.map_newLoop:(m.newLoop c).map i = m.map i:=Eq.trans rfl rfl
theorem Mem.map_setLoop:(m.setLoop id st pd c).map i = m.map i:=Eq.trans rfl rfl
theorem Mem.map_killLoop:(m.killLoop id).map i = m.map i:=Eq.trans rfl rfl
theorem Mem.map_new:(m.new cs f).map i = m.map i:=Eq.trans rfl rfl
theorem Mem.map_set:(m.set id cs).map i = m.map i:=Eq.trans rfl rfl
theorem Mem.map_mark:(m.mark id cs v).map i = m.map i:=Eq.trans rfl rfl
theorem Mem.map_kill:(m.kill id).map i = m.map i:=Eq.trans rfl rfl
end
attribute [simp] Mem.loop_newLoop Mem.loop_setLoop Mem.loop_killLoop Mem.loop_new Mem.loop_set Mem.loop_mark Mem.loop_kill Mem.get_newLoop Mem.get_setLoop Mem.get_killLoop Mem.next_newLoop Mem.next_setLoop Mem.next_killLoop Mem.clock_setLoop Mem.clock_killLoop Mem.map_newLoop Mem.map_setLoop Mem.map_killLoop Mem.map_new Mem.map_set Mem.map_mark Mem.map_kill
theorem A3t {m:Mem} {i:Nat}:fzv m (.yl i) = (.yl i,m):=Eq.trans rfl rfl
theorem A5a {i:Nat}:AV.okc (.yl i) = true:=Eq.trans rfl rfl
theorem A00 {i:Nat}:AV.cells (.yl i) = [.yl i]:=Eq.trans rfl rfl
theorem A3v {m:Mem} {i:Nat}:fzv m (.mp i) = (.mp i,m):=Eq.trans rfl rfl
theorem A1v {i:Nat}:AV.okc (.mp i) = true:=Eq.trans rfl rfl
theorem Aqv {i:Nat}:AV.cells (.mp i) = [.mp i]:=Eq.trans rfl rfl
theorem A54 {m:Mem} {i:Nat}:fzr m (.mp i) = (.mp i,m):=Eq.trans rfl rfl
theorem A3y {m:Mem} {a b:Nat}:fzr m (.ptr a b) = (.ptr a b,m):=Eq.trans rfl rfl
theorem A55 {m:Mem} {f:Fn} {a b:List AV}:fzr m (.fn f a b) = (.fn f a b,m):=Eq.trans rfl rfl
attribute [simp] A3t A5a A00 A3v A1v Aqv A54 A3y A55
theorem Afb:pendOf .normal = none:=Eq.trans rfl rfl
theorem Arj:pendOf .ret = some .ret:=Eq.trans rfl rfl
theorem Avh:exOf none = some .normal:=Eq.trans rfl rfl
theorem A0o:exOf (some .ret) = some .ret:=Eq.trans rfl rfl
attribute [simp] Afb Arj Avh A0o
theorem Aoy {T U:TypeId} {k1 k2 q:IntKind} {n:Int} (h1:P.underlying T = some (.int k1)) (h2:P.underlying U = some (.int k2)):pureRun P (convert T U (.int q n)) = some (.int k2 (k2.wrap n)):=by
 unfold convert
 rw [Aag,Aaj h1]
 simp only [Option.bind_some]
 rw [Aag,Aaj h2]
 rfl
theorem Ank {T U:TypeId} {k1 k2 q:IntKind} {n:Int} (h1:P.underlying T = some (.int k1)) (h2:P.underlying U = some (.int k2)):aconvert P T U (.sc (.int q n)) = some (.sc (.int k2 (k2.wrap n))):=by
 unfold aconvert
 simp only [scal,Option.bind_some,Aoy h1 h2]
theorem Apf {T U e:TypeId} {l:List UInt8} (h1:P.underlying T = some .string) (h2:P.underlying U = some (.slice e)) (h3:P.underlying e = some (.int .u8)):aconvert P T U (.sc (.string ⟨⟨l⟩⟩)) = some (.lst (l.map fun b => .sc (.int .u8 b.toNat))):=by
 have:pureRun P (convert T U (.string ⟨⟨l⟩⟩)) = none:=by
  unfold convert
  rw [Aag,Aaj h1]
  simp only [Option.bind_some]
  rw [Aag,Aaj h2]
  simp only [Option.bind_some]
  rw [Aag,Aaj h3]
  rfl
 unfold aconvert
 simp only [scal,Option.bind_some,this,aconvB,h1,h2,h3]
theorem Apg {T U e:TypeId} {xs:List AV} {l:List UInt8} (h1:P.underlying T = some (.slice e)) (h2:P.underlying U = some .string) (h3:P.underlying e = some (.int .u8)) (h4:xs.mapM byteOf = some l):aconvert P T U (.lst xs) = some (.sc (.string ⟨⟨l⟩⟩)):=by
 unfold aconvert
 simp only [scal,Option.bind_none,aconvB,h1,h2,h3,bytesOf,h4]
attribute [simp] Ank Apf
theorem Asb {N:Nat} {Q:Ex → Sl → Mem → Prop} {k:List It} {s:Sl} {m:Mem}:goE P cfg N Q k .normal s m = go P cfg N Q k s m:=Eq.trans rfl rfl
attribute [simp] Asb
theorem Afj {N:Nat} {Q:Ex → Sl → Mem → Prop} {k:List It} {s:Sl} {m:Mem} {g:Operand} {ps:Array Tmp} {x y:Code} {f:FuncId} {a b:List AV} (hf:ev s g = .fn (.func f) a b) (hb:((P.funcs[f]?).bind (·.body)).isSome = true)
  (h:wph P cfg (.func f) (a ++ [.yl m.next] ++ b) (m.newLoop ⟨s,ps,x,y,N⟩) fun _ m2 => ∃ L e,m2.loop m.next = some L ∧ L.st ≠ .busy ∧ exOf L.pend = some e ∧ goE P cfg N Q k e s (m2.killLoop m.next)):go P cfg N Q (.code (.rangeFunc g ps x y) :: k) s m:=by
 show wpc P cfg N (.rangeFunc g ps x y) s m (goE P cfg N Q k)
 simp only [wpc,hf]
 exact ⟨hb,h⟩
theorem Ac4 {id:Nat} {args:List AV} {m:Mem} {K:AV → Mem → Prop} {L:ALoop} (hL:m.loop id = some L) (hl:args.length = L.c.ps.size)
  (h:go P cfg L.c.N (fun e s1 m1 => e = .normal ∧ ∃ L1,m1.loop id = some L1 ∧ L1.st = .ready ∧ go P cfg L.c.N (fun e _ m2 => ∃ L2,m2.loop id = some L2 ∧ K (.sc (.bool (pendOf e).isNone)) (m2.setLoop id (if (pendOf e).isNone then .ready else .done) (pendOf e) L2.c)) [.code L.c.body] s1 (m1.setLoop id .busy L1.pend L1.c)) [.code L.c.assign] (Sl.puts L.c.N L.c.s L.c.ps.toList args) m):wph P cfg (.yield id) args m K:=Asx hL hl h
def EvL (P:Program) (cfg:Cfg) (N:Nat) (c:Code) (s:Sl) (m:Mem) (l:List (Ex × Sl × Mem)):Prop:=Evt fun n => acodeL P (afn P cfg n) N n c s m = some l
theorem EvL.go {N:Nat} {Q:Ex → Sl → Mem → Prop} {c:Code} {s:Sl} {m:Mem} (h:go P cfg N Q [.code c] s m):∃ e s' m',EvL P cfg N c s m [(e,s',m')] ∧ Q e s' m':=by
 have h:wpc P cfg N c s m (goE P cfg N Q []):=h
 obtain ⟨e,s',m',h1,h2⟩:=Ac5 _ _ _ _ h
 refine ⟨e,s',m',h1.mono fun n hn => Ais _ _ _ _ hn,?_⟩
 cases e <;> exact h2
theorem EvL.seq1 {N:Nat} {a b:Code} {s s1:Sl} {m m1:Mem} {l:List (Ex × Sl × Mem)} (h1:EvL P cfg N a s m [(.normal,s1,m1)]) (h2:EvL P cfg N b s1 m1 l):EvL P cfg N (.seq a b) s m l :=
 h1.both h2 fun n p q => by simp only [acodeL,p]; rw [Alp]; exact q
theorem EvL.seq2 {N:Nat} {a b:Code} {s s1 s2:Sl} {m m1 m2:Mem} {r r':Ex × Sl × Mem} (h1:EvL P cfg N a s m [(.normal,s1,m1),(.normal,s2,m2)]) (h2:EvL P cfg N b s1 m1 [r]) (h3:EvL P cfg N b s2 m2 [r']):EvL P cfg N (.seq a b) s m [r,r'] :=
 (h1.and h2).both h3 fun n p q => by
  simp only [acodeL,p.1]
  simp only [thenL,p.2,q]
  rfl
theorem EvL.cond {N:Nat} {c:Operand} {x y:Code} {s:Sl} {m:Mem} {t:Bool} {l:List (Ex × Sl × Mem)} (hc:ev s c = .sc (.bool t)) (h:EvL P cfg N (if t then x else y) s m l):EvL P cfg N (.cond c x y) s m l :=
 h.mono fun n p => by
  simp only [acodeL,hc]
  cases t <;> exact p
theorem EvL.block {N id:Nat} {b:Code} {s:Sl} {m:Mem} {l:List (Ex × Sl × Mem)} (h:EvL P cfg N b s m l):EvL P cfg N (.block id b) s m (l.map (outB id)):=h.mono fun n p => by simp only [acodeL,p]; rfl
theorem Aq5 {id:Nat} {args:List AV} {m:Mem} {K:AV → Mem → Prop} {L:ALoop} (hL:m.loop id = some L) (hl:args.length = L.c.ps.size)
  (h:go P cfg L.c.N (fun e s1 m1 => e = .normal ∧ ∃ L1,m1.loop id = some L1 ∧ L1.st = .ready ∧ ∃ e2 sA mA sB mB L2,EvL P cfg L.c.N L.c.body s1 (m1.setLoop id .busy L1.pend L1.c) [(e2,sA,mA),(e2,sB,mB)] ∧ mA.next = mB.next ∧ mA.loop = mB.loop ∧ mA.map = mB.map ∧ mA.loop id = some L2 ∧
   K (.sc (.bool (pendOf e2).isNone)) ((mA.keep (agree mA mB)).setLoop id (if (pendOf e2).isNone then .ready else .done) (pendOf e2) L2.c)) [.code L.c.assign] (Sl.puts L.c.N L.c.s L.c.ps.toList args) m):wph P cfg (.yield id) args m K:=by
 obtain ⟨e1,s1,m1,h1,h2⟩:=Ac5 _ _ _ _ (show wpc P cfg L.c.N L.c.assign _ m (goE P cfg L.c.N _ []) from h)
 cases e1 with
 | normal =>
  obtain ⟨_,L1,h2,h3,e2,sA,mA,sB,mB,L2,h5,j1,j2,j3,h6,h7⟩:=h2
  refine ⟨_,_,?_,h7⟩
  obtain ⟨n0,hn0⟩:=h1.and h5
  refine ⟨n0 + 1,fun n hle => ?_⟩
  obtain ⟨k,rfl⟩:∃ k,n = k + 1:=⟨n - 1,by omega⟩
  obtain ⟨a,b⟩:=hn0 k (by omega)
  simp only [afn,around,hL]
  rw [if_pos hl,a]
  dsimp only
  rw [h2]
  dsimp only
  have hb:bodyR P (afn P cfg k) L.c.N k L.c.body s1 (m1.setLoop id .busy L1.pend L1.c) = some (e2,mA.keep (agree mA mB)):=by
   unfold bodyR
   cases hq:acode P (afn P cfg k) L.c.N k L.c.body s1 (m1.setLoop id .busy L1.pend L1.c) with
   | some q =>
    have:=Ais _ _ _ _ hq
    rw [b] at this
    cases this
   | none =>
    dsimp only
    rw [b]
    simp only [Option.bind_some,joinL]
    rw [if_pos ⟨rfl,j1,j2,j3⟩]
  rw [if_pos h3,hb]
  dsimp only
  have h8:(mA.keep (agree mA mB)).loop id = some L2:=h6
  rw [h8]
 | exit i => exact absurd h2.1 (by simp)
 | goto i => exact absurd h2.1 (by simp)
 | ret => exact absurd h2.1 (by simp)
end Go.V
