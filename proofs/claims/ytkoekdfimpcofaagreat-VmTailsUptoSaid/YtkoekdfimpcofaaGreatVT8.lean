/- Part of a proof. -/
import Derived.Test.YtkoekdfimpcofaaGreatVT7
set_option maxHeartbeats 64000000
set_option linter.unusedSimpArgs false
set_option linter.unusedVariables false
set_option linter.unusedSectionVars false
namespace Go.Proofs.YtkoekdfimpcofaaGreat
set_option maxRecDepth 4000
set_option maxRecDepth 4000
open Go.V
attribute [local simp] Nat.add_assoc
abbrev Ro:=Nat → Option Nat
abbrev nilA:AV:=.sc (.pointer none)
def roF (h:Nat):Nat:=10 + 3 * h
def roP (h:Nat):Nat:=11 + 3 * h
def roS (h:Nat):Nat:=12 + 3 * h
structure Chg (R:Nat → Prop) (t t':Ro) (m m':Mem):Prop where
 kc:KpC (fun j => ∃ r,t j = some r ∧ R r) m m'
 same:∀ j r,¬ R r → (t' j = some r ↔ t j = some r)
 new:∀ j r,t' j = some r → R r → (∃ r',t j = some r' ∧ R r') ∨ m.next ≤ j
 bd:∀ j,t' j ≠ none → j < m'.next
structure Kt (R:Nat → Prop) (t t':Ro) (m m':Mem):Prop where
 kc:KpC (fun j => ∀ r,t j = some r → R r) m m'
 same:∀ j r,¬ R r → (t' j = some r ↔ t j = some r)
 bd:∀ j,t' j ≠ none → j < m'.next
section
variable {R R':Nat → Prop} {t t' t2 t3:Ro} {m m' m2 m3:Mem}
theorem Chg.kt (h:Chg R t t' m m'):Kt R t t' m m':=⟨h.kc.mono fun j ⟨r,a,b⟩ r' e => by rw [a] at e; cases e; exact b,h.same,h.bd⟩
theorem Chg.refl (hb:∀ j,t j ≠ none → j < m.next) (k:Kp m m'):Chg R t t m m':=⟨.of (.of k),fun _ _ _ => Iff.rfl,fun j r h hr => .inl ⟨r,h,hr⟩,fun j h => Nat.lt_of_lt_of_le (hb j h) k.next⟩
theorem Chg.trans (h:Chg R t t2 m m2) (k:Chg R t2 t3 m2 m3):Chg R t t3 m m3:=by
 refine ⟨KpC.cut ((h.kc.mono fun j q => .inl q).trans (k.kc.mono fun j q => ?_)),fun j r q => (k.same j r q).trans (h.same j r q),fun j r q hr => ?_,k.bd⟩
 ·obtain ⟨r,h1,h2⟩:=q
  exact h.new j r h1 h2
 ·rcases k.new j r q hr with ⟨r',h1,h2⟩ | q
  ·exact h.new j r' h1 h2
  ·exact .inr (Nat.le_trans h.kc.next q)
theorem Chg.mono (h:Chg R t t' m m') (k:∀ r,R r → R' r):Chg R' t t' m m':=by
 refine ⟨h.kc.mono fun j ⟨r,a,b⟩ => ⟨r,a,k r b⟩,fun j r q => h.same j r fun x => q (k r x),fun j r q hr => ?_,h.bd⟩
 by_cases e:R r
 ·rcases h.new j r q e with ⟨r',a,b⟩ | q
  ·exact .inl ⟨r',a,k r' b⟩
  ·exact .inr q
 ·exact .inl ⟨r,(h.same j r e).1 q,hr⟩
theorem Chg.ahead {m0:Mem} (hb:∀ j,t j ≠ none → j < m0.next) (k0:Kp m0 m) (h:Chg R t t' m m'):Chg R t t' m0 m':=(Chg.refl hb k0).trans h
theorem Chg.box (h:Chg R t t' m m') (hb:∀ j,t j ≠ none → j < m.next) {m0:Mem} (k0:Kp m0 m) (hb0:∀ j,t j ≠ none → j < m0.next) {B:Nat} (h0:m0.next ≤ B) (h1:B < m.next) (cs:List AV):Chg R t t' m0 (m'.set B cs):=by
 have k:=Chg.ahead hb0 k0 h
 refine ⟨KpC.cut ((k.kc.mono fun j q => .inl q).trans ((Aao B cs m').mono fun j q => .inr ?_)),k.same,k.new,fun j q => by simpa using k.bd j q⟩
 have:j = B:=q
 omega
theorem Kt.get (h:Kt R t t' m m') {id r:Nat} (hr:t id = some r) (hn:¬ R r) (hl:id < m.next):m'.get id = m.get id ∧ t' id = some r ∧ id < m'.next :=
 ⟨h.kc.get id hl fun q => hn (q r hr),(h.same id r hn).2 hr,Nat.lt_of_lt_of_le hl h.kc.next⟩
theorem Kt.has (h:Kt R t t' m m') {id r:Nat} {cs:List AV} (hr:t id = some r) (hn:¬ R r) (hh:has m id cs):has m' id cs:=by
 obtain ⟨a,_,b⟩:=h.get hr hn hh.1
 exact ⟨b,by rw [a]; exact hh.2⟩
theorem Chg.then (h:Chg R t t' m m') (k:KpC (fun j => m.next ≤ j ∧ t' j = none) m' m2):Chg R t t' m m2 ∧ Kt (fun _ => False) t' t' m' m2:=by
 refine ⟨⟨KpC.cut ((h.kc.mono fun j q => .inl q).trans (k.mono fun j q => .inr q.1)),h.same,h.new,fun j q => Nat.lt_of_lt_of_le (h.bd j q) k.next⟩,k.mono fun j q r e => ?_,fun _ _ _ => Iff.rfl,fun j q => Nat.lt_of_lt_of_le (h.bd j q) k.next⟩
 rw [q.2] at e
 cases e
end
def StA (t:Ro) (r:Nat) (m:Mem) (x:AV) (l:List Val):Prop:=(l = [] ∧ (x = .emp 0 ∨ x = .emp 1)) ∨ ∃ id e w,t id = some r ∧ id < m.next ∧ x = .sl id 0 l.length 2 true none ∧ m.get id = some (.cells (flat (vals (l ++ e))) false w)
def CapA (x:AV) (l:List Val):Prop:=x = .lst (vals l) ∨ (l = [] ∧ x = .emp 0)
theorem StA.keep {R:Nat → Prop} {t t':Ro} {m m':Mem} {r:Nat} {x:AV} {l:List Val} (h:StA t r m x l) (c:Kt R t t' m m') (hn:¬ R r):StA t' r m' x l:=by
 rcases h with h | ⟨id,e,w,h1,h2,h3,h4⟩
 ·exact .inl h
 ·obtain ⟨a,b,d⟩:=c.get h1 hn h2
  exact .inr ⟨id,e,w,b,d,h3,by rw [a]; exact h4⟩
def frC (f:FrM) (h:Nat) (px cx sx u:AV):List AV:=[int f.code,int f.pc,nilA,px,cx,sx,u,int ((h:Int) + 1)]
structure FrB (t:Ro) (h F:Nat) (f:FrM) (px cx sx u:AV) (m:Mem):Prop where
 tF:t F = some (roF h)
 get:has m F (frC f h px cx sx u)
 par:StA t (roP h) m px f.params
 cap:CapA cx f.caps
 stk:StA t (roS h) m sx f.stack
def FrA (t:Ro) (h F:Nat) (f:FrM) (u:AV) (m:Mem):Prop:=∃ px cx sx,FrB t h F f px cx sx u m
theorem FrB.keep {R:Nat → Prop} {t t':Ro} {m m':Mem} {h F:Nat} {f:FrM} {px cx sx u:AV} (k:FrB t h F f px cx sx u m) (c:Kt R t t' m m') (h1:¬ R (roF h)) (h2:¬ R (roP h)) (h3:¬ R (roS h)):FrB t' h F f px cx sx u m' :=
 ⟨(c.get k.tF h1 k.get.1).2.1,c.has k.tF h1 k.get,k.par.keep c h2,k.cap,k.stk.keep c h3⟩
def ChA (t:Ro) (m:Mem):List FrM → AV → Prop
 | [],u => u = nilA
 | f :: fs,u => ∃ F u',u = .ptr F 0 ∧ FrA t fs.length F f u' m ∧ ChA t m fs u'
theorem ChA.keep {R:Nat → Prop} {t t':Ro} {m m':Mem} (c:Kt R t t' m m'):∀ (fs:List FrM) (u:AV),(∀ r,R r → r < 10 ∨ 10 + 3 * fs.length ≤ r) → ChA t m fs u → ChA t' m' fs u
 | [],u,_,h => h
 | f :: fs,u,hr,⟨F,u',h1,⟨px,cx,sx,h2⟩,h3⟩ => by
  have no:∀ r,10 ≤ r → r < 10 + 3 * (fs.length + 1) → ¬ R r:=fun r a b q => by
   have:=hr r q
   simp only [List.length_cons] at this
   omega
  refine ⟨F,u',h1,⟨px,cx,sx,h2.keep c (no _ ?_ ?_) (no _ ?_ ?_) (no _ ?_ ?_)⟩,ChA.keep c fs u' (fun r q => ?_) h3⟩ <;> try (simp only [roF,roP,roS]; omega)
  have:=hr r q
  simp only [List.length_cons] at this
  omega
structure RestA where
 nm:List UInt8
 n:Int
 args:AV
 k:Int
 fv:Val
def tkC (P:Nat) (s:MaM) (now:AV) (q:RestA):List AV:=[.ptr P 0,int s.status,int s.steps,now,int s.op,strS q.nm,int q.n,q.args,int s.value.1,int s.value.2,int q.k,int q.fv.1,int q.fv.2]
def pgC (A:Nat) (pr:PrM) (cx:AV):List AV:=[.ptr A 0,.lst (cods pr.codes),.lst (encs pr.consts),.lst (strs pr.names),cx,.emp 0]
def ArR (t:Ro) (A:Nat) (a:ArM) (m:Mem):Prop:=Ar (fun j => t j = some 3) A a m
structure MaB (t:Ro) (T P A:Nat) (pr:PrM) (p:PgM) (a:ArM) (m:Mem):Prop where
 bd:∀ j,t j ≠ none → j < m.next
 tT:t T = some 0
 tP:t P = some 1
 pg:∃ cx,has m P (pgC A pr cx) ∧ StA t 2 m cx p.cv
 ar:ArR t A a m
 codes:p.codes = pr.codes
def ArgA (x:AV):Prop:=x = .emp 0 ∨ x = .emp 1 ∨ ∃ l,x = .lst (vals l)
structure TkA (t:Ro) (T P A:Nat) (pr:PrM) (p:PgM) (s:MaM) (now:AV) (q:RestA) (m:Mem):Prop where
 b:MaB t T P A pr p s.ar m
 tk:has m T (tkC P s now q)
 args:ArgA q.args
section
variable {R:Nat → Prop} {t t':Ro} {m m':Mem} {T P A:Nat} {pr:PrM} {p:PgM} {a a':ArM}
theorem ArR.keep (h:ArR t A a m) (c:Kt R t t' m m') (hn:¬ R 3):ArR t' A a m':=by
 unfold ArR at h ⊢
 have:=h.kc (Y:=fun j => ∀ r,t j = some r → R r) c.kc fun j hj q => absurd (q 3 hj) hn
 exact this.mono fun j _ hj => (c.same j 3 hn).2 hj
theorem MaB.keep (h:MaB t T P A pr p a m) (c:Kt R t t' m m') (h1:¬ R 0) (h2:¬ R 1) (h3:¬ R 2) (h4:¬ R 3):MaB t' T P A pr p a m':=by
 obtain ⟨bd,tT,tP,⟨cx,pg,cv⟩,ar,e⟩:=h
 exact ⟨c.bd,(c.same T 0 h1).2 tT,(c.same P 1 h2).2 tP,⟨cx,c.has tP h2 pg,cv.keep c h3⟩,ar.keep c h4,e⟩
theorem MaB.arena (h:MaB t T P A pr p a m) (u:Up (fun j => t j = some 3) A a' m m'):∃ t',MaB t' T P A pr p a' m' ∧ Chg (· = 3) t t' m m':=by
 obtain ⟨bd,tT,tP,⟨cx,pg,cv⟩,ar,e⟩:=h
 obtain ⟨X',h1,h2,h3⟩:=u
 obtain ⟨tt,M,cs,ns,xs,g1,g2⟩:=id h1
 have c:Chg (· = 3) t (fun j => if tt j ≠ none then some 3 else if t j = some 3 then none else t j) m m':=by
  refine ⟨h2.mono fun j hj => ⟨3,hj,rfl⟩,fun j r hr => ?_,fun j r q hr => ?_,fun j hj => ?_⟩
  ·have hr:r ≠ 3:=hr
   constructor
   ·intro q
    split at q
    ·cases q; exact absurd rfl hr
    ·split at q
     ·cases q
     ·exact q
   ·intro q
    split
    ·rename_i e
     have e2:=g2 j e
     rcases h3 j e2.1 with x | x
     ·rw [q] at x; cases x; exact absurd rfl hr
     ·have:=bd j (by rw [q]; simp); omega
    ·rw [if_neg (by rw [q]; simp; exact hr)]; exact q
  ·have hr:r = 3:=hr
   subst hr
   split at q
   ·rename_i e
    rcases h3 j (g2 j e).1 with x | x
    ·exact .inl ⟨3,x,rfl⟩
    ·exact .inr x
   ·split at q
    ·cases q
    ·rename_i e; exact absurd q e
  ·split at hj
   ·rename_i e; exact (g2 j e).2
   ·split at hj
    ·exact absurd rfl hj
    ·exact Nat.lt_of_lt_of_le (bd j hj) h2.next
 refine ⟨_,⟨c.bd,(c.same T 0 (by simp)).2 tT,(c.same P 1 (by simp)).2 tP,⟨cx,c.kt.has tP (by simp) pg,cv.keep c.kt (by simp)⟩,⟨tt,M,cs,ns,xs,g1,fun j hj => ⟨?_,(g2 j hj).2⟩⟩,e⟩,c⟩
 show (if tt j ≠ none then some 3 else _) = some 3
 rw [if_pos hj]
theorem TkA.keep {s:MaM} {now:AV} {q:RestA} (h:TkA t T P A pr p s now q m) (c:Kt R t t' m m') (h1:¬ R 0) (h2:¬ R 1) (h3:¬ R 2) (h4:¬ R 3):TkA t' T P A pr p s now q m':=⟨h.b.keep c h1 h2 h3 h4,c.has h.b.tT h1 h.tk,h.args⟩
theorem TkA.set {s s':MaM} {now now':AV} {q q':RestA} (h:TkA t T P A pr p s now q m) (ha:s'.ar = s.ar) (hq:ArgA q'.args):TkA t T P A pr p s' now' q' (m.set T (tkC P s' now' q')) ∧ Chg (· = 0) t t m (m.set T (tkC P s' now' q')):=by
 obtain ⟨b,⟨tl,w,tk⟩,args⟩:=h
 have c:Chg (· = 0) t t m (m.set T (tkC P s' now' q')):=by
  refine ⟨(Aao T _ m).mono fun j e => ?_,fun _ _ _ => Iff.rfl,fun j r q hr => .inl ⟨r,q,hr⟩,fun j q => by simpa using b.bd j q⟩
  have e:j = T:=e
  subst e
  exact ⟨0,b.tT,rfl⟩
 refine ⟨⟨?_,⟨by simpa using tl,m.clock + 1,by simp⟩,hq⟩,c⟩
 rw [ha]
 obtain ⟨bd,tT,tP,⟨cx,pg,cv⟩,ar,e⟩:=b
 exact ⟨c.bd,tT,tP,⟨cx,c.kt.has tP (by simp) pg,cv.keep c.kt (by simp)⟩,ar.keep c.kt (by simp),e⟩
end
def upd (t:Ro) (id r:Nat):Ro:=fun j => if j = id then some r else t j
@[simp] theorem Ab9 (t:Ro) (id r:Nat):upd t id r id = some r:=by simp [upd]
theorem Ap2 {t:Ro} {id r j:Nat} (h:j ≠ id):upd t id r j = t j:=by simp [upd,h]
theorem Chg.upd {R:Nat → Prop} {t:Ro} {m m':Mem} {id r:Nat} (hb:∀ j,t j ≠ none → j < m.next) (kc:KpC (fun j => ∃ r,t j = some r ∧ R r) m m') (hr:R r) (h1:m.next ≤ id) (h2:id < m'.next):Chg R t (upd t id r) m m':=by
 refine ⟨kc,fun j r' hn => ?_,fun j r' q hr' => ?_,fun j q => ?_⟩
 ·by_cases e:j = id
  ·subst e
   have:t j = none:=by
    cases hj:t j with
    | none => rfl
    | some x => have:=hb j (by rw [hj]; simp); omega
   rw [Ab9,this]
   constructor
   ·intro q; cases q; exact absurd hr hn
   ·intro q; cases q
  ·rw [Ap2 e]
 ·by_cases e:j = id
  ·subst e; exact .inr h1
  ·rw [Ap2 e] at q; exact .inl ⟨r',q,hr'⟩
 ·by_cases e:j = id
  ·subst e; exact h2
  ·rw [Ap2 e] at q; exact Nat.lt_of_lt_of_le (hb j q) kc.next
theorem Chg.same' {R:Nat → Prop} {t:Ro} {m m':Mem} (hb:∀ j,t j ≠ none → j < m.next) (kc:KpC (fun j => ∃ r,t j = some r ∧ R r) m m'):Chg R t t m m':=⟨kc,fun _ _ _ => Iff.rfl,fun j r q hr => .inl ⟨r,q,hr⟩,fun j q => Nat.lt_of_lt_of_le (hb j q) kc.next⟩
theorem Chg.set {R:Nat → Prop} {t:Ro} {m:Mem} {id r:Nat} (hb:∀ j,t j ≠ none → j < m.next) (hi:t id = some r) (hr:R r) (cs:List AV):Chg R t t m (m.set id cs):=Chg.same' hb ((Aao id cs m).mono fun j e => by
 have e:j = id:=e
 subst e
 exact ⟨r,hi,hr⟩)
theorem StA.okc {t:Ro} {r:Nat} {m:Mem} {x:AV} {l:List Val} (h:StA t r m x l):x.okc = true ∧ x.cells = [x]:=by
 rcases h with ⟨_,rfl | rfl⟩ | ⟨id,e,w,_,_,rfl,_⟩ <;> exact ⟨rfl,rfl⟩
@[simp] theorem A4c (m:Mem):fzr m (oneOf []) = (.tup [],m):=rfl
theorem Chg.box0 {R:Nat → Prop} {t t':Ro} {m M1 m':Mem} (h:Chg R t t' M1 m') (hb:∀ j,t j ≠ none → j < m.next) {B:Nat} (h0:m.next ≤ B) (h1:B < M1.next):m'.get B = M1.get B :=
 h.kc.get B h1 fun ⟨r,e,_⟩ => by have:=hb B (by rw [e]; simp); omega
theorem roHi (h:Nat):10 ≤ roF h ∧ 10 ≤ roP h ∧ 10 ≤ roS h:=by simp only [roF,roP,roS]; omega
theorem TkA.keepR {R:Nat → Prop} {t t':Ro} {m m':Mem} {T P A:Nat} {pr:PrM} {p:PgM} {s:MaM} {now:AV} {q:RestA} (h:TkA t T P A pr p s now q m) (c:Kt R t t' m m') (hR:∀ r,R r → 4 ≤ r):TkA t' T P A pr p s now q m' :=
 h.keep c (fun r => by have:=hR 0 r; omega) (fun r => by have:=hR 1 r; omega) (fun r => by have:=hR 2 r; omega) (fun r => by have:=hR 3 r; omega)
theorem Ap1 (l:List Val) (v:Val):vals (l ++ [v]) = vals l ++ [valA v]:=by simp [vals]
theorem StA.put {t:Ro} {r:Nat} {m:Mem} {x:AV} {l:List Val} (hb:∀ j,t j ≠ none → j < m.next) (h:StA t r m x l) (hl:l.length ≤ 4096) (v:Val):∃ x' m' t',aappend Tryz.prog 46 x none (some [valA v]) m = some (x',m') ∧ StA t' r m' x' (l ++ [v]) ∧ Chg (· = r) t t' m m':=by
 have hf:fzx Tryz.prog 46 m [valA v] = ([valA v],m):=by simp
 have ho:okAll 2 [valA v] = true:=by simp [Aak,Abu]
 have hv:([valA v]:List AV) ≠ []:=by simp
 rcases h with ⟨rfl,hx⟩ | ⟨id,e,w,h1,h2,rfl,h4⟩
 ·have key:∀ n,n ≤ 1 → x = .emp n → ∃ x' m' t',aappend Tryz.prog 46 x none (some [valA v]) m = some (x',m') ∧ StA t' r m' x' ([] ++ [v]) ∧ Chg (· = r) t t' m m':=by
   rintro n hn rfl
   refine ⟨_,_,_,Agh hn el46 hv ho hf (by simp),.inr ⟨m.next,[],m.clock + 1,Ab9 t m.next r,by simp,by simp,by simp [vals]⟩,Chg.upd hb (.of (.of (.new _ _ _))) rfl (Nat.le_refl _) (by simp)⟩
  rcases hx with hx | hx
  ·exact key 0 (by omega) hx
  ·exact key 1 (by omega) hx
 ·cases e with
  | nil =>
   rw [List.append_nil] at h4
   refine ⟨_,_,_,Agg (len:=l.length) el46 hv ho hf h4 (by rw [Aa5 (Aba l),Aa0]) (by simp; omega),.inr ⟨m.next,[],(m.kill id).clock + 1,Ab9 t m.next r,by simp,by simp,?_⟩,Chg.upd hb ⟨by simp,fun j hj hn => ?_,fun j hj hn => by simp⟩ rfl (Nat.le_refl _) (by simp)⟩
   ·simp [Ap1,Ach]
   ·have a1:j ≠ id:=fun e => hn ⟨r,by rw [e]; exact h1,rfl⟩
    have a2:j ≠ m.next:=by omega
    simp [a1,a2,Ne.symm a1]
  | cons y e =>
   refine ⟨_,_,_,A0e (len:=l.length) el46 hv ho hf h4 (by rw [Aa5 (Aba _),Aa0]; simp; omega) (by simp; omega),.inr ⟨id,e,m.clock + 1,h1,by simpa using h2,by simp,?_⟩,Chg.set (R:=(· = r)) hb h1 rfl _⟩
   have e1:=Aea (l ++ y :: e) l.length v (by simp)
   have e0:flat [valA v] = [int v.1,int v.2]:=by simp [flat,valA]
   rw [e0,e1]
   simp
theorem Ad3:∀ (l:List Val) (k:Nat),(flat (vals l)).drop (k * 2) = flat (vals (l.drop k))
 | l,0 => by simp
 | [],k + 1 => by simp [vals,flat]
 | x :: l,k + 1 => by
  have e:(k + 1) * 2 = k * 2 + 1 + 1:=by omega
  rw [Aay,Aa7,e]
  simpa [valA] using Ad3 l k
theorem chunkV:∀ (l:List Val) (r:List AV),chunk 2 true l.length (flat (vals l) ++ r) = vals l
 | [],r => rfl
 | x :: l,r => by
  have ih:=chunkV l r
  simp [Aay,Aa7,chunk,valA,ih]
theorem Atj (l r:List Val):vals (l ++ r) = vals l ++ vals r:=by simp [vals]
section
variable {m:Mem} {id k n w:Nat} {fz:Bool} {L:List Val}
theorem Aic (hg:m.get id = some (.cells (flat (vals L)) fz w)) (hk:k + n ≤ L.length):elemsOf m (.sl id (k * 2) n 2 true none) = some (vals ((L.drop k).take n)):=by
 have hn:((L.drop k).take n).length = n:=by simp; omega
 have e:L.drop k = (L.drop k).take n ++ (L.drop k).drop n:=(List.take_append_drop _ _).symm
 have q:=chunkV ((L.drop k).take n) (flat (vals ((L.drop k).drop n)))
 rw [← Ach,← Atj,← e,hn] at q
 simp only [elemsOf,hg]
 rw [if_pos ⟨by rw [Aa5 (Aba L),Aa0]; omega,rfl⟩,Ad3,q]
theorem runP {v:Val} {l:List Val} (hg:m.get id = some (.cells (flat (vals L)) fz w)) (hid:id < m.next) (hk:k + n ≤ L.length) (hl:(L.drop k).take n = v :: l) (hb:l.length < 4096):EH Tryz.prog cf0 (.func 24) [.sl id (k * 2) n 2 true none] m (.sl (m.next + 1) 0 (l.length + 1) 2 true none) ((m.new [] false).new (flat (vals (v :: l))) false):=by
 refine eh_of ?_
 have e0:n = l.length + 1:=by
  have:=congrArg List.length hl
  simp at this
  omega
 have hs:srcOf (m.new [] false) (.sl id (k * 2) n 2 true none) = some (vals (v :: l)):=by
  have hg1:(m.new [] false).get id = some (.cells (flat (vals L)) fz w):=by
   have:id ≠ m.next:=by omega
   simp [this,hg]
  rw [← hl,← Aic hg1 hk]
  rfl
 have q:=Acl (P:=Tryz.prog) (T:=46) (k:=2) (ag:=true) (ag':=true) (id:=m.next) (ys:=vals (v :: l)) (ys':=vals (v :: l)) (m:=m.new [] false) (m':=m.new [] false) (v:=m.clock + 1) el46 (by simp [Aay]) (Aba _) (by simp) (by simp) (by simp; omega)
 have nn:∀ {xo yo:Operand},abin Tryz.prog .eql 46 xo yo (.sl id (k * 2) n 2 true none) (.emp 0) = some (.sc (.bool false)):=by
  intro xo yo
  have h1:nilTest Tryz.prog 46 (.sl id (k * 2) n 2 true none) (.emp 0) = some false:=by simp [nilTest,Tryz.underlying46]
  simp [abin,h1,plain]
 refine Aah Tryz.func24 rfl rfl (by simp [Tryz.f24]) (by simp [Tryz.f24]) fun Q hQ => ?_
 simp only [Tryz.f24,show cf0.keepRes 24 = true from rfl,show cf0.keepArgs 24 = true from rfl] at hQ ⊢
 simp [nn,abuildSlice,fillAt,zeros,hs,q]
 refine hQ _ _ _ ⟨.inr rfl,_,rfl,?_⟩
 simp [oneOf]
theorem w49 (hg:m.get id = some (.cells (flat (vals L)) fz w)) (hid:id < m.next) (hk:k + n ≤ L.length) (hb:n ≤ 4096):wph Tryz.prog ca (.func 24) [.sl id (k * 2) n 2 true none] m fun v m' => Kp m m' ∧ Fresh m m' v ((L.drop k).take n):=by
 have he:=Aic hg hk
 cases hl:(L.drop k).take n with
 | nil =>
  have e:cloneL Tryz.prog 24 [.sl id (k * 2) n 2 true none] m = some (.emp 1,m.skip):=by
   simp only [cloneL,he,hl,Ai1]
  exact ⟨_,_,Abh rfl e,Ajd (.refl m),.inl ⟨rfl,rfl⟩⟩
 | cons v l =>
  have hb2:l.length < 4096:=by
   have:=congrArg List.length hl
   simp at this
   omega
  have e:cloneL Tryz.prog 24 [.sl id (k * 2) n 2 true none] m = some (.sl (m.next + 1) 0 (l.length + 1) 2 true none,(m.new [] false).new (flat (vals (v :: l))) false):=by
   simp only [cloneL,he,hl,Aay]
   exact Acz (runP hg hid hk hl hb2)
  exact ⟨_,_,Abh rfl e,by simp,.inr ⟨by simp,_,_,rfl,by omega,by simp,by simp; rfl⟩⟩
end
theorem Fresh.fzc {m m':Mem} {x:AV} {l:List Val} (h:Fresh m m' x l):∃ m2,fzr m' x = (.lst (vals l),m2) ∧ KpC (fun j => m.next ≤ j) m' m2:=by
 rcases h with ⟨rfl,rfl⟩ | ⟨h,id,v,rfl,h1,h2,h3⟩
 ·exact ⟨m',rfl,.refl _ _⟩
 ·have e:=Adl (k:=2) (ag:=true) (cap:=none) (ys:=vals l) rfl h3 (Aeo l) (Aba l)
  rw [Aa0] at e
  refine ⟨_,e,by simp,fun j hj hn => ?_,fun j hj hn => by simp⟩
  have:j ≠ id:=fun e => hn (by rw [e]; exact h1)
  simp [this]
theorem w49e {m:Mem} {b:Nat} (hb:b ≤ 1):wph Tryz.prog ca (.func 24) [.emp b] m fun v m' => Kp m m' ∧ Fresh m m' v []:=by
 have e:cloneL Tryz.prog 24 [.emp b] m = some (.emp 1,m.skip):=by simp only [cloneL,elemsOf]
 exact ⟨_,_,Abh rfl e,Ajd (.refl m),.inl ⟨rfl,rfl⟩⟩
theorem noRo {h:Nat}:roF h ≠ roS h ∧ roF h ≠ roP h ∧ roP h ≠ roS h ∧ roS h ≠ roF h ∧ roP h ≠ roF h ∧ roS h ≠ roP h:=by simp only [roF,roP,roS]; omega
theorem Ajp {t:Ro} {h F:Nat} {g:FrM} {px cx sx u:AV} {m:Mem} (tF:t F = some (roF h)) (hl:F < m.next) (par:StA t (roP h) m px g.params) (cap:CapA cx g.caps) (stk:StA t (roS h) m sx g.stack) (hb:∀ j,t j ≠ none → j < m.next):FrB t h F g px cx sx u (m.set F (frC g h px cx sx u)) ∧ Chg (· = roF h) t t m (m.set F (frC g h px cx sx u)):=by
 have c:Chg (· = roF h) t t m (m.set F (frC g h px cx sx u)):=Chg.set (R:=(· = roF h)) hb tF rfl _
 exact ⟨⟨tF,⟨by simpa using hl,m.clock + 1,by simp⟩,par.keep c.kt (noRo.2.2.2.2.1),cap,stk.keep c.kt (noRo.2.2.2.1)⟩,c⟩
theorem Ai4 {m:Mem} {v:Val} {c:Option Nat}:srcOf (m.new [int v.1,int v.2] false) (.sl m.next 0 1 2 true c) = some [valA v]:=by
 simp [srcOf,elemsOf,chunk,valA]
section
variable {t:Ro} {h F:Nat} {f:FrM} {px cx sx u:AV} {m:Mem}
theorem w64 (hb:∀ j,t j ≠ none → j < m.next) (hf:FrB t h F f px cx sx u m) (hl:f.stack.length ≤ 4096) (v:Val):wph Tryz.prog ca (.func 31) [.ptr F 0,valA v] m fun r m' => r = .tup [] ∧ ∃ t' sx',FrB t' h F (f.put v) px cx sx' u m' ∧ Chg (fun r => r = roF h ∨ r = roS h) t t' m m':=by
 obtain ⟨M1,hM1⟩:∃ M1,M1 = m.new [int v.1,int v.2] false:=⟨_,rfl⟩
 obtain ⟨M2,hM2⟩:∃ M2,M2 = M1.new [int v.1,int v.2] false:=⟨_,rfl⟩
 have k1:Kp m M1:=by rw [hM1]; simp
 have k2:Kp M1 M2:=by rw [hM2]; simp
 have n1:M1.next = m.next + 1:=by rw [hM1]; simp
 have b0:M1.get m.next = some (.cells [int v.1,int v.2] false (m.clock + 1)):=by rw [hM1]; simp
 have hsrc:srcOf M2 (.sl M1.next 0 1 2 true (some 1)) = some [valA v]:=by rw [hM2]; exact Ai4
 have c1:Chg (fun _ => False) t t m M1:=Chg.refl hb k1
 have c2:Chg (fun _ => False) t t m M2:=Chg.refl hb (k1.trans k2)
 have f1:=hf.keep c1.kt (by simp) (by simp) (by simp)
 have f2:=hf.keep c2.kt (by simp) (by simp) (by simp)
 obtain ⟨x',m3,t',a1,a2,a3⟩:=f2.stk.put c2.bd hl v
 obtain ⟨_,w1,g1⟩:=f1.get
 obtain ⟨_,w2,g2⟩:=f2.get
 obtain ⟨hF3,w3,g3⟩:=a3.kt.has f2.tF noRo.1 f2.get
 obtain ⟨z1,z2⟩:=Ajp (u:=u) (g:=f.put v) ((a3.same F (roF h) noRo.1).2 f2.tF) hF3 (f2.par.keep a3.kt noRo.2.2.1) f2.cap a2 a3.bd
 have nF:F ≠ m.next:=by have:=hf.get.1; omega
 refine Aah Tryz.func31 rfl rfl (by simp [Tryz.f31]) (by simp [Tryz.f31]) fun Q hQ => ?_
 simp only [Tryz.f31,show ca.keepRes 31 = false from rfl,show ca.keepArgs 31 = false from rfl] at hQ ⊢
 simp
 rw [← hM1]
 clear hM1
 refine Aaq (by kernel_rfl) ?_
 simp [g1,b0,frC,abuildSlice,zeros,fillAt,Aab,abuiltin]
 rw [← hM2,hsrc]
 obtain ⟨o1,o2⟩:=a2.okc
 simp [a1,g3,frC,o1,o2]
 have g12:=k2.get F f1.get.1
 refine Aa2 (l:=[(4,6)]) (by kernel_rfl) (?_:List.all _ _ = true) ?_
 ·simp [metAtD,metOkD,rank,verKeptD,Region.wanted,Mem.ver,g1,g12]
 simp
 exact hQ _ _ _ ⟨.inl rfl,[],rfl,rfl,t',x',z1,((c2.mono fun _ q => q.elim).trans (a3.mono fun _ q => .inr q)).trans (z2.mono fun _ q => .inl q)⟩
theorem len48 (x:AV) (l:List Val) (h:StA t (roS 0) m x l ∨ StA t (roS h) m x l ∨ x = .lst (vals l)) (R:TypeId) (m':Mem):abuiltin Tryz.prog .len #[46] R [x] m' = some (int l.length,m'):=by
 rcases h with (⟨rfl,rfl | rfl⟩ | ⟨id,e,w,_,_,rfl,_⟩) | (⟨rfl,rfl | rfl⟩ | ⟨id,e,w,_,_,rfl,_⟩) | rfl
 all_goals first
  | (rw [Ae3 Tryz.underlying46]; rfl)
  | rw [Adp Tryz.underlying46]
  | (rw [Abj Tryz.underlying46]; simp)
theorem w67 (hf:FrB t h F f px cx sx u m) {id:Nat} (hsx:sx = .sl id 0 f.stack.length 2 true none) (hid:id < m.next) (hne:1 ≤ f.stack.length) (hl:f.stack.length ≤ 4096):EH Tryz.prog ca (.func 49) [.ptr F 0] m (.ptr id ((f.stack.length - 1) * 2)) m:=by
 obtain ⟨_,w,g⟩:=hf.get
 have hw:IntKind.i64.wrap ((f.stack.length:Int) - 1) = ((f.stack.length - 1:Nat):Int):=by rw [IntWalk.i64_in _ (by omega)]; omega
 have hix:=Aax (P:=Tryz.prog) (q:=.i64) (ag:=true) (c:=none) (id:=id) (off:=0) (len:=f.stack.length) (i:=f.stack.length - 1) Tryz.underlying46 Abb (by omega)
 refine Aaw Tryz.func49 rfl rfl rfl rfl (args1:=[.ptr F 0]) (m1:=m) (by simp) (by simp [AV.bel,hid]) (by simp [Tryz.f49]) (by simp [Tryz.f49]) ?_
 simp [Tryz.f49,show ca.keepRes 49 = false from rfl]
 refine Aat (by kernel_rfl) (by kernel_rfl) ?_
 subst hsx
 simp [g,frC,Adp Tryz.underlying46,hw,hix]
theorem StA.cut {r:Nat} {x:AV} {l:List Val} (hs:StA t r m x l) {n:Nat} (hn:n ≤ l.length):∃ x',aslice Tryz.prog 46 x none (some (int ((l.length - n:Nat):Int))) none = some x' ∧ StA t r m x' (l.take (l.length - n)):=by
 rcases hs with ⟨rfl,hx⟩ | ⟨id,e,w,h1,h2,rfl,h4⟩
 ·have h0:n = 0:=by simpa using hn
  subst h0
  rcases hx with rfl | rfl
  ·exact ⟨_,Ad0 (b:=0) Tryz.underlying46 Abb Aa1 (Abd (n:=0)) (by simp) (by simp) (by omega),.inl ⟨rfl,.inl rfl⟩⟩
  ·exact ⟨_,Ad0 (b:=1) Tryz.underlying46 Abb Aa1 (Abd (n:=0)) (by simp) (by simp) (by omega),.inl ⟨rfl,.inr rfl⟩⟩
 ·have e1:=Ae2 (P:=Tryz.prog) (T:=46) (c:=0) (id:=id) (off:=0) (len:=l.length) (k:=2) (ag:=true) (cap:=none) (lo:=none) (hi:=some (int ((l.length - n:Nat):Int))) (l:=none) (h:=some (l.length - n)) Tryz.underlying46 Abb Aa1 (Abd (n:=l.length - n)) (by simp) (by simp)
  refine ⟨_,e1,.inr ⟨id,l.drop (l.length - n) ++ e,w,h1,h2,by simp,?_⟩⟩
  rw [← List.append_assoc,List.take_append_drop]
  exact h4
theorem StA.part {r:Nat} {x:AV} {l:List Val} (hs:StA t r m x l) {n:Nat} (hn:n ≤ l.length) (hl:l.length ≤ 4096) {m':Mem} (k:Kp m m'):∃ y,aslice Tryz.prog 46 x (some (int ((l.length - n:Nat):Int))) none none = some y ∧ wph Tryz.prog ca (.func 24) [y] m' fun v m2 => Kp m' m2 ∧ Fresh m' m2 v (l.drop (l.length - n)):=by
 rcases hs with ⟨rfl,hx⟩ | ⟨id,e,w,h1,h2,rfl,h4⟩
 ·have h0:n = 0:=by simpa using hn
  subst h0
  rcases hx with rfl | rfl
  ·exact ⟨_,Ad0 (b:=0) Tryz.underlying46 Abb (Abd (n:=0)) Aa1 (by simp) (by simp) (by omega),w49e (by omega)⟩
  ·exact ⟨_,Ad0 (b:=1) Tryz.underlying46 Abb (Abd (n:=0)) Aa1 (by simp) (by simp) (by omega),w49e (by omega)⟩
 ·have e1:=Ae2 (P:=Tryz.prog) (T:=46) (c:=0) (id:=id) (off:=0) (len:=l.length) (k:=2) (ag:=true) (cap:=none) (lo:=some (int ((l.length - n:Nat):Int))) (hi:=none) (l:=some (l.length - n)) (h:=none) Tryz.underlying46 Abb (Abd (n:=l.length - n)) Aa1 (by simp) (by simp)
  refine ⟨_,e1,?_⟩
  have hg:m'.get id = some (.cells (flat (vals (l ++ e))) false w):=by rw [k.get id h2]; exact h4
  have hl2:((l ++ e).drop (l.length - n)).take n = l.drop (l.length - n):=by
   rw [List.drop_append_of_le_length (by omega)]
   rw [List.take_append_of_le_length (by simp; omega),List.take_of_length_le (by simp; omega)]
  have q:=w49 (k:=l.length - n) (n:=n) hg (Nat.lt_of_lt_of_le h2 k.next) (by simp; omega) (by omega)
  rw [hl2] at q
  have e2:l.length - (l.length - n) = n:=by omega
  simpa [e2] using q
theorem w68 (hb:∀ j,t j ≠ none → j < m.next) (hf:FrB t h F f px cx sx u m) (hl:f.stack.length ≤ 4096) {n:Nat} (hn:n ≤ f.stack.length):wph Tryz.prog ca (.func 50) [.ptr F 0,int n] m fun r m' => r = .lst (vals (f.last n)) ∧ ∃ sx',FrB t h F (f.cut n) px cx sx' u m' ∧ Chg (fun r => r = roF h) t t m m':=by
 obtain ⟨hFl,w,g⟩:=hf.get
 obtain ⟨x',c1,c2⟩:=hf.stk.cut hn
 obtain ⟨y,p1,p2⟩:=hf.stk.part hn hl (.refl m)
 have hlen:=len48 (h:=h) sx f.stack (.inr (.inl hf.stk))
 have hw:IntKind.i64.wrap ((f.stack.length:Int) - n) = ((f.stack.length - n:Nat):Int):=by rw [IntWalk.i64_in _ (by omega)]; omega
 refine Aah Tryz.func50 rfl rfl (by simp [Tryz.f50]) (by simp [Tryz.f50]) fun Q hQ => ?_
 simp only [Tryz.f50,show ca.keepRes 50 = false from rfl,show ca.keepArgs 50 = false from rfl] at hQ ⊢
 simp [g,frC,hlen,hw,p1]
 refine Aad p2 ?_
 rintro v m2 ⟨k2,fr⟩
 have g2:=(k2.get F hFl).trans g
 have hb2:∀ j,t j ≠ none → j < m2.next:=fun j hj => Nat.lt_of_lt_of_le (hb j hj) k2.next
 have hc:Chg (fun _ => False) t t m m2:=Chg.refl hb k2
 obtain ⟨z1,z2⟩:=Ajp (u:=u) (g:=f.cut n) hf.tF (Nat.lt_of_lt_of_le hFl k2.next) (hf.par.keep hc.kt (by simp)) hf.cap (c2.keep hc.kt (by simp)) hb2
 obtain ⟨o1,o2⟩:=fr.okc
 obtain ⟨o3,o4⟩:=c2.okc
 simp [o1,o2,o3,o4,g2,frC,c1]
 obtain ⟨m4,y1,y2⟩:=(fr.keep (m2:=m2.set F (frC (f.cut n) h px cx x' u)) (Nat.le_refl _) (by simp) fun j h1 h2 => by simp [show j ≠ F by omega]).fzc
 refine hQ _ _ _ ?_
 rw [Aa6]
 have hno:∀ j,m.next ≤ j → t j = none:=fun j hj => by
  cases hj':t j with
  | none => rfl
  | some r => have:=hb j (by rw [hj']; simp); omega
 obtain ⟨w1,w2⟩:=((hc.mono fun _ q => q.elim).trans z2).then (y2.mono fun j hj => ⟨hj,hno j hj⟩)
 simp only [frC,FrM.cut] at y1
 simp [y1]
 exact ⟨rfl,⟨_,z1.keep w2 (by simp) (by simp) (by simp)⟩,w1⟩
end
theorem w110 (m:Mem):EH Tryz.prog ca (.func 79) [] m (valA (4,0)) m:=by
 refine Aaw Tryz.func79 rfl rfl rfl rfl (args1:=[]) (m1:=m) (by simp [fzvs]) (by simp) (by simp [Tryz.f79]) (by simp [Tryz.f79]) ?_
 simp [Tryz.f79,show ca.keepRes 79 = false from rfl,abuild,placesOf,fillAt,valA]
theorem w70 (m:Mem):EH Tryz.prog ca (.func 30) [] m (valA (2,0)) m:=by
 refine Aaw Tryz.func30 rfl rfl rfl rfl (args1:=[]) (m1:=m) (by simp [fzvs]) (by simp) (by simp [Tryz.f30]) (by simp [Tryz.f30]) ?_
 simp [Tryz.f30,show ca.keepRes 30 = false from rfl,abuild,placesOf,fillAt,valA]
section
variable {t:Ro} {T P A:Nat} {pr:PrM} {p:PgM} {s:MaM} {now:AV} {q:RestA} {m:Mem}
theorem w89 (h:TkA t T P A pr p s now q m) (k:Int):wph Tryz.prog ca (.func 55) [.ptr T 0,int k] m fun r m' => r = .tup [] ∧ ∃ q',TkA t T P A pr p (failM s) nilA q' m' ∧ Chg (· = 0) t t m m':=by
 obtain ⟨hT,w,g⟩:=h.tk
 obtain ⟨z1,y1⟩:=h.set (s':={ s with status:=4 }) (now':=now) (q':=q) rfl h.args
 obtain ⟨z2,y2⟩:=z1.set (s':={ s with status:=4 }) (now':=nilA) (q':=q) rfl h.args
 obtain ⟨z3,y3⟩:=z2.set (s':=failM s) (now':=nilA) (q':=⟨q.nm,q.n,q.args,k,(4,0)⟩) rfl h.args
 refine Aah Tryz.func55 rfl rfl (by simp [Tryz.f55]) (by simp [Tryz.f55]) fun Q hQ => ?_
 simp only [Tryz.f55,show ca.keepRes 55 = false from rfl,show ca.keepArgs 55 = false from rfl] at hQ ⊢
 simp [g,tkC,(w110 _).go,abuild,placesOf,fillAt]
 exact hQ _ _ _ ⟨.inl rfl,[],rfl,rfl,_,z3,(y1.trans y2).trans y3⟩
theorem TkA.arena {a':ArM} {m':Mem} (h:TkA t T P A pr p s now q m) (u:Up (fun j => t j = some 3) A a' m m'):∃ t',TkA t' T P A pr p { s with ar:=a' } now q m' ∧ Chg (· = 3) t t' m m':=by
 obtain ⟨b,tk,args⟩:=h
 obtain ⟨t',b',c⟩:=b.arena u
 exact ⟨t',⟨b',c.kt.has b.tT (by simp) tk,args⟩,c⟩
theorem w65 (h:TkA t T P A pr p s now q m) (c:CeM) (h1:c.a.length < 2 ^ 21) (h2:c.s.length < 2 ^ 21) {W w0 off r:Nat} {cs:List AV} (hW:t W = some r) (hr:4 ≤ r) (hg:m.get W = some (.cells cs false w0)) (hl:W < m.next) (hoff:off + 2 ≤ cs.length) :
  wph Tryz.prog ca (.func 47) [.ptr T 0,ceA c,.ptr W off] m fun v m' => v = .tup [] ∧ ∃ t' now' q',Chg (fun r' => r' = 0 ∨ r' = 3 ∨ r' = r) t t' m m' ∧
   (if (allocM s.ar c).2.2 ≠ 0 then now' = nilA ∧ TkA t' T P A pr p (failM { s with ar:=(allocM s.ar c).1 }) now' q' m'
   else now' = now ∧ TkA t' T P A pr p { s with ar:=(allocM s.ar c).1 } now' q' m' ∧ Chg (fun r' => r' = 3 ∨ r' = r) t t' m m' ∧ t' W = some r ∧ ∃ w,m'.get W = some (.cells (splice cs off [int (allocM s.ar c).2.1.1,int (allocM s.ar c).2.1.2]) false w)):=by
 obtain ⟨hT,w,gT⟩:=h.tk
 obtain ⟨bd,tT,tP,⟨cx,⟨hP,wP,gP⟩,cv⟩,ar,e⟩:=id h.b
 refine Aah Tryz.func47 rfl rfl (by simp [Tryz.f47]) (by simp [Tryz.f47]) fun Q hQ => ?_
 simp only [Tryz.f47,show ca.keepRes 47 = false from rfl,show ca.keepArgs 47 = false from rfl] at hQ ⊢
 obtain ⟨M1,hM1⟩:∃ M1,M1 = m.new (ceA c).cells false:=⟨_,rfl⟩
 have k1:Kp m M1:=by rw [hM1]; simp
 have nM:M1.next = m.next + 1:=by rw [hM1]; simp
 have gc:M1.get m.next = some (.cells [int c.k,int c.n,.lst (vals c.a),.lst (byts c.s)] false (m.clock + 1)):=by rw [hM1]; simp
 have gT1:=(k1.get T hT).trans gT
 have gP1:=(k1.get P hP).trans gP
 have ecA:AV.agg [int c.k,int c.n,.lst (vals c.a),.lst (byts c.s)] = ceA c:=rfl
 have k0:Chg (fun _ => False) t t m M1:=Chg.refl bd k1
 have hT1:=h.keep k0.kt (by simp) (by simp) (by simp) (by simp)
 simp
 simp at hM1
 rw [← hM1]
 clear hM1
 refine Aaq (by kernel_rfl) ?_
 simp [gT1,gP1,tkC,pgC,gc,ecA]
 refine Aad (q60 hT1.b.ar c h1 h2) ?_
 rintro _ m5 ⟨rfl,hup⟩
 obtain ⟨t5,hT5,c5⟩:=hT1.arena hup
 have n5:=c5.kc.next
 have no3:∀ {j:Nat} {r:Nat},t j = some r → r ≠ 3 → j < M1.next → m5.get j = M1.get j:=fun hj hr hl => (c5.kt.get hj (by simpa using hr) hl).1
 have g5T:=(no3 tT (by omega) (by omega)).trans gT1
 have g5P:=(no3 tP (by omega) (by omega)).trans gP1
 have g5c:m5.get m.next = _:=(c5.kc.get m.next (by omega) (fun ⟨r,a,_⟩ => by have:=bd m.next (by rw [a]; simp); omega)).trans gc
 have g5W:=(no3 hW (by omega) (by omega)).trans ((k1.get W hl).trans hg)
 have nT:T ≠ m5.next:=by omega
 have nP:P ≠ m5.next:=by omega
 have nc:m.next ≠ m5.next:=by omega
 have nW:W ≠ m5.next:=by omega
 simp
 refine Aa2 (l:=[(3,12),(6,12),(7,12)]) (by kernel_rfl) (?_:List.all _ _ = true) ?_
 ·simp [metAtD,metOkD,rank,verKeptD,Region.wanted,Mem.ver,gT1,gP1,gc,g5T,g5P,g5c,nT,nP,nc]
 obtain ⟨M6,hM6⟩:∃ M6,M6 = (m5.new [int 0,int 0] false).set m5.next [int (allocM s.ar c).2.1.1,int (allocM s.ar c).2.1.2]:=⟨_,rfl⟩
 have k6:Kp m5 M6:=by rw [hM6]; simp
 have g6:∃ w,M6.get m5.next = some (.cells [int (allocM s.ar c).2.1.1,int (allocM s.ar c).2.1.2] false w):=by rw [hM6]; exact ⟨_,by simp; rfl⟩
 obtain ⟨w6,g6⟩:=g6
 have g6W:=(k6.get W (by omega)).trans g5W
 have c6:Chg (fun _ => False) t5 t5 m5 M6:=Chg.refl c5.bd k6
 have hT6:=hT5.keep c6.kt (by simp) (by simp) (by simp) (by simp)
 have call:Chg (fun r' => r' = 3) t t5 m M6:=(Chg.ahead bd k1 c5).trans (c6.mono fun _ q => q.elim)
 by_cases he:(allocM s.ar c).2.2 = 0
 ·have t5W:t5 W = some r:=(c5.same W r (by show ¬ r = 3; omega)).2 hW
  have cW:Chg (· = r) t5 t5 M6 (M6.set W (splice cs off [int (allocM s.ar c).2.1.1,int (allocM s.ar c).2.1.2])):=Chg.set (R:=(· = r)) c6.bd t5W rfl _
  have hs:splice cs off [int (allocM s.ar c).2.1.1,int (allocM s.ar c).2.1.2] = cs.take off ++ int (allocM s.ar c).2.1.1 :: int (allocM s.ar c).2.1.2 :: cs.drop (off + 2):=by simp [splice]
  rw [hs] at cW
  simp [he,g5W,nW,hoff]
  rw [← hM6]
  refine hQ _ _ _ ⟨.inl rfl,[],rfl,rfl,t5,now,q,(call.mono fun _ q => .inr (.inl q)).trans (Chg.mono cW fun _ q => Or.inr (Or.inr q)),?_⟩
  rw [if_neg (by rw [he]; simp)]
  exact ⟨rfl,hT6.keep cW.kt (by omega) (by omega) (by omega) (by omega),(call.mono fun _ q => .inl q).trans (Chg.mono cW fun _ q => Or.inr q),t5W,M6.clock + 1,by rw [hs]; simp⟩
 ·simp [he]
  rw [← hM6]
  refine Aad (w89 hT6 8) ?_
  rintro _ m7 ⟨rfl,q7,hT7,c7⟩
  simp
  refine hQ _ _ _ ⟨.inr rfl,[],rfl,rfl,t5,nilA,q7,(call.mono fun _ q => .inr (.inl q)).trans (c7.mono fun _ q => .inl q),?_⟩
  rw [if_pos he]
  exact ⟨rfl,hT7⟩
end
theorem Ara {cfg:Cfg} {N:Nat} {Q:Ex → Sl → Mem → Prop} {k:List It} {s:Sl} {m:Mem} {b:Code} (hb:∀ Q':Ex → Sl → Mem → Prop,(∀ e s m,e ≠ .normal → goE Tryz.prog cfg N Q k e s m → Q' e s m) → go Tryz.prog cfg N Q' [.code b] s m):go Tryz.prog cfg N Q (.code (.loop b) :: k) s m :=
 Acw (fun _ s' m' => s' = s ∧ m' = m) 0 ⟨rfl,rfl⟩ (by rintro n _ _ ⟨rfl,rfl⟩ Q' _ he; exact hb Q' he)
def RM (r:Nat):Prop:=r = 0 ∨ r = 3 ∨ 10 ≤ r
theorem ptr74 {x y:Operand} {i j:Nat}:abin Tryz.prog .neq 81 x y (.ptr i j) (.sc (.pointer none)) = some (.sc (.bool true)):=by
 have:nilTest Tryz.prog 81 (.ptr i j) (.sc (.pointer none)) = some false:=by
  unfold nilTest
  rw [Tryz.underlying81]
 simp [abin,this,plain]
theorem Aqo {x y:Operand} {i j:Nat}:abin Tryz.prog .eql 81 x y (.ptr i j) (.sc (.pointer none)) = some (.sc (.bool false)):=by
 have:nilTest Tryz.prog 81 (.ptr i j) (.sc (.pointer none)) = some false:=by
  unfold nilTest
  rw [Tryz.underlying81]
 simp [abin,this,plain]
theorem nil74 {x y:Operand}:abin Tryz.prog .neq 81 x y nilA (.sc (.pointer none)) = some (.sc (.bool false)):=by kernel_rfl
theorem Aqy {x y:Operand}:abin Tryz.prog .eql 81 x y nilA (.sc (.pointer none)) = some (.sc (.bool true)):=by kernel_rfl
theorem nil75 {x y:Operand}:abin Tryz.prog .neq 82 x y nilA (.sc (.pointer none)) = some (.sc (.bool false)):=by kernel_rfl
section
variable {t:Ro} {T P A:Nat} {pr:PrM} {p:PgM} {s:MaM} {now:AV} {q:RestA} {m:Mem} {fs:List FrM} {u:AV}
theorem w117 (h:ChA t m fs u):EH Tryz.prog ca (.func 101) [u] m (int (fs.length:Nat)) m:=by
 cases fs with
 | nil =>
  have h:u = nilA:=h
  subst h
  refine Aaw Tryz.func101 rfl rfl rfl rfl (args1:=[nilA]) (m1:=m) (by simp [fzvs]) (by simp) (by simp [Tryz.f101]) (by simp [Tryz.f101]) ?_
  simp [Tryz.f101,show ca.keepRes 101 = false from rfl,Aqy]
 | cons f fs =>
  obtain ⟨F,u',rfl,⟨px,cx,sx,hf⟩,_⟩:=h
  obtain ⟨_,w,g⟩:=hf.get
  refine Aaw Tryz.func101 rfl rfl rfl rfl (args1:=[.ptr F 0]) (m1:=m) (by simp [fzvs]) (by simp) (by simp [Tryz.f101]) (by simp [Tryz.f101]) ?_
  simp [Tryz.f101,show ca.keepRes 101 = false from rfl,Aqo,g,frC]
theorem w73 (h:TkA t T P A pr p s now q m) (hc:ChA t m fs u) (hl:∀ f ∈ fs,f.stack.length ≤ 4096) (v:Val):wph Tryz.prog ca (.func 29) [.ptr T 0,valA v,u] m fun r m' => r = .tup [] ∧ ∃ t' now' q',TkA t' T P A pr p (answerM v fs s) now' q' m' ∧ ChA t' m' (answerM v fs s).frames now' ∧ Chg RM t t' m m':=by
 have bd:=h.b.bd
 obtain ⟨M1,hM1⟩:∃ M1,M1 = m.new [int v.1,int v.2] false:=⟨_,rfl⟩
 have k1:Kp m M1:=by rw [hM1]; simp
 have nM:M1.next = m.next + 1:=by rw [hM1]; simp
 have b0:M1.get m.next = some (.cells [int v.1,int v.2] false (m.clock + 1)):=by rw [hM1]; simp
 have c1:Chg (fun _ => False) t t m M1:=Chg.refl bd k1
 have h1:=h.keep c1.kt (by simp) (by simp) (by simp) (by simp)
 obtain ⟨hT1,w1,g1⟩:=h1.tk
 have nT:T ≠ m.next:=by have:=h.tk.1; omega
 have nT':m.next ≠ T:=Ne.symm nT
 cases fs with
 | nil =>
  have hc:u = nilA:=hc
  subst hc
  obtain ⟨z1,y1⟩:=h1.set (s':=s) (now':=nilA) (q':=q) rfl h.args
  obtain ⟨z2,y2⟩:=z1.set (s':={ s with status:=3 }) (now':=nilA) (q':=q) rfl h.args
  obtain ⟨z3,y3⟩:=z2.set (s':=answerM v [] s) (now':=nilA) (q':=q) rfl h.args
  refine Aah Tryz.func29 rfl rfl (by simp [Tryz.f29]) (by simp [Tryz.f29]) fun Q hQ => ?_
  simp only [Tryz.f29,show ca.keepRes 29 = false from rfl,show ca.keepArgs 29 = false from rfl] at hQ ⊢
  simp
  rw [← hM1]
  clear hM1
  refine Ara fun Q' he => ?_
  simp [nil74]
  refine he _ _ _ (by simp) ?_
  simp [g1,tkC,Aqy]
  refine Aaq (by kernel_rfl) ?_
  simp [b0,nT,nT']
  refine Aa2 (l:=[(2,5)]) (by kernel_rfl) (?_:List.all _ _ = true) ?_
  ·simp [metAtD,metOkD,rank,verKeptD,Region.wanted,Mem.ver,b0,nT,nT']
  simp
  exact hQ _ _ _ ⟨.inr rfl,[],rfl,rfl,t,nilA,q,z3,rfl,((c1.mono fun _ q => q.elim).trans ((y1.trans y2).trans y3)).mono fun _ q => .inl q⟩
 | cons f fs =>
  obtain ⟨F,u',rfl,⟨px,cx,sx,hf⟩,hc'⟩:=hc
  have hT0:=h.tk.1
  obtain ⟨z1,y1⟩:=h1.set (s':=s) (now':=.ptr F 0) (q':=q) rfl h.args
  obtain ⟨z2,y2⟩:=z1.set (s':={ s with status:=1 }) (now':=.ptr F 0) (q':=q) rfl h.args
  obtain ⟨M3,hM3⟩:∃ M3,M3 = (M1.set T (tkC P s (.ptr F 0) q)).set T (tkC P { s with status:=1 } (.ptr F 0) q):=⟨_,rfl⟩
  rw [← hM3] at z2 y2
  have c3:Chg (· = 0) t t m M3:=(c1.mono fun _ q => q.elim).trans (y1.trans y2)
  obtain ⟨M4,hM4⟩:∃ M4,M4 = M3.new [int v.1,int v.2] false:=⟨_,rfl⟩
  have k4:Kp M3 M4:=by rw [hM4]; simp
  have n3:M3.next = m.next + 1:=by rw [hM3]; simp [nM]
  have e4:Chg (fun _ => False) t t M3 M4:=Chg.refl c3.bd k4
  have c4:Chg (· = 0) t t m M4:=c3.trans (e4.mono fun _ q => q.elim)
  have b3:M3.get m.next = some (.cells [int v.1,int v.2] false (m.clock + 1)):=by rw [hM3]; simp [nT',b0]
  have hsrc:srcOf M4 (.sl M3.next 0 1 2 true (some 1)) = some [valA v]:=by rw [hM4]; exact Ai4
  have f1:=hf.keep c1.kt (by simp) (by simp) (by simp)
  have f3:=hf.keep c3.kt (by simp [roF]) (by simp [roP]) (by simp [roS])
  have f4:=f3.keep e4.kt (by simp) (by simp) (by simp)
  have hl':=hl f (by simp)
  obtain ⟨x',m5,t',a1,a2,a3⟩:=f4.stk.put c4.bd hl' v
  obtain ⟨_,v1,g1F⟩:=f1.get
  obtain ⟨_,v3,g3F⟩:=f3.get
  obtain ⟨_,v4,g4F⟩:=f4.get
  obtain ⟨hF5,v5,g5F⟩:=a3.kt.has f4.tF noRo.1 f4.get
  obtain ⟨zz1,zz2⟩:=Ajp (u:=u') (g:={ f with stack:=f.stack ++ [v] }) ((a3.same F (roF fs.length) noRo.1).2 f4.tF) hF5 (f4.par.keep a3.kt noRo.2.2.1) f4.cap a2 a3.bd
  have nTF:T ≠ F:=by
   rintro rfl
   have:=h.b.tT
   rw [hf.tF] at this
   simp [roF] at this
  have nF:F ≠ m.next:=by have:=hf.get.1; omega
  obtain ⟨o1,o2⟩:=a2.okc
  refine Aah Tryz.func29 rfl rfl (by simp [Tryz.f29]) (by simp [Tryz.f29]) fun Q hQ => ?_
  simp only [Tryz.f29,show ca.keepRes 29 = false from rfl,show ca.keepArgs 29 = false from rfl] at hQ ⊢
  simp
  rw [← hM1]
  clear hM1
  refine Ara fun Q' he => ?_
  simp [ptr74,g1F,frC,nil75]
  refine he _ _ _ (by simp) ?_
  simp [g1,tkC,Aqo]
  simp only [tkC] at hM3
  rw [← hM3]
  refine Aaq (by kernel_rfl) ?_
  simp [g3F,b3,frC,abuildSlice,zeros,fillAt,Aab,abuiltin]
  rw [← hM4,hsrc]
  have g34:=k4.get F f3.get.1
  simp [a1,g5F,frC,o1,o2]
  refine Aa2 (l:=[(4,6)]) (by kernel_rfl) (?_:List.all _ _ = true) ?_
  ·simp [metAtD,metOkD,rank,verKeptD,Region.wanted,Mem.ver,g3F,g34]
  simp
  refine hQ _ _ _ ⟨.inl rfl,[],rfl,rfl,t',.ptr F 0,q,?_,⟨F,u',rfl,⟨px,cx,x',zz1⟩,?_⟩,?_⟩
  ·have z4:=z2.keep e4.kt (by simp) (by simp) (by simp) (by simp)
   have z5:=z4.keepR a3.kt (fun r e => by have e:r = roS fs.length:=e; have:=roHi fs.length; omega)
   have z6:=z5.keepR zz2.kt (fun r e => by have e:r = roF fs.length:=e; have:=roHi fs.length; omega)
   exact ⟨z6.b,z6.tk,z6.args⟩
  ·have w4:=ChA.keep c4.kt fs u' (fun r e => .inl (by have e:r = 0:=e; omega)) hc'
   have w5:=ChA.keep a3.kt fs u' (fun r e => .inr (by have e:r = roS fs.length:=e; simp only [roS] at e; omega)) w4
   exact ChA.keep zz2.kt fs u' (fun r e => .inr (by have e:r = roF fs.length:=e; simp only [roF] at e; omega)) w5
  ·have:=roHi fs.length
   exact ((c4.mono fun r e => .inl e).trans (a3.mono fun r e => .inr (.inr (by have e:r = roS fs.length:=e; omega)))).trans (zz2.mono fun r e => .inr (.inr (by have e:r = roF fs.length:=e; omega)))
end
theorem Fresh.sta {t:Ro} {m m':Mem} {x:AV} {l:List Val} {r:Nat} (h:Fresh m m' x l) (bd:∀ j,t j ≠ none → j < m.next) (k:Kp m m'):∃ t',StA t' r m' x l ∧ Chg (· = r) t t' m m':=by
 rcases h with ⟨rfl,rfl⟩ | ⟨h,id,v,rfl,h1,h2,h3⟩
 ·exact ⟨t,.inl ⟨rfl,.inr rfl⟩,Chg.refl bd k⟩
 ·exact ⟨upd t id r,.inr ⟨id,[],v,Ab9 t id r,h2,rfl,by simpa using h3⟩,Chg.upd (R:=(· = r)) bd (.of (.of k)) rfl h1 h2⟩
theorem ChA.fz {t:Ro} {m m':Mem}:∀ {fs:List FrM} {u:AV},ChA t m fs u → fzv m' u = (u,m')
 | [],u,h => by
  have h:u = nilA:=h
  subst h
  rfl
 | f :: fs,u,⟨F,u',h,_⟩ => by
  subst h
  rfl
theorem ChA.okc {t:Ro} {m:Mem}:∀ {fs:List FrM} {u:AV},ChA t m fs u → u.okc = true ∧ u.cells = [u]
 | [],u,h => by
  have h:u = nilA:=h
  subst h
  exact ⟨rfl,rfl⟩
 | f :: fs,u,⟨F,u',h,_⟩ => by
  subst h
  exact ⟨rfl,rfl⟩
section
variable {t:Ro} {T P A:Nat} {pr:PrM} {p:PgM} {s:MaM} {now:AV} {q:RestA} {m:Mem} {fs:List FrM} {u:AV}
theorem w111 {a:ArM} (ha:ArR t A a m) (bd:∀ j,t j ≠ none → j < m.next) (hsm:Small a) (hp:Pairs a) {l:List Val} (hl:l.length ≤ 4096):wph Tryz.prog ca (.func 95) [.ptr A 0,int 22,.lst (vals l)] m fun v m' => v = .tup [valA (restM a l).1,int (restM a l).2.2] ∧ Up (fun j => t j = some 3) A (restM a l).2.1 m m':=by
 refine q22 ha (fun j hj => bd j (by rw [hj]; simp)) hsm hl fun _ _ _ _ _ m1 C h1 h2 h3 h4 => ?_
 refine A0v h1 h2 h3 h4 rfl fun m2 g1 g2 g3 => ?_
 exact A0u g1 g2 hsm hp h3 g3 hl rfl
theorem Az4 {l:List CoM} {n:Int} {c:CoM} (h:l[n.toNat]? = some c) (hn:0 ≤ n):aindexAddr Tryz.prog 30 (.lst (cods l)) (int n) = some ((codA c).cptr 0):=by
 have:=Afo h
 rwa [show ((n.toNat:Nat):Int) = n by omega] at this
theorem w96 (h:TkA t T P A pr p s now q m) (hc:ChA t m fs u) {c:CeM} {x:CoM} (hx:pr.codes[c.n.toNat]? = some x) (hn:0 ≤ c.n) (hp:0 ≤ x.params ∧ x.params ≤ 32) (hr:0 ≤ x.rest ∧ x.rest ≤ 1 ∧ x.rest ≤ x.params) {l:List Val} (hl:l.length ≤ 64) (hsm:Small s.ar) (hps:Pairs s.ar) (hfl:fs.length ≤ 512) :
  wph Tryz.prog ca (.func 77) [.ptr T 0,ceA c,.lst (vals l),u] m fun r m' => r = .tup [] ∧ ∃ t' now' q',TkA t' T P A pr p (enterM p c l fs s) now' q' m' ∧ ChA t' m' (enterM p c l fs s).frames now' ∧ Chg RM t t' m m':=by
 have bd:=h.b.bd
 obtain ⟨M1,hM1⟩:∃ M1,M1 = m.new [int c.k,int c.n,.lst (vals c.a),.lst (byts c.s)] false:=⟨_,rfl⟩
 have k1:Kp m M1:=by rw [hM1]; simp
 have nM:M1.next = m.next + 1:=by rw [hM1]; simp
 have b0:M1.get m.next = some (.cells [int c.k,int c.n,.lst (vals c.a),.lst (byts c.s)] false (m.clock + 1)):=by rw [hM1]; simp
 have c1:Chg (fun _ => False) t t m M1:=Chg.refl bd k1
 have h1:=h.keep c1.kt (by simp) (by simp) (by simp) (by simp)
 obtain ⟨hT1,w1,g1⟩:=h1.tk
 obtain ⟨cx,⟨hP1,wP,gP⟩,_⟩:=h1.b.pg
 have hix:=Az4 hx hn
 have nT:T ≠ M1.next:=by omega
 have nP:P ≠ M1.next:=by omega
 have n0:m.next ≠ M1.next:=by omega
 refine Aah Tryz.func77 rfl rfl (by simp [Tryz.f77]) (by simp [Tryz.f77]) fun Q hQ => ?_
 simp only [Tryz.f77,show ca.keepRes 77 = false from rfl,show ca.keepArgs 77 = false from rfl] at hQ ⊢
 have hu:=hc.fz (m':=m)
 simp [hu]
 rw [← hM1]
 clear hM1
 refine Aaq (by kernel_rfl) ?_
 simp [g1,gP,tkC,pgC,b0,hix]
 refine Aa2 (l:=[(3,12),(7,12),(9,12),(11,12)]) (by kernel_rfl) (?_:List.all _ _ = true) ?_
 ·simp [metAtD,metOkD,rank,verKeptD,Region.wanted,Mem.ver,g1,gP,b0,nT,nP,n0,objV]
 obtain ⟨M2,hM2⟩:∃ M2,M2 = (M1.new [int 0,int 0,int 0,int 0,.emp 0] false).set M1.next [int x.params,int x.rest,int x.caps,int x.max,.lst (inss x.ins)]:=⟨_,rfl⟩
 have k2:Kp M1 M2:=by rw [hM2]; simp
 have n2:M2.next = m.next + 2:=by rw [hM2]; simp [nM]
 have b1:M2.get M1.next = some (.cells [int x.params,int x.rest,int x.caps,int x.max,.lst (inss x.ins)] false (M1.clock + 2)):=by rw [hM2]; simp
 have b20:=(k2.get m.next (by omega)).trans b0
 rw [← hM2]
 clear hM2
 have c2:Chg (fun _ => False) t t m M2:=Chg.refl bd (k1.trans k2)
 have h2:=h.keep c2.kt (by simp) (by simp) (by simp) (by simp)
 have hc2:=ChA.keep c2.kt fs u (by simp) hc
 obtain ⟨fx,hfx⟩:∃ fx:Nat,x.params - x.rest = fx:=⟨(x.params - x.rest).toNat,by omega⟩
 have hw:IntKind.i64.wrap (x.params - x.rest) = (fx:Int):=by rw [IntWalk.i64_in _ (by omega),hfx]
 have ln:∀ (R:TypeId) (m:Mem),abuiltin Tryz.prog .len #[46] R [.lst (vals l)] m = some (int l.length,m):=fun R m => by rw [Abj Tryz.underlying46,Aa0]
 simp [b1,hw,ln]
 have hent:enterM p c l fs s = (if (l.length:Int) < fx ∨ (x.rest = 0 ∧ (fx:Int) < l.length) then failM s else
  if (parsM s.ar x l).1 ≠ 0 ∨ 512 ≤ fs.length then failM { s with ar:=(parsM s.ar x l).2.2 }
  else { s with ar:=(parsM s.ar x l).2.2,status:=1,frames:=⟨c.n.toNat,0,(parsM s.ar x l).2.1,c.a,[]⟩ :: fs }):=by
  unfold enterM
  rw [h.b.codes,hx]
  dsimp only
  rw [hfx]
 have bad:∀ (k:Int),enterM p c l fs s = failM s → ∀ {t2:Ro} {m2:Mem} {q2:RestA},TkA t2 T P A pr p (failM s) nilA q2 m2 → Chg RM t t2 m m2 → ∃ t' now' q',TkA t' T P A pr p (enterM p c l fs s) now' q' m2 ∧ ChA t' m2 (enterM p c l fs s).frames now' ∧ Chg RM t t' m m2:=by
  intro k e t2 m2 q2 a b
  rw [e]
  exact ⟨t2,nilA,q2,a,rfl,b⟩
 by_cases hA:l.length < fx
 ·simp [hA,undefV,undef]
  refine Aad (w89 h2 2) ?_
  rintro _ m7 ⟨rfl,q7,hT7,c7⟩
  simp
  exact hQ _ _ _ ⟨.inr rfl,[],rfl,rfl,bad 2 (by rw [hent,if_pos (.inl (by omega))]) hT7 ((c2.mono fun _ q => q.elim).trans (c7.mono fun _ q => .inl q))⟩
 by_cases hB:x.rest = 0 ∧ fx < l.length
 ·simp [hA,hB.1,hB.2,undefV,undef,b1,ln]
  refine Aad (w89 h2 2) ?_
  rintro _ m7 ⟨rfl,q7,hT7,c7⟩
  simp
  exact hQ _ _ _ ⟨.inr rfl,[],rfl,rfl,bad 2 (by rw [hent,if_pos (.inr ⟨hB.1,by omega⟩)]) hT7 ((c2.mono fun _ q => q.elim).trans (c7.mono fun _ q => .inl q))⟩
 rw [if_neg (by omega)] at hent
 have hcl:aslice Tryz.prog 46 (.lst (vals l)) none (some (int fx)) none = some (.lst (vals (l.take fx))):=by
  have:=Acf (P:=Tryz.prog) (T:=46) (xs:=vals l) (k:=2) (lo:=none) (hi:=some (int (fx:Int))) (l:=none) (h:=some fx) Tryz.underlying46 Abb Aa1 (Abd (n:=fx)) (by simp) (by simp; omega) (Aba l)
  rw [this]
  simp [vals,List.map_take]
 have hdr:aslice Tryz.prog 46 (.lst (vals l)) (some (int fx)) none none = some (.lst (vals (l.drop fx))):=by
  have:=Acf (P:=Tryz.prog) (T:=46) (xs:=vals l) (k:=2) (lo:=some (int (fx:Int))) (hi:=none) (l:=some fx) (h:=none) Tryz.underlying46 Abb (Abd (n:=fx)) Aa1 (by simp; omega) (by simp) (Aba l)
  rw [this]
  simp [vals,List.map_drop,← List.map_take]
 have hRP:∀ r,r = roP fs.length → RM r:=fun r e => .inr (.inr (by have:=roHi fs.length; omega))
 have hc0:Chg RM t t m M2:=c2.mono fun _ q => q.elim
 refine (fun (tail:∀ (s5:Sl) (m5:Mem),s5.at 0 = .ptr T 0 → s5.at 5 = .ptr m.next 0 → s5.at 3 = u → m.next + 1 ≤ m5.next → (parsM s.ar x l).1 = 0 → (∃ t5,StA t5 (roP fs.length) m5 (s5.at 10) (parsM s.ar x l).2.1 ∧ TkA t5 T P A pr p { s with ar:=(parsM s.ar x l).2.2 } now q m5 ∧ ChA t5 m5 fs u ∧ m5.get m.next = some (.cells [int c.k,int c.n,.lst (vals c.a),.lst (byts c.s)] false (m.clock + 1)) ∧ Chg RM t t5 m m5) → goH Tryz.prog ca 99 Q (.func 101) [u] (some 78) ?k s5 m5) => ?main) ?tail
 case main =>
  by_cases hr0:x.rest = 0
  ·simp [hA,hr0,show ¬ fx < l.length by omega,undefV,undef,b1,ln,hcl]
   refine Aad (q110 (.inl rfl) (by simp; omega)) ?_
   rintro y m3 ⟨k3,fr⟩
   obtain ⟨t3,st3,c3⟩:=fr.sta (r:=roP fs.length) c2.bd k3
   have b13:=(k3.get M1.next (by omega)).trans b1
   have hpar:parsM s.ar x l = (0,l.take fx,s.ar):=by rw [parsM,if_neg (by omega),hfx]; rfl
   simp [b13,hr0]
   refine tail _ _ ?_ ?_ ?_ ?_ (by rw [hpar]) ⟨t3,?_,?_,?_,?_,?_⟩
   ·simp
   ·simp
   ·simp
   ·have:=k3.next; omega
   ·rw [hpar]; simpa using st3
   ·rw [hpar]
    have:=h2.keepR c3.kt (fun r e => by have e:r = _:=e; have:=roHi fs.length; omega)
    exact ⟨this.b,this.tk,this.args⟩
   ·exact ChA.keep c3.kt fs u (fun r e => .inr (by have e:r = _:=e; simp only [roP] at e; omega)) hc2
   ·rw [k3.get m.next (by omega)]; exact b20
   ·exact hc0.trans (c3.mono fun r e => hRP r e)
  ·have hr1:x.rest = 1:=by omega
   simp [hA,hr1,undefV,undef,b1,ln,hcl]
   refine Aad (q110 (.inl rfl) (by simp; omega)) ?_
   rintro y m3 ⟨k3,fr⟩
   obtain ⟨t3,st3,c3⟩:=fr.sta (r:=roP fs.length) c2.bd k3
   have b13:=(k3.get M1.next (by omega)).trans b1
   have h3:=h2.keepR c3.kt (fun r e => by have e:r = _:=e; have:=roHi fs.length; omega)
   have hc3:=ChA.keep c3.kt fs u (fun r e => .inr (by have e:r = _:=e; simp only [roP] at e; omega)) hc2
   obtain ⟨hT3,wT3,gT3⟩:=h3.tk
   obtain ⟨cx3,⟨hP3,wP3,gP3⟩,_⟩:=h3.b.pg
   have b03:=(k3.get m.next (by omega)).trans b20
   have n3:=k3.next
   simp [b13,hr1]
   refine Aaq (by kernel_rfl) ?_
   simp [gT3,gP3,tkC,pgC,hdr]
   refine Aad (w111 h3.b.ar c3.bd hsm hps (l:=l.drop fx) (by simp; omega)) ?_
   rintro _ m4 ⟨rfl,hup⟩
   obtain ⟨t4,h4,c4⟩:=h3.arena hup
   have n4:=c4.kc.next
   have c34:Chg RM t t4 M2 m4:=(c3.mono fun r e => hRP r e).trans (c4.mono fun r e => .inr (.inl e))
   have b04:=(c34.box0 bd (B:=m.next) (by omega) (by omega)).trans b20
   have gT4:=(c4.kt.get h3.b.tT (by simp) hT3).1.trans gT3
   have gP4:=(c4.kt.get h3.b.tP (by simp) hP3).1.trans gP3
   have nT4:T ≠ m4.next:=by omega
   have nP4:P ≠ m4.next:=by omega
   simp
   refine Aa2 (l:=[(3,14),(6,14)]) (by kernel_rfl) (?_:List.all _ _ = true) ?_
   ·simp [metAtD,metOkD,rank,verKeptD,Region.wanted,Mem.ver,gT3,gP3,gT4,gP4,nT4,nP4]
   obtain ⟨res,hres⟩:∃ res,res = restM s.ar (l.drop fx):=⟨_,rfl⟩
   have hpar:parsM s.ar x l = (res.2.2,l.take fx ++ [res.1],res.2.1):=by rw [parsM,if_pos hr1,hfx,hres]; rfl
   rw [← hres] at h4 ⊢
   obtain ⟨M5,hM5⟩:∃ M5,M5 = (m4.new [int 0,int 0] false).set m4.next [int res.1.1,int res.1.2]:=⟨_,rfl⟩
   have k5:Kp m4 M5:=by rw [hM5]; simp
   have n5:M5.next = m4.next + 1:=by rw [hM5]; simp
   have g5:M5.get m4.next = some (.cells [int res.1.1,int res.1.2] false (m4.clock + 2)):=by rw [hM5]; simp
   have c5:Chg (fun _ => False) t4 t4 m4 M5:=Chg.refl c4.bd k5
   have h5:=h4.keepR c5.kt (by simp)
   have call5:Chg RM t t4 m M5:=hc0.trans (c34.trans (c5.mono fun _ q => q.elim))
   rw [← hM5]
   clear hM5
   by_cases hk:res.2.2 = 0
   ·have st5:=(st3.keep c4.kt (by have:=roHi fs.length; simp; omega)).keep c5.kt (by simp)
    have hc5:=ChA.keep c5.kt fs u (by simp) (ChA.keep c4.kt fs u (fun r e => .inl (by have e:r = 3:=e; omega)) hc3)
    obtain ⟨M6,hM6⟩:∃ M6,M6 = M5.new [int res.1.1,int res.1.2] false:=⟨_,rfl⟩
    have k6:Kp M5 M6:=by rw [hM6]; simp
    have hsrc:srcOf M6 (.sl M5.next 0 1 2 true (some 1)) = some [valA res.1]:=by rw [hM6]; exact Ai4
    have c6:Chg (fun _ => False) t4 t4 M5 M6:=Chg.refl c5.bd k6
    obtain ⟨x',m7,t7,a1,a2,a3⟩:=(st5.keep c6.kt (by simp)).put c6.bd (by simp; omega) res.1
    simp [hk,g5,abuildSlice,zeros,fillAt,Aab,abuiltin]
    rw [← hM6,hsrc]
    simp [a1]
    have n7:=a3.kc.next
    have n6:=k6.next
    refine tail _ _ ?_ ?_ ?_ ?_ (by rw [hpar]; exact hk) ⟨t7,?_,?_,?_,?_,?_⟩
    ·simp
    ·simp
    ·simp
    ·omega
    ·rw [hpar]; simpa using a2
    ·rw [hpar]
     exact (h5.keepR c6.kt (by simp)).keepR a3.kt (fun r e => by have e:r = _:=e; have:=roHi fs.length; omega)
    ·exact ChA.keep a3.kt fs u (fun r e => .inr (by have e:r = _:=e; simp only [roP] at e; omega)) (ChA.keep c6.kt fs u (by simp) hc5)
    ·have c47:Chg RM t4 t7 m4 m7:=(c5.mono fun _ q => q.elim).trans ((c6.mono fun _ q => q.elim).trans (a3.mono fun r e => hRP r e))
     rw [(c34.trans c47).box0 bd (by omega) (by omega)]
     exact b20
    ·exact call5.trans ((c6.mono fun _ q => q.elim).trans (a3.mono fun r e => hRP r e))
   ·have hfail:enterM p c l fs s = failM { s with ar:=res.2.1 }:=by rw [hent,hpar]; exact if_pos (Or.inl hk)
    simp [hk]
    refine Aad (w89 h5 res.2.2) ?_
    rintro _ m7 ⟨rfl,q7,hT7,c7⟩
    simp
    refine hQ _ _ _ ⟨.inr rfl,[],rfl,rfl,t4,nilA,q7,?_,?_,call5.trans (c7.mono fun _ q => .inl q)⟩
    ·rw [hfail]; exact hT7
    ·rw [hfail]; rfl
 case tail =>
  rintro s5 m5 e0 e5 e3 hlt hk ⟨t5,st5,h5,hc5,b5,call5⟩
  have n5:=call5.kc.next
  obtain ⟨hT5,wT5,gT5⟩:=h5.tk
  have n0T:m.next ≠ T:=by have:=h.tk.1; omega
  by_cases hd:512 ≤ fs.length
  ·have hfail:enterM p c l fs s = failM { s with ar:=(parsM s.ar x l).2.2 }:=by rw [hent]; exact if_pos (Or.inr hd)
   simp [(w117 hc5).go,show (512:Int) ≤ fs.length by omega,e0]
   refine Aad (w89 h5 14) ?_
   rintro _ m7 ⟨rfl,q7,hT7,c7⟩
   simp
   refine hQ _ _ _ ⟨.inr rfl,[],rfl,rfl,t5,nilA,q7,?_,?_,call5.trans (c7.mono fun _ q => .inl q)⟩
   ·rw [hfail]; exact hT7
   ·rw [hfail]; rfl
  ·have hok:enterM p c l fs s = { s with ar:=(parsM s.ar x l).2.2,status:=1,frames:=⟨c.n.toNat,0,(parsM s.ar x l).2.1,c.a,[]⟩ :: fs }:=by rw [hent]; exact if_neg (by rintro (a | a); exact a hk; exact hd a)
   obtain ⟨z1,y1⟩:=h5.set (s':={ s with ar:=(parsM s.ar x l).2.2,status:=1 }) (now':=now) (q':=q) rfl h.args
   obtain ⟨M6,hM6⟩:∃ M6,M6 = m5.set T (tkC P { s with ar:=(parsM s.ar x l).2.2,status:=1 } now q):=⟨_,rfl⟩
   have n6:M6.next = m5.next:=by rw [hM6]; simp
   have b6:M6.get m.next = some (.cells [int c.k,int c.n,.lst (vals c.a),.lst (byts c.s)] false (m.clock + 1)):=by rw [hM6]; simp [n0T,b5]
   rw [← hM6] at z1 y1
   have hc6:=ChA.keep y1.kt fs u (fun r e => .inl (by have e:r = 0:=e; omega)) hc5
   simp [(w117 hc5).go,show ¬ (512:Int) ≤ fs.length by omega,e0,gT5,tkC]
   simp only [tkC] at hM6
   rw [← hM6]
   refine Aaq (by kernel_rfl) ?_
   obtain ⟨o1,o2⟩:=st5.okc
   obtain ⟨o3,o4⟩:=hc5.okc
   obtain ⟨hT6,wT6,gT6⟩:=z1.tk
   simp only [tkC] at gT6
   have hw2:IntKind.i64.wrap ((fs.length:Int) + 1) = (fs.length:Int) + 1:=IntWalk.i64_in _ (by omega)
   have nT6:T ≠ M6.next:=by omega
   have n06:m.next ≠ M6.next:=by omega
   have ecn:((c.n.toNat:Nat):Int) = c.n:=by omega
   obtain ⟨M7,hM7⟩:∃ M7,M7 = M6.new (frC ⟨c.n.toNat,0,(parsM s.ar x l).2.1,c.a,[]⟩ fs.length (s5.at 10) (.lst (vals c.a)) (.emp 0) u) false:=⟨_,rfl⟩
   have k7:Kp M6 M7:=by rw [hM7]; simp
   have c7:Chg (· = roF fs.length) t5 (upd t5 M6.next (roF fs.length)) M6 M7:=Chg.upd (R:=(· = roF fs.length)) y1.bd (.of (.of k7)) rfl (Nat.le_refl _) (by rw [hM7]; simp)
   have z7:=z1.keepR c7.kt (fun r e => by have e:r = _:=e; have:=roHi fs.length; omega)
   obtain ⟨z8,y8⟩:=z7.set (s':={ s with ar:=(parsM s.ar x l).2.2,status:=1 }) (now':=.ptr M6.next 0) (q':=q) rfl h.args
   have hF:FrB (upd t5 M6.next (roF fs.length)) fs.length M6.next ⟨c.n.toNat,0,(parsM s.ar x l).2.1,c.a,[]⟩ (s5.at 10) (.lst (vals c.a)) (.emp 0) u M7 :=
    ⟨Ab9 _ _ _,⟨by rw [hM7]; simp,M6.clock + 1,by rw [hM7]; simp⟩,(st5.keep y1.kt (show ¬ roP fs.length = 0 by have:=roHi fs.length; omega)).keep c7.kt noRo.2.2.2.2.1,.inl rfl,.inl ⟨rfl,.inl rfl⟩⟩
   simp [e0,e3,e5,b6,(w117 hc6).go,abuild,placesOf,fillAt,o1,o2,o3,o4,hw2,nT6,gT6]
   refine Aa2 (l:=[(2,8),(5,8)]) (by kernel_rfl) (?_:List.all _ _ = true) ?_
   ·simp [metAtD,metOkD,rank,verKeptD,Region.wanted,Mem.ver,b6,n06]
   simp
   have hM7':M7 = M6.new [int c.n,int 0,nilA,s5.at 10,.lst (vals c.a),.emp 0,u,int ((fs.length:Int) + 1)] false:=by
    rw [hM7,frC,ecn]
    rfl
   rw [← hM7']
   refine hQ _ _ _ ⟨.inl rfl,[],rfl,rfl,upd t5 M6.next (roF fs.length),.ptr M6.next 0,q,?_,?_,?_⟩
   ·rw [hok]
    exact ⟨z8.b,z8.tk,z8.args⟩
   ·rw [hok]
    refine ⟨M6.next,u,rfl,⟨_,_,_,hF.keep y8.kt ?_ ?_ ?_⟩,ChA.keep y8.kt fs u (fun r e => .inl (by have e:r = 0:=e; omega)) (ChA.keep c7.kt fs u (fun r e => .inr (by have e:r = _:=e; simp only [roF] at e; omega)) hc6)⟩
    ·show ¬ roF fs.length = 0
     have:=roHi fs.length; omega
    ·show ¬ roP fs.length = 0
     have:=roHi fs.length; omega
    ·show ¬ roS fs.length = 0
     have:=roHi fs.length; omega
   ·refine call5.trans ((y1.mono fun _ e => .inl e).trans ((c7.mono fun r e => .inr (.inr ?_)).trans (y8.mono fun _ e => .inl e)))
    have e:r = _:=e
    have:=roHi fs.length
    omega
end
section
variable {t:Ro} {T P A:Nat} {pr:PrM} {p:PgM} {s:MaM} {now:AV} {q:RestA} {m:Mem} {fs:List FrM} {u:AV}
theorem w72 (h:TkA t T P A pr p s now q m) (hc:ChA t m fs u) (hpg:OkPg p) (hn:Nice p.codes s.ar) {f:Val} (hf:f.1 ≠ 6) {l:List Val} (hl:l.length ≤ 64) (hfl:fs.length ≤ 512) :
  wph Tryz.prog ca (.func 53) [.ptr T 0,valA f,.lst (vals l),u] m fun r m' => r = .tup [] ∧ ∃ t' now' q',TkA t' T P A pr p (callM p f l fs s) now' q' m' ∧ ChA t' m' (callM p f l fs s).frames now' ∧ Chg RM t t' m m':=by
 have bd:=h.b.bd
 obtain ⟨M1,hM1⟩:∃ M1,M1 = m.new [int f.1,int f.2] false:=⟨_,rfl⟩
 have k1:Kp m M1:=by rw [hM1]; simp
 have nM:M1.next = m.next + 1:=by rw [hM1]; simp
 have b0:M1.get m.next = some (.cells [int f.1,int f.2] false (m.clock + 1)):=by rw [hM1]; simp
 have c1:Chg (fun _ => False) t t m M1:=Chg.refl bd k1
 have h1:=h.keep c1.kt (by simp) (by simp) (by simp) (by simp)
 obtain ⟨hT1,w1,g1⟩:=h1.tk
 obtain ⟨cx,⟨hP1,wP,gP⟩,_⟩:=h1.b.pg
 have qg:=q57 h1.b.ar hn.small f
 obtain ⟨c,hcc⟩:∃ c,c = (getM s.ar f).1:=⟨_,rfl⟩
 have nT:T ≠ M1.next:=by omega
 have nP:P ≠ M1.next:=by omega
 have n0:m.next ≠ M1.next:=by omega
 have hu:=hc.fz (m':=m)
 refine Aah Tryz.func53 rfl rfl (by simp [Tryz.f53]) (by simp [Tryz.f53]) fun Q hQ => ?_
 simp only [Tryz.f53,show ca.keepRes 53 = false from rfl,show ca.keepArgs 53 = false from rfl] at hQ ⊢
 simp [hu,hf]
 rw [← hM1]
 clear hM1
 refine Aaq (by kernel_rfl) ?_
 simp [g1,gP,tkC,pgC,b0,Aab,qg.go]
 refine Aa2 (l:=[(3,12),(6,12),(7,12)]) (by kernel_rfl) (?_:List.all _ _ = true) ?_
 ·simp [metAtD,metOkD,rank,verKeptD,Region.wanted,Mem.ver,g1,gP,b0,nT,nP,n0]
 rw [← hcc]
 obtain ⟨M2,hM2⟩:∃ M2,M2 = (M1.new [int 0,int 0,.emp 0,.emp 0] false).set M1.next [int c.k,int c.n,.lst (vals c.a),.lst (byts c.s)]:=⟨_,rfl⟩
 have k2:Kp M1 M2:=by rw [hM2]; simp
 have n2:M2.next = m.next + 2:=by rw [hM2]; simp [nM]
 have b1:M2.get M1.next = some (.cells [int c.k,int c.n,.lst (vals c.a),.lst (byts c.s)] false (M1.clock + 2)):=by rw [hM2]; simp
 have b20:=(k2.get m.next (by omega)).trans b0
 rw [← hM2]
 clear hM2
 have c2:Chg (fun _ => False) t t m M2:=Chg.refl bd (k1.trans k2)
 have hc0:Chg RM t t m M2:=c2.mono fun _ q => q.elim
 have h2:=h.keep c2.kt (by simp) (by simp) (by simp) (by simp)
 have hc2:=ChA.keep c2.kt fs u (by simp) hc
 obtain ⟨hT2,w2,g2⟩:=h2.tk
 obtain ⟨cx2,⟨hP2,wP2,gP2⟩,_⟩:=h2.b.pg
 have bad:callM p f l fs s = failM s → ∀ {q2:RestA} {m2:Mem},TkA t T P A pr p (failM s) nilA q2 m2 → Chg (· = 0) t t M2 m2 → ∃ t' now' q',TkA t' T P A pr p (callM p f l fs s) now' q' m2 ∧ ChA t' m2 (callM p f l fs s).frames now' ∧ Chg RM t t' m m2:=by
  intro e q2 m2 a b
  rw [e]
  exact ⟨t,nilA,q2,a,rfl,hc0.trans (b.mono fun _ q => .inl q)⟩
 by_cases he:(getM s.ar f).2 = 0
 rotate_left
 ·have hb:callM p f l fs s = failM s:=by rw [callM,if_neg (by simp [he])]
  simp [he]
  refine Aad (w89 h2 7) ?_
  rintro _ m7 ⟨rfl,q7,hT7,c7⟩
  simp
  exact hQ _ _ _ ⟨.inl rfl,[],rfl,rfl,bad hb hT7 c7⟩
 by_cases hk:c.k = 5
 rotate_left
 ·have hb:callM p f l fs s = failM s:=by rw [callM,if_neg (by rw [← hcc]; simp [hk])]
  have hk6:c.k ≠ 6:=by
   by_cases h0:c.k = 0
   ·omega
   ·obtain ⟨i,_,hi,ok⟩:=Anr hn (v:=f) (by rw [← hcc]; exact h0)
    rw [← hcc] at ok
    have:=ok.low
    omega
  simp [he]
  refine Aat (by kernel_rfl) (by kernel_rfl) ?_
  simp [b1,hk,hk6,undefV,undef]
  refine Aad (w89 h2 7) ?_
  rintro _ m7 ⟨rfl,q7,hT7,c7⟩
  simp
  exact hQ _ _ _ ⟨.inl rfl,[],rfl,rfl,bad hb hT7 c7⟩
 by_cases hlt:c.n < pr.codes.length
 rotate_left
 ·have hb:callM p f l fs s = failM s:=by rw [callM,if_neg (by rw [← hcc,h.b.codes]; simp; omega)]
  simp [he]
  refine Aat (by kernel_rfl) (by kernel_rfl) ?_
  simp [b1,hk,g2,gP2,tkC,pgC,len22,hlt]
  refine Aad (w89 h2 7) ?_
  rintro _ m7 ⟨rfl,q7,hT7,c7⟩
  simp
  exact hQ _ _ _ ⟨.inl rfl,[],rfl,rfl,bad hb hT7 c7⟩
 ·obtain ⟨i,_,hi,ok⟩:=Anr hn (v:=f) (by rw [← hcc]; omega)
  rw [← hcc] at ok
  obtain ⟨x,hx,hn0,hcap⟩:=ok.proc hk
  have okc:=hpg.codes x (List.mem_of_getElem? hx)
  have hcall:callM p f l fs s = enterM p c l fs s:=by rw [callM,if_pos (by rw [← hcc,h.b.codes]; exact ⟨he,hk,hlt⟩),hcc]
  rw [h.b.codes] at hx
  simp [he]
  refine Aat (by kernel_rfl) (by kernel_rfl) ?_
  have ecA:AV.agg [int 5,int c.n,.lst (vals c.a),.lst (byts c.s)] = ceA c:=by rw [ceA,hk]
  simp [b1,hk,g2,gP2,tkC,pgC,len22,hlt]
  rw [ecA]
  refine Aad (w96 h2 hc2 hx hn0 okc.params okc.rest hl hn.small hn.pairs hfl) ?_
  rintro _ m7 ⟨rfl,t7,now7,q7,hT7,hC7,c7⟩
  simp
  refine hQ _ _ _ ⟨.inl rfl,[],rfl,rfl,t7,now7,q7,?_,?_,hc0.trans c7⟩
  ·rw [hcall]; exact hT7
  ·rw [hcall]; exact hC7
end
section
variable {X:Nat → Prop} {A:Nat} {a:ArM} {m:Mem}
end
structure In3 (t:Ro) (T P A:Nat) (pr:PrM) (p:PgM) (s:MaM) (q:RestA) (F:Nat) (g:FrM) (fs:List FrM) (px cx sx u:AV) (m:Mem):Prop where
 tk:TkA t T P A pr p s (.ptr F 0) q m
 fr:FrB t fs.length F g px cx sx u m
 ch:ChA t m fs u
def ResI (t:Ro) (T P A:Nat) (pr:PrM) (p:PgM) (s':MaM) (m m':Mem):Prop:=∃ t' now' q',TkA t' T P A pr p s' now' q' m' ∧ ChA t' m' s'.frames now' ∧ Chg RM t t' m m'
section
variable {t:Ro} {T P A:Nat} {pr:PrM} {p:PgM} {s:MaM} {q:RestA} {F:Nat} {g:FrM} {fs:List FrM} {px cx sx u:AV} {m:Mem}
theorem In3.bd (h:In3 t T P A pr p s q F g fs px cx sx u m):∀ j,t j ≠ none → j < m.next:=h.tk.b.bd
theorem In3.kp {m':Mem} (h:In3 t T P A pr p s q F g fs px cx sx u m) (k:Kp m m'):In3 t T P A pr p s q F g fs px cx sx u m':=by
 have c:Chg (fun _ => False) t t m m':=Chg.refl h.bd k
 exact ⟨h.tk.keepR c.kt (by simp),h.fr.keep c.kt (by simp) (by simp) (by simp),ChA.keep c.kt fs u (by simp) h.ch⟩
theorem In3.hi {R:Nat → Prop} {t':Ro} {m':Mem} {g':FrM} {px' sx':AV} (h:In3 t T P A pr p s q F g fs px cx sx u m) (c:Chg R t t' m m') (hR:∀ r,R r → roF fs.length ≤ r) (f:FrB t' fs.length F g' px' cx sx' u m'):In3 t' T P A pr p s q F g' fs px' cx sx' u m' :=
 ⟨h.tk.keepR c.kt (fun r e => by have:=hR r e; have:=roHi fs.length; omega),f,ChA.keep c.kt fs u (fun r e => .inr (by have:=hR r e; simp only [roF] at this; omega)) h.ch⟩
theorem roLe (h:Nat):∀ r,r = roF h ∨ r = roS h → roF h ≤ r:=by simp only [roF,roS]; omega
theorem RM_hi {h r:Nat} (e:roF h ≤ r):RM r:=.inr (.inr (by have:=roHi h; omega))
theorem put3 (h:In3 t T P A pr p s q F g fs px cx sx u m) (hl:g.stack.length ≤ 4096) (v:Val):wph Tryz.prog ca (.func 31) [.ptr F 0,valA v] m fun r m' => r = .tup [] ∧ ∃ t' sx',In3 t' T P A pr p s q F (g.put v) fs px cx sx' u m' ∧ Chg RM t t' m m':=by
 refine Ab2 (w64 h.bd h.fr hl v) ?_
 rintro r m' ⟨rfl,t',sx',hf,c⟩
 exact ⟨rfl,t',sx',h.hi c (roLe _) hf,c.mono fun r e => RM_hi (roLe _ r e)⟩
theorem take3 (h:In3 t T P A pr p s q F g fs px cx sx u m) (hl:g.stack.length ≤ 4096) {n:Nat} (hn:n ≤ g.stack.length):wph Tryz.prog ca (.func 50) [.ptr F 0,int n] m fun r m' => r = .lst (vals (g.last n)) ∧ ∃ sx',In3 t T P A pr p s q F (g.cut n) fs px cx sx' u m' ∧ Chg RM t t m m':=by
 refine Ab2 (w68 h.bd h.fr hl hn) ?_
 rintro r m' ⟨rfl,sx',hf,c⟩
 exact ⟨rfl,sx',h.hi c (fun r e => Nat.le_of_eq e.symm) hf,c.mono fun r e => RM_hi (Nat.le_of_eq e.symm)⟩
theorem In3.fin {t0:Ro} {m0:Mem} (h:In3 t T P A pr p s q F g fs px cx sx u m) (c:Chg RM t0 t m0 m):ResI t0 T P A pr p (setT s g fs) m0 m :=
 ⟨t,.ptr F 0,q,⟨h.tk.b,h.tk.tk,h.tk.args⟩,⟨F,u,rfl,⟨px,cx,sx,h.fr⟩,h.ch⟩,c⟩
theorem Alh {l:List Val} {i:Int} (h0:0 ≤ i) (h:i < l.length):l[i.toNat]? = some (atV l i.toNat):=by
 have:i.toNat < l.length:=by omega
 rw [List.getElem?_eq_getElem this,atV,List.getD_eq_getElem?_getD,List.getElem?_eq_getElem this]
 rfl
theorem StA.at {t:Ro} {r:Nat} {x:AV} {l:List Val} (hs:StA t r m x l) {i:Int} (h0:0 ≤ i) (h1:i < l.length):∃ id w e,t id = some r ∧ id < m.next ∧ x = .sl id 0 l.length 2 true none ∧ m.get id = some (.cells (flat (vals (l ++ e))) false w) ∧ aindexAddr Tryz.prog 46 x (int i) = some (.ptr id (i.toNat * 2)) ∧ i.toNat * 2 + 2 ≤ (flat (vals (l ++ e))).length ∧ ((flat (vals (l ++ e))).drop (i.toNat * 2)).take 2 = [int (atV l i.toNat).1,int (atV l i.toNat).2]:=by
 rcases hs with ⟨rfl,_⟩ | ⟨id,e,w,h1',h2,rfl,h4⟩
 ·simp at h1; omega
 ·have hix:=Aax (P:=Tryz.prog) (q:=.i64) (ag:=true) (c:=none) (id:=id) (off:=0) (len:=l.length) (i:=i.toNat) Tryz.underlying46 Abb (by omega)
  rw [show ((i.toNat:Nat):Int) = i by omega,Nat.zero_add] at hix
  have hg:(l ++ e)[i.toNat]? = some (atV l i.toNat):=by rw [List.getElem?_append_left (by omega)]; exact Alh h0 h1
  obtain ⟨f1,f2⟩:=Aeb (k:=2) (Aba (l ++ e)) (by rw [Af5,hg]; rfl)
  exact ⟨id,w,e,h1',h2,rfl,h4,hix,f1,by rw [f2]; simp [valA]⟩
end
section
variable {t:Ro} {T P A:Nat} {pr:PrM} {p:PgM} {s:MaM} {q:RestA} {F:Nat} {g:FrM} {fs:List FrM} {px cx sx u:AV} {m:Mem} {x:InsM}
theorem ins1 (h:In3 t T P A pr p s q F g fs px cx sx u m) (hx:x.1 = 1) (h0:0 ≤ x.2.1) (h1:x.2.1 < p.cv.length) (hl:g.stack.length ≤ 256):wph Tryz.prog ca (.func 26) [.ptr T 0,.ptr F 0,insA x] m fun r m' => r = .tup [] ∧ ResI t T P A pr p (insM p g fs x s) m m':=by
 obtain ⟨M1,hM1⟩:∃ M1,M1 = m.new [int x.1,int x.2.1,int x.2.2] false:=⟨_,rfl⟩
 have k1:Kp m M1:=by rw [hM1]; simp
 have nM:M1.next = m.next + 1:=by rw [hM1]; simp
 have b0:M1.get m.next = some (.cells [int x.1,int x.2.1,int x.2.2] false (m.clock + 1)):=by rw [hM1]; simp
 have hI:=h.kp k1
 have c1:Chg RM t t m M1:=Chg.refl h.bd k1
 obtain ⟨hT,w,gT⟩:=hI.tk.tk
 obtain ⟨cx',⟨hP,wP,gP⟩,cv⟩:=hI.tk.b.pg
 obtain ⟨id,wv,e,e1,e2,rfl,e4,e5,e6,e7⟩:=cv.at h0 h1
 refine Aah Tryz.func26 rfl rfl (by simp [Tryz.f26]) (by simp [Tryz.f26]) fun Q hQ => ?_
 simp only [Tryz.f26,show ca.keepRes 26 = false from rfl,show ca.keepArgs 26 = false from rfl] at hQ ⊢
 simp
 rw [← hM1]
 clear hM1
 simp [b0,hx]
 refine Aat (by kernel_rfl) (by kernel_rfl) ?_
 simp [gT,gP,tkC,pgC,b0,e4,e5,e6,e7,Aab]
 refine Aad (put3 hI (by omega) _) ?_
 rintro _ m7 ⟨rfl,t7,sx7,h7,c7⟩
 simp
 refine hQ _ _ _ ⟨.inl rfl,[],rfl,rfl,?_⟩
 have:=h7.fin (c1.trans c7)
 simpa [insM,hx] using this
end
section
variable {t:Ro} {T P A:Nat} {pr:PrM} {p:PgM} {s:MaM} {q:RestA} {F:Nat} {g:FrM} {fs:List FrM} {px cx sx u:AV} {m:Mem} {x:InsM}
theorem saI (a b:Int):sameA (int a) (int b) = decide (a = b):=by simp [sameA]
theorem In3.set {g':FrM} (h:In3 t T P A pr p s q F g fs px cx sx u m) (e1:g'.params = g.params) (e2:g'.caps = g.caps) (e3:g'.stack = g.stack):In3 t T P A pr p s q F g' fs px cx sx u (m.set F (frC g' fs.length px cx sx u)) ∧ Chg RM t t m (m.set F (frC g' fs.length px cx sx u)):=by
 obtain ⟨a,b⟩:=Ajp (g:=g') (u:=u) h.fr.tF h.fr.get.1 (by rw [e1]; exact h.fr.par) (by rw [e2]; exact h.fr.cap) (by rw [e3]; exact h.fr.stk) h.bd
 exact ⟨h.hi b (fun r e => Nat.le_of_eq e.symm) a,b.mono fun r e => RM_hi (Nat.le_of_eq e.symm)⟩
theorem ResI.fail {t1:Ro} {q7:RestA} {m2:Mem} (h:TkA t1 T P A pr p (failM s) nilA q7 m2) (c:Chg RM t t1 m m2):ResI t T P A pr p (failM s) m m2:=⟨t1,nilA,q7,h,rfl,c⟩
theorem ins2 (h:In3 t T P A pr p s q F g fs px cx sx u m) (hx:x.1 = 2) (h0:0 ≤ x.2.1) (h1:x.2.1 < g.params.length) (hl:g.stack.length ≤ 256):wph Tryz.prog ca (.func 26) [.ptr T 0,.ptr F 0,insA x] m fun r m' => r = .tup [] ∧ ResI t T P A pr p (insM p g fs x s) m m':=by
 obtain ⟨M1,hM1⟩:∃ M1,M1 = m.new [int x.1,int x.2.1,int x.2.2] false:=⟨_,rfl⟩
 have k1:Kp m M1:=by rw [hM1]; simp
 have nM:M1.next = m.next + 1:=by rw [hM1]; simp
 have b0:M1.get m.next = some (.cells [int x.1,int x.2.1,int x.2.2] false (m.clock + 1)):=by rw [hM1]; simp
 have hI:=h.kp k1
 have bd:=h.bd
 have c1:Chg RM t t m M1:=Chg.refl h.bd k1
 obtain ⟨hT,w,gT⟩:=hI.tk.tk
 obtain ⟨cx',⟨hP,wP,gP⟩,cv⟩:=hI.tk.b.pg
 obtain ⟨hF,wF,gF⟩:=hI.fr.get
 obtain ⟨id,wv,e,e1,e2,rfl,e4,e5,e6,e7⟩:=hI.fr.par.at h0 h1
 refine Aah Tryz.func26 rfl rfl (by simp [Tryz.f26]) (by simp [Tryz.f26]) fun Q hQ => ?_
 simp only [Tryz.f26,show ca.keepRes 26 = false from rfl,show ca.keepArgs 26 = false from rfl] at hQ ⊢
 simp
 rw [← hM1]
 clear hM1
 simp [b0,hx]
 refine Aat (by kernel_rfl) (by kernel_rfl) ?_
 simp [gF,frC,b0,e4,e5,e6,e7,Aab]
 refine Aad (put3 hI (by omega) _) ?_
 rintro _ m7 ⟨rfl,t7,sx7,h7,c7⟩
 simp
 refine hQ _ _ _ ⟨.inl rfl,[],rfl,rfl,?_⟩
 have:=h7.fin (c1.trans c7)
 simpa [insM,hx] using this
theorem ins16 (h:In3 t T P A pr p s q F g fs px cx sx u m) (hx:x.1 = 16) (h1:1 ≤ g.stack.length) (hl:g.stack.length ≤ 256):wph Tryz.prog ca (.func 26) [.ptr T 0,.ptr F 0,insA x] m fun r m' => r = .tup [] ∧ ResI t T P A pr p (insM p g fs x s) m m':=by
 obtain ⟨M1,hM1⟩:∃ M1,M1 = m.new [int x.1,int x.2.1,int x.2.2] false:=⟨_,rfl⟩
 have k1:Kp m M1:=by rw [hM1]; simp
 have nM:M1.next = m.next + 1:=by rw [hM1]; simp
 have b0:M1.get m.next = some (.cells [int x.1,int x.2.1,int x.2.2] false (m.clock + 1)):=by rw [hM1]; simp
 have hI:=h.kp k1
 have bd:=h.bd
 have c1:Chg RM t t m M1:=Chg.refl h.bd k1
 obtain ⟨hT,w,gT⟩:=hI.tk.tk
 obtain ⟨cx',⟨hP,wP,gP⟩,cv⟩:=hI.tk.b.pg
 obtain ⟨hF,wF,gF⟩:=hI.fr.get
 refine Aah Tryz.func26 rfl rfl (by simp [Tryz.f26]) (by simp [Tryz.f26]) fun Q hQ => ?_
 simp only [Tryz.f26,show ca.keepRes 26 = false from rfl,show ca.keepArgs 26 = false from rfl] at hQ ⊢
 simp
 rw [← hM1]
 clear hM1
 simp [b0,hx]
 refine Aad (take3 hI (by omega) (n:=1) h1) ?_
 rintro _ m7 ⟨rfl,sx7,h7,c7⟩
 simp
 refine hQ _ _ _ ⟨.inl rfl,[],rfl,rfl,?_⟩
 have:=h7.fin (c1.trans c7)
 simpa [insM,hx] using this
theorem ins11 (h:In3 t T P A pr p s q F g fs px cx sx u m) (hx:x.1 = 11) (h0:0 ≤ x.2.1) (h2:1 ≤ g.stack.length) (hl:g.stack.length ≤ 256):wph Tryz.prog ca (.func 26) [.ptr T 0,.ptr F 0,insA x] m fun r m' => r = .tup [] ∧ ResI t T P A pr p (insM p g fs x s) m m':=by
 obtain ⟨M1,hM1⟩:∃ M1,M1 = m.new [int x.1,int x.2.1,int x.2.2] false:=⟨_,rfl⟩
 have k1:Kp m M1:=by rw [hM1]; simp
 have nM:M1.next = m.next + 1:=by rw [hM1]; simp
 have b0:M1.get m.next = some (.cells [int x.1,int x.2.1,int x.2.2] false (m.clock + 1)):=by rw [hM1]; simp
 have hI:=h.kp k1
 have bd:=h.bd
 have c1:Chg RM t t m M1:=Chg.refl h.bd k1
 obtain ⟨hT,w,gT⟩:=hI.tk.tk
 obtain ⟨cx',⟨hP,wP,gP⟩,cv⟩:=hI.tk.b.pg
 obtain ⟨hF,wF,gF⟩:=hI.fr.get
 have ecn:((x.2.1.toNat:Nat):Int) = x.2.1:=by omega
 have hix:aindexAddr Tryz.prog 46 (.lst (vals (g.last 1))) (int 0) = some ((valA (atV (g.last 1) 0)).cptr 0):=Abp (i:=0) (Alh (i:=0) (Int.le_refl _) (by rw [Af9 g h2]; omega))
 refine Aah Tryz.func26 rfl rfl (by simp [Tryz.f26]) (by simp [Tryz.f26]) fun Q hQ => ?_
 simp only [Tryz.f26,show ca.keepRes 26 = false from rfl,show ca.keepArgs 26 = false from rfl] at hQ ⊢
 simp
 rw [← hM1]
 clear hM1
 simp [b0,hx]
 refine Aaq (by kernel_rfl) ?_
 simp
 refine Aad (take3 hI (by omega) (n:=1) h2) ?_
 rintro _ m7 ⟨rfl,sx7,h7,c7⟩
 have b7:=(c7.box0 bd (Nat.le_refl _) (by omega)).trans b0
 obtain ⟨hF7,wF7,gF7⟩:=h7.fr.get
 simp [hix,Aab,(w70 _).go,And]
 refine Aa2 (l:=[(3,4)]) (by kernel_rfl) (?_:List.all _ _ = true) ?_
 ·simp [metAtD,metOkD,rank,verKeptD,Region.wanted,Mem.ver,objV]
 by_cases hv:atV (g.last 1) 0 = (2,0)
 ·obtain ⟨z1,z2⟩:=h7.set (g':={ g.cut 1 with pc:=x.2.1.toNat }) rfl rfl rfl
  simp only [frC,ecn] at z1 z2
  simp [hv,b7,gF7,frC]
  refine hQ _ _ _ ⟨.inl rfl,[],rfl,rfl,?_⟩
  have:=z1.fin (c1.trans (c7.trans z2))
  simpa [insM,hx,hv] using this
 ·simp [hv]
  refine hQ _ _ _ ⟨.inl rfl,[],rfl,rfl,?_⟩
  have e:insM p g fs x s = setT s (g.cut 1) fs:=by simp [insM,hx,hv]; rfl
  rw [e]
  exact h7.fin (c1.trans c7)
theorem ins15 (h:In3 t T P A pr p s q F g fs px cx sx u m) (hx:x.1 = 15) (h2:1 ≤ g.stack.length) (hfs:∀ f ∈ fs,f.stack.length ≤ 4096) (hl:g.stack.length ≤ 256):wph Tryz.prog ca (.func 26) [.ptr T 0,.ptr F 0,insA x] m fun r m' => r = .tup [] ∧ ResI t T P A pr p (insM p g fs x s) m m':=by
 obtain ⟨M1,hM1⟩:∃ M1,M1 = m.new [int x.1,int x.2.1,int x.2.2] false:=⟨_,rfl⟩
 have k1:Kp m M1:=by rw [hM1]; simp
 have nM:M1.next = m.next + 1:=by rw [hM1]; simp
 have b0:M1.get m.next = some (.cells [int x.1,int x.2.1,int x.2.2] false (m.clock + 1)):=by rw [hM1]; simp
 have hI:=h.kp k1
 have bd:=h.bd
 have c1:Chg RM t t m M1:=Chg.refl h.bd k1
 obtain ⟨hT,w,gT⟩:=hI.tk.tk
 obtain ⟨cx',⟨hP,wP,gP⟩,cv⟩:=hI.tk.b.pg
 obtain ⟨hF,wF,gF⟩:=hI.fr.get
 have husame:sameA u u = true:=by
  have hc:=h.ch
  cases fs with
  | nil => have e:u = nilA:=hc; rw [e]; rfl
  | cons f fs => obtain ⟨F',u',e,_⟩:=hc; rw [e]; simp [sameA]
 have hix:aindexAddr Tryz.prog 46 (.lst (vals (g.last 1))) (int 0) = some ((valA (atV (g.last 1) 0)).cptr 0):=Abp (i:=0) (Alh (i:=0) (Int.le_refl _) (by rw [Af9 g h2]; omega))
 refine Aah Tryz.func26 rfl rfl (by simp [Tryz.f26]) (by simp [Tryz.f26]) fun Q hQ => ?_
 simp only [Tryz.f26,show ca.keepRes 26 = false from rfl,show ca.keepArgs 26 = false from rfl] at hQ ⊢
 simp
 rw [← hM1]
 clear hM1
 simp [b0,hx]
 refine Abi (by kernel_rfl) ?_
 simp
 refine Aad (take3 hI (by omega) (n:=1) h2) ?_
 rintro _ m7 ⟨rfl,sx7,h7,c7⟩
 obtain ⟨hF7,wF7,gF7⟩:=h7.fr.get
 simp [hix,Aab,gF7,frC]
 refine Aad (w73 h7.tk h7.ch hfs (atV (g.last 1) 0)) ?_
 rintro _ m8 ⟨rfl,t8,now8,q8,h8,hc8,c8⟩
 simp only [frC] at gF gF7
 simp
 refine Aa2 (l:=[(2,8)]) (by kernel_rfl) (?_:List.all _ _ = true) ?_
 ·simp [metAt,metOk,rank,objOf,verKept,Region.wanted,Mem.ver,gF,gF7,tailKept,sameCs,saI,offOf,husame]
 simp
 refine hQ _ _ _ ⟨.inl rfl,[],rfl,rfl,?_⟩
 have e:insM p g fs x s = answerM (atV (g.last 1) 0) fs s:=by simp [insM,hx]
 rw [e]
 exact ⟨t8,now8,q8,h8,hc8,c1.trans (c7.trans c8)⟩
theorem ins14 (h:In3 t T P A pr p s q F g fs px cx sx u m) (hx:x.1 = 14) (h0:0 ≤ x.2.1) (h1:x.2.1 ≤ 32) (h2:x.2.1 + 1 ≤ g.stack.length) (hpg:OkPg p) (hn:Nice p.codes s.ar) (hns:NoPrim g.stack) (hfs:fs.length < 512) (hl:g.stack.length ≤ 256):wph Tryz.prog ca (.func 26) [.ptr T 0,.ptr F 0,insA x] m fun r m' => r = .tup [] ∧ ResI t T P A pr p (insM p g fs x s) m m':=by
 obtain ⟨M1,hM1⟩:∃ M1,M1 = m.new [int x.1,int x.2.1,int x.2.2] false:=⟨_,rfl⟩
 have k1:Kp m M1:=by rw [hM1]; simp
 have nM:M1.next = m.next + 1:=by rw [hM1]; simp
 have b0:M1.get m.next = some (.cells [int x.1,int x.2.1,int x.2.2] false (m.clock + 1)):=by rw [hM1]; simp
 have hI:=h.kp k1
 have bd:=h.bd
 have c1:Chg RM t t m M1:=Chg.refl h.bd k1
 obtain ⟨hT,w,gT⟩:=hI.tk.tk
 obtain ⟨cx',⟨hP,wP,gP⟩,cv⟩:=hI.tk.b.pg
 obtain ⟨hF,wF,gF⟩:=hI.fr.get
 have ecn:((x.2.1.toNat + 1:Nat):Int) = x.2.1 + 1:=by omega
 have hw:IntKind.i64.wrap (x.2.1 + 1) = x.2.1 + 1:=IntWalk.i64_in _ (by omega)
 obtain ⟨L,hL⟩:∃ L,L = g.last (x.2.1.toNat + 1):=⟨_,rfl⟩
 have hLl:L.length = x.2.1.toNat + 1:=by rw [hL]; exact Af9 g (by omega)
 have hix:aindexAddr Tryz.prog 46 (.lst (vals L)) (int 0) = some ((valA (atV L 0)).cptr 0):=Abp (i:=0) (Alh (i:=0) (Int.le_refl _) (by omega))
 have hsl:aslice Tryz.prog 46 (.lst (vals L)) (some (int 1)) none none = some (.lst (vals (L.drop 1))):=by
  have:=Acf (P:=Tryz.prog) (T:=46) (xs:=vals L) (k:=2) (lo:=some (int ((1:Nat):Int))) (hi:=none) (l:=some 1) (h:=none) Tryz.underlying46 Abb (Abd (n:=1)) Aa1 (by simp; omega) (by simp) (Aba L)
  refine this.trans ?_
  simp [vals,List.map_drop,← List.map_take]
 refine Aah Tryz.func26 rfl rfl (by simp [Tryz.f26]) (by simp [Tryz.f26]) fun Q hQ => ?_
 simp only [Tryz.f26,show ca.keepRes 26 = false from rfl,show ca.keepArgs 26 = false from rfl] at hQ ⊢
 simp
 rw [← hM1]
 clear hM1
 simp [b0,hx,hw]
 have w:=take3 hI (by omega) (n:=x.2.1.toNat + 1) (by omega)
 rw [ecn,← hL] at w
 refine Aad w ?_
 rintro _ m7 ⟨rfl,sx7,h7,c7⟩
 have b7:=(c7.box0 bd (Nat.le_refl _) (by omega)).trans b0
 obtain ⟨hF7,wF7,gF7⟩:=h7.fr.get
 simp [b7,hx,gF7,frC]
 refine Aat (by kernel_rfl) (by kernel_rfl) ?_
 simp [hix,Aab,hsl]
 refine Aad (w72 h7.tk h7.ch hpg hn (f:=atV L 0) (by rw [hL]; exact NoPrim.at (hns.drop _) 0) (l:=L.tail) (by simp; omega) (by omega)) ?_
 rintro _ m8 ⟨rfl,t8,now8,q8,h8,hc8,c8⟩
 simp
 refine hQ _ _ _ ⟨.inl rfl,[],rfl,rfl,?_⟩
 have e:insM p g fs x s = callM p (atV L 0) L.tail fs s:=by rw [hL]; simp [insM,hx]
 rw [e]
 exact ⟨t8,now8,q8,h8,hc8,c1.trans (c7.trans c8)⟩
end
section
variable {t:Ro} {T P A:Nat} {pr:PrM} {p:PgM} {s:MaM} {q:RestA} {F:Nat} {g:FrM} {fs:List FrM} {px cx sx u:AV} {m:Mem} {x:InsM}
theorem Ayi (l e:List Val) (y:Val) (h:1 ≤ l.length):(l ++ e).set (l.length - 1) y = l.take (l.length - 1) ++ [y] ++ e:=by
 have e1:l = l.take (l.length - 1) ++ l.drop (l.length - 1):=(List.take_append_drop _ _).symm
 obtain ⟨z,hz⟩:∃ z,l.drop (l.length - 1) = [z]:=List.length_eq_one_iff.1 (by simp; omega)
 have e2:(l.take (l.length - 1)).length = l.length - 1:=by simp
 rw [hz] at e1
 generalize l.take (l.length - 1) = k at e1 e2 ⊢
 rw [← e2,e1]
 simp
theorem Aoi (l e:List Val) (y:Val) (h:1 ≤ l.length):splice (flat (vals (l ++ e))) ((l.length - 1) * 2) [int y.1,int y.2] = flat (vals (l.take (l.length - 1) ++ [y] ++ e)):=by
 rw [Aea _ _ _ (by simp; omega),Ayi l e y h]
theorem ins12 (h:In3 t T P A pr p s q F g fs px cx sx u m) (hx:x.1 = 12) (h0:0 ≤ x.2.1) (h2:0 ≤ x.2.2) (h3:x.2.2 ≤ g.stack.length) (hl:g.stack.length ≤ 256):wph Tryz.prog ca (.func 26) [.ptr T 0,.ptr F 0,insA x] m fun r m' => r = .tup [] ∧ ResI t T P A pr p (insM p g fs x s) m m':=by
 obtain ⟨M1,hM1⟩:∃ M1,M1 = m.new [int x.1,int x.2.1,int x.2.2] false:=⟨_,rfl⟩
 have k1:Kp m M1:=by rw [hM1]; simp
 have nM:M1.next = m.next + 1:=by rw [hM1]; simp
 have b0:M1.get m.next = some (.cells [int x.1,int x.2.1,int x.2.2] false (m.clock + 1)):=by rw [hM1]; simp
 have hI:=h.kp k1
 have bd:=h.bd
 have c1:Chg RM t t m M1:=Chg.refl h.bd k1
 obtain ⟨hT,w,gT⟩:=hI.tk.tk
 obtain ⟨cx',⟨hP,wP,gP⟩,cv⟩:=hI.tk.b.pg
 obtain ⟨hF,wF,gF⟩:=hI.fr.get
 have ecn:((x.2.2.toNat:Nat):Int) = x.2.2:=by omega
 obtain ⟨L,hL⟩:∃ L,L = g.last x.2.2.toNat:=⟨_,rfl⟩
 refine Aah Tryz.func26 rfl rfl (by simp [Tryz.f26]) (by simp [Tryz.f26]) fun Q hQ => ?_
 simp only [Tryz.f26,show ca.keepRes 26 = false from rfl,show ca.keepArgs 26 = false from rfl] at hQ ⊢
 simp
 rw [← hM1]
 clear hM1
 simp [b0,hx]
 have w:=take3 hI (by omega) (n:=x.2.2.toNat) (by omega)
 rw [ecn,← hL] at w
 refine Aad w ?_
 rintro _ m7 ⟨rfl,sx7,h7,c7⟩
 have b7:=(c7.box0 bd (Nat.le_refl _) (by omega)).trans b0
 simp [(w70 _).go]
 refine Aad (put3 h7 (by rw [Aju]; omega) (2,0)) ?_
 rintro _ m8 ⟨rfl,t8,sx8,h8,c8⟩
 simp
 refine Aaq (by kernel_rfl) ?_
 have b8:=((c7.trans c8).box0 bd (Nat.le_refl _) (by omega)).trans b0
 obtain ⟨id,wv,e,e1,hid,hsx,e4,e5,e6,e7⟩:=h8.fr.stk.at (i:=(((((g.cut x.2.2.toNat).put (2,0)).stack.length - 1:Nat)):Int)) (by omega) (by simp [FrM.put]; omega)
 simp [b8,abuild,placesOf,fillAt,(w67 h8.fr hsx hid (by simp [FrM.put]) (by simp [FrM.put,FrM.cut]; omega)).go]
 obtain ⟨S8,hS8⟩:∃ S8,S8 = (g.cut x.2.2.toNat).put (2,0):=⟨_,rfl⟩
 rw [← hS8] at h8 hsx e4 e5 e6 e7 ⊢
 have hl8:S8.stack.length = g.stack.length - x.2.2.toNat + 1:=by rw [hS8]; simp [FrM.put,Aju]
 obtain ⟨c,hc⟩:∃ c:CeM,c = ⟨5,x.2.1,L,[]⟩:=⟨_,rfl⟩
 have hLl:L.length ≤ 256:=by rw [hL]; simp [FrM.last]; omega
 have hz0:fzvs m8 [.ptr T 0,.agg [int 5,int x.2.1,.lst (vals L),.emp 0],.ptr id ((S8.stack.length - 1) * 2)] = ([.ptr T 0,ceA c,.ptr id ((S8.stack.length - 1) * 2)],m8):=by
  have fe:∀ M:Mem,fz1 M (.emp 0) = (.lst [],M):=fun _ => rfl
  have fl:∀ (M:Mem) l,fz1 M (.lst l) = (.lst l,M):=fun _ _ => rfl
  have fi:∀ (M:Mem) (n:Int),fz1 M (int n) = (int n,M):=fun _ _ => rfl
  have fp:∀ (M:Mem) (i o:Nat),fz1 M (.ptr i o) = (.ptr i o,M):=fun _ _ _ => rfl
  simp [fzvs,fzv,fzs,hc,ceA,fe,fi,fp,fl,byts]
 have hz1:fzvs m8 [.ptr T 0,ceA c,.ptr id ((S8.stack.length - 1) * 2)] = ([.ptr T 0,ceA c,.ptr id ((S8.stack.length - 1) * 2)],m8):=by simp [fzvs]
 refine Aad (Ahz Tryz.func47 rfl rfl rfl hz0 hz1 (w65 h8.tk c (by rw [hc]; simp; omega) (by simp [hc]) (W:=id) (r:=roS fs.length) e1 (by have:=roHi fs.length; omega) e4 hid e6)) ?_
 rintro _ m9 ⟨rfl,t9,now9,q9,c9,h9⟩
 have hP:∀ r,r = 0 ∨ r = 3 ∨ r = roS fs.length → RM r:=by
  have:=roHi fs.length
  rintro r (e | e | e)
  ·exact .inl e
  ·exact .inr (.inl e)
  ·exact .inr (.inr (by omega))
 have b9:=((c7.trans (c8.trans (c9.mono hP))).box0 bd (Nat.le_refl _) (by omega)).trans b0
 simp
 refine Aa2 (l:=[(2,6)]) (by kernel_rfl) (?_:List.all _ _ = true) ?_
 ·simp [metAtD,metOkD,rank,verKeptD,Region.wanted,Mem.ver,b8,b9]
 simp
 refine hQ _ _ _ ⟨.inl rfl,[],rfl,rfl,(?_:ResI t T P A pr p _ m m9)⟩
 have ins:insM p g fs x s = if (allocM s.ar c).2.2 ≠ 0 then failM { s with ar:=(allocM s.ar c).1 } else setT { s with ar:=(allocM s.ar c).1 } ((g.cut x.2.2.toNat).put (allocM s.ar c).2.1) fs:=by rw [hc,hL]; simp only [insM,hx]; rfl
 have call:Chg RM t t8 m m8:=c1.trans (c7.trans c8)
 rw [ins]
 split at h9
 ·rename_i he
  rw [if_pos he]
  obtain ⟨rfl,h9⟩:=h9
  exact ResI.fail h9 (call.trans (c9.mono hP))
 ·rename_i he
  rw [if_neg he]
  obtain ⟨rfl,h9,c9',t9id,w9,g9⟩:=h9
  have rn:=@noRo fs.length
  have rh:=roHi fs.length
  refine In3.fin (px:=px) (cx:=cx) (sx:=sx8) (u:=u) (q:=q9) (F:=F) ⟨h9,⟨(c9'.same F (roF fs.length) (by omega)).2 h8.fr.tF,c9'.kt.has h8.fr.tF (by omega) ?_,?_,?_,?_⟩,ChA.keep c9'.kt fs u ?_ h8.ch⟩ (call.trans (c9.mono hP))
  ·have:=h8.fr.get
   rw [hS8] at this
   exact this
  ·have:=h8.fr.par
   rw [hS8] at this
   exact this.keep c9'.kt (by omega)
  ·have:=h8.fr.cap
   rw [hS8] at this
   exact this
  ·refine .inr ⟨id,e,w9,t9id,Nat.lt_of_lt_of_le hid c9'.kc.next,?_,?_⟩
   ·rw [hsx,hl8]; simp [FrM.put,Aju]
   ·rw [g9,Aoi _ _ _ (by omega),hS8]
    simp [FrM.put]
  ·rintro r (e | e)
   ·exact .inl (by omega)
   ·exact .inr (by simp only [roS] at e; omega)
end
section
variable {t:Ro} {T P A:Nat} {pr:PrM} {p:PgM} {s:MaM} {q:RestA} {F:Nat} {f g:FrM} {fs:List FrM} {px cx sx u now:AV} {m:Mem} {x:InsM} {c:CoM} {s':List Int × Int}
theorem ptr37 {x y:Operand} {i j:Nat}:abin Tryz.prog .eql 37 x y (.ptr i j) (.sc (.pointer none)) = some (.sc (.bool false)):=by
 have:nilTest Tryz.prog 37 (.ptr i j) (.sc (.pointer none)) = some false:=by
  unfold nilTest
  rw [Tryz.underlying37]
 simp [abin,this,plain]
theorem ptr34 {x y:Operand} {i j:Nat}:abin Tryz.prog .eql 27 x y (.ptr i j) (.sc (.pointer none)) = some (.sc (.bool false)):=by
 have:nilTest Tryz.prog 27 (.ptr i j) (.sc (.pointer none)) = some false:=by
  unfold nilTest
  rw [Tryz.underlying27]
 simp [abin,this,plain]
theorem w25 (h:has m T (tkC P s now q)):EH Tryz.prog ca (.func 25) [.ptr T 0] m (.sc (.bool false)) m:=by
 obtain ⟨hT,w,g⟩:=h
 refine Aaw Tryz.func25 rfl rfl rfl rfl (args1:=[.ptr T 0]) (m1:=m) (by simp) (by simp) (by simp [Tryz.f25]) (by simp [Tryz.f25]) ?_
 simp [Tryz.f25,show ca.keepRes 25 = false from rfl,ptr37,g,tkC,ptr34]
theorem w10 (h:has m T (tkC P s now q)):EH Tryz.prog ca (.func 23) [.ptr T 0] m (int s.status) m:=by
 have q:=w25 h
 obtain ⟨hT,w,g⟩:=h
 refine Aaw Tryz.func23 rfl rfl rfl rfl (args1:=[.ptr T 0]) (m1:=m) (by simp) (by simp) (by simp [Tryz.f23]) (by simp [Tryz.f23]) ?_
 simp [Tryz.f23,show ca.keepRes 23 = false from rfl,g,tkC,q.go]
end
def ResQ (t:Ro) (T P A:Nat) (pr:PrM) (p:PgM) (s':MaM) (Z:RestA → Prop) (m m':Mem):Prop:=∃ t' now' q',TkA t' T P A pr p s' now' q' m' ∧ ChA t' m' s'.frames now' ∧ Chg RM t t' m m' ∧ Z q'
section
variable {t:Ro} {T P A:Nat} {pr:PrM} {p:PgM} {s:MaM} {now:AV} {q:RestA} {m:Mem}
theorem w71x (h:TkA t T P A pr p s now q m) {o:Int} {i:Nat} {nm:List UInt8} (hn:pr.names[i]? = some nm) {x:AV} {l:List Val} (hx:(x = .emp 0 ∧ l = []) ∨ x = .lst (vals l)):wph Tryz.prog ca (.func 52) [.ptr T 0,int o,int i,x] m fun r m' => r = .tup [] ∧ ∃ q',q'.nm = nm ∧ q'.n = 0 ∧ q'.args = .lst (vals l) ∧ TkA t T P A pr p { s with status:=2,op:=o } now q' m' ∧ Chg (· = 0) t t m m':=by
 obtain ⟨hT,w,g⟩:=h.tk
 obtain ⟨bd,tT,tP,⟨cx,pg,cv⟩,ar,e⟩:=id h.b
 obtain ⟨hP,wP,gP⟩:=pg
 have hz:fzvs m [.ptr T 0,int o,int i,x] = ([.ptr T 0,int o,int i,.lst (vals l)],m):=by
  rcases hx with ⟨rfl,rfl⟩ | rfl
  ·rfl
  ·rfl
 have nTP:P ≠ T:=by
  rintro rfl
  rw [tP] at tT
  cases tT
 obtain ⟨z1,y1⟩:=h.set (s':={ s with status:=2 }) (now':=now) (q':=q) rfl h.args
 obtain ⟨z2,y2⟩:=z1.set (s':={ s with status:=2,op:=o }) (now':=now) (q':=⟨nm,0,.lst (vals l),q.k,q.fv⟩) rfl (.inr (.inr ⟨l,rfl⟩))
 refine Aah Tryz.func52 rfl rfl (by simp [Tryz.f52]) (by simp [Tryz.f52]) fun Q hQ => ?_
 simp only [Tryz.f52,show ca.keepRes 52 = false from rfl,show ca.keepArgs 52 = false from rfl,hz,Bool.false_eq_true,if_false] at hQ ⊢
 simp [g,tkC,gP,pgC,nTP,Al2 hn,abuild,placesOf,fillAt]
 exact hQ _ _ _ ⟨.inl rfl,[],rfl,rfl,_,rfl,rfl,rfl,z2,y1.trans y2⟩
end
section
variable {t:Ro} {T P A:Nat} {pr:PrM} {p:PgM} {s:MaM} {q:RestA} {F:Nat} {g:FrM} {fs:List FrM} {px cx sx u:AV} {m:Mem} {x:InsM}
theorem In3.asksx {t0:Ro} {m0 m':Mem} {s':MaM} {q':RestA} {Z:RestA → Prop} (h:In3 t T P A pr p s q F g fs px cx sx u m) (c0:Chg RM t0 t m0 m) (tk:TkA t T P A pr p s' (.ptr F 0) q' m') (c:Chg (· = 0) t t m m') (hz:Z q'):ResQ t0 T P A pr p (setT s' g fs) Z m0 m':=by
 refine ⟨t,.ptr F 0,q',⟨tk.b,tk.tk,tk.args⟩,⟨F,u,rfl,⟨px,cx,sx,h.fr.keep c.kt ?_ ?_ ?_⟩,ChA.keep c.kt fs u (fun r e => .inl (by have e:r = 0:=e; omega)) h.ch⟩,c0.trans (c.mono fun _ e => .inl e),hz⟩
 ·show ¬ roF fs.length = 0
  have:=roHi fs.length; omega
 ·show ¬ roP fs.length = 0
  have:=roHi fs.length; omega
 ·show ¬ roS fs.length = 0
  have:=roHi fs.length; omega
theorem ins4x (h:In3 t T P A pr p s q F g fs px cx sx u m) (hx:x.1 = 4) (h0:0 ≤ x.2.1) (h1:x.2.1 < pr.names.length) (hl:g.stack.length ≤ 256):wph Tryz.prog ca (.func 26) [.ptr T 0,.ptr F 0,insA x] m fun r m' => r = .tup [] ∧ ResQ t T P A pr p (insM p g fs x s) (fun q' => ∃ nm,pr.names[x.2.1.toNat]? = some nm ∧ q'.nm = nm ∧ q'.n = 0 ∧ q'.args = .lst (vals [])) m m':=by
 obtain ⟨M1,hM1⟩:∃ M1,M1 = m.new [int x.1,int x.2.1,int x.2.2] false:=⟨_,rfl⟩
 have k1:Kp m M1:=by rw [hM1]; simp
 have nM:M1.next = m.next + 1:=by rw [hM1]; simp
 have b0:M1.get m.next = some (.cells [int x.1,int x.2.1,int x.2.2] false (m.clock + 1)):=by rw [hM1]; simp
 have hI:=h.kp k1
 have bd:=h.bd
 have c1:Chg RM t t m M1:=Chg.refl h.bd k1
 obtain ⟨hT,w,gT⟩:=hI.tk.tk
 obtain ⟨cx',⟨hP,wP,gP⟩,cv⟩:=hI.tk.b.pg
 obtain ⟨hF,wF,gF⟩:=hI.fr.get
 obtain ⟨nm,hnm⟩:∃ nm,pr.names[x.2.1.toNat]? = some nm:=⟨_,List.getElem?_eq_getElem (by omega)⟩
 have ecn:((x.2.1.toNat:Nat):Int) = x.2.1:=by omega
 refine Aah Tryz.func26 rfl rfl (by simp [Tryz.f26]) (by simp [Tryz.f26]) fun Q hQ => ?_
 simp only [Tryz.f26,show ca.keepRes 26 = false from rfl,show ca.keepArgs 26 = false from rfl] at hQ ⊢
 simp
 rw [← hM1]
 clear hM1
 simp [b0,hx]
 have w:=w71x (o:=1) hI.tk hnm (.inl ⟨rfl,rfl⟩)
 rw [ecn] at w
 refine Aad w ?_
 rintro _ m7 ⟨rfl,q7,d1,d2,d3,h7,c7⟩
 simp
 refine hQ _ _ _ ⟨.inl rfl,[],rfl,rfl,?_⟩
 have:=hI.asksx (Z:=fun q' => ∃ nm,pr.names[x.2.1.toNat]? = some nm ∧ q'.nm = nm ∧ q'.n = 0 ∧ q'.args = .lst (vals [])) c1 h7 c7 ⟨nm,hnm,d1,d2,d3⟩
 simpa [insM,hx] using this
theorem ins9x (h:In3 t T P A pr p s q F g fs px cx sx u m) (hx:x.1 = 9) (h0:0 ≤ x.2.1) (h1:x.2.1 < pr.names.length) (h2:1 ≤ g.stack.length) (hl:g.stack.length ≤ 256):wph Tryz.prog ca (.func 26) [.ptr T 0,.ptr F 0,insA x] m fun r m' => r = .tup [] ∧ ResQ t T P A pr p (insM p g fs x s) (fun q' => ∃ nm,pr.names[x.2.1.toNat]? = some nm ∧ q'.nm = nm ∧ q'.n = 0 ∧ q'.args = .lst (vals (g.last 1))) m m':=by
 obtain ⟨M1,hM1⟩:∃ M1,M1 = m.new [int x.1,int x.2.1,int x.2.2] false:=⟨_,rfl⟩
 have k1:Kp m M1:=by rw [hM1]; simp
 have nM:M1.next = m.next + 1:=by rw [hM1]; simp
 have b0:M1.get m.next = some (.cells [int x.1,int x.2.1,int x.2.2] false (m.clock + 1)):=by rw [hM1]; simp
 have hI:=h.kp k1
 have bd:=h.bd
 have c1:Chg RM t t m M1:=Chg.refl h.bd k1
 obtain ⟨hT,w,gT⟩:=hI.tk.tk
 obtain ⟨cx',⟨hP,wP,gP⟩,cv⟩:=hI.tk.b.pg
 obtain ⟨hF,wF,gF⟩:=hI.fr.get
 obtain ⟨nm,hnm⟩:∃ nm,pr.names[x.2.1.toNat]? = some nm:=⟨_,List.getElem?_eq_getElem (by omega)⟩
 have ecn:((x.2.1.toNat:Nat):Int) = x.2.1:=by omega
 refine Aah Tryz.func26 rfl rfl (by simp [Tryz.f26]) (by simp [Tryz.f26]) fun Q hQ => ?_
 simp only [Tryz.f26,show ca.keepRes 26 = false from rfl,show ca.keepArgs 26 = false from rfl] at hQ ⊢
 simp
 rw [← hM1]
 clear hM1
 simp [b0,hx]
 refine Aaq (by kernel_rfl) ?_
 simp [b0]
 refine Aad (take3 hI (by omega) (n:=1) h2) ?_
 rintro _ m7 ⟨rfl,sx7,h7,c7⟩
 have b7:=(c7.box0 bd (Nat.le_refl _) (by omega)).trans b0
 simp
 have w:=w71x (o:=3) (l:=g.last 1) h7.tk hnm (.inr rfl)
 rw [ecn] at w
 refine Aad w ?_
 rintro _ m8 ⟨rfl,q8,d1,d2,d3,h8,c8⟩
 have b8:=(c8.kc.get m.next (by have:=c7.kc.next; omega) (fun ⟨r,e,_⟩ => by have:=bd m.next (by rw [e]; simp); omega)).trans b7
 simp
 refine Aa2 (l:=[(2,4)]) (by kernel_rfl) (?_:List.all _ _ = true) ?_
 ·simp [metAtD,metOkD,rank,verKeptD,Region.wanted,Mem.ver,b0,b7,b8]
 simp
 refine hQ _ _ _ ⟨.inl rfl,[],rfl,rfl,?_⟩
 have:=h7.asksx (Z:=fun q' => ∃ nm,pr.names[x.2.1.toNat]? = some nm ∧ q'.nm = nm ∧ q'.n = 0 ∧ q'.args = .lst (vals (g.last 1))) (c1.trans c7) h8 c8 ⟨nm,hnm,d1,d2,d3⟩
 simpa [insM,hx] using this
end
section
variable {t:Ro} {T P A:Nat} {pr:PrM} {p:PgM} {s:MaM} {now:AV} {q:RestA} {m:Mem} {f:FrM} {fs:List FrM} {c:CoM} {x:InsM}
theorem w24g {s2:MaM} {Z:RestA → Prop} (h:TkA t T P A pr p s now q m) (hc:ChA t m (f :: fs) now) (hst:s.status = 1) (hsteps:s.steps ≤ 2 ^ 40) (hcode:p.codes[f.code]? = some c) (hins:c.ins[f.pc]? = some x) (hlen:c.ins.length ≤ 4096)
  (hI:∀ (t:Ro) (m:Mem) (F:Nat) (px cx sx u:AV),In3 t T P A pr p { s with steps:=s.steps + 1 } q F { f with pc:=f.pc + 1 } fs px cx sx u m → wph Tryz.prog ca (.func 26) [.ptr T 0,.ptr F 0,insA x] m fun r m' => r = .tup [] ∧ ResQ t T P A pr p s2 Z m m'):wph Tryz.prog ca (.func 11) [.ptr T 0] m fun r m' => r = int s2.status ∧ ResQ t T P A pr p s2 Z m m':=by
 obtain ⟨F,u,rfl,⟨px,cx,sx,hf⟩,hc'⟩:=hc
 have q25:=w25 h.tk
 obtain ⟨hT,w,g⟩:=h.tk
 obtain ⟨z1,y1⟩:=h.set (s':={ s with steps:=s.steps + 1 }) (now':=.ptr F 0) (q':=q) rfl h.args
 obtain ⟨M1,hM1⟩:∃ M1,M1 = m.set T (tkC P { s with steps:=s.steps + 1 } (.ptr F 0) q):=⟨_,rfl⟩
 rw [← hM1] at z1 y1
 have rh:=roHi fs.length
 have i1:In3 t T P A pr p { s with steps:=s.steps + 1 } q F f fs px cx sx u M1:=⟨z1,hf.keep y1.kt (show ¬ roF fs.length = 0 by omega) (show ¬ roP fs.length = 0 by omega) (show ¬ roS fs.length = 0 by omega),ChA.keep y1.kt fs u (fun r e => .inl (by have e:r = 0:=e; omega)) hc'⟩
 obtain ⟨hT1,w1,g1⟩:=i1.tk.tk
 obtain ⟨hF1,wF1,gF1⟩:=i1.fr.get
 obtain ⟨cx1,⟨hP1,wP1,gP1⟩,_⟩:=i1.tk.b.pg
 rw [h.b.codes] at hcode
 have hix:=Afo hcode
 have hix2:=Amj hins
 have hpc:f.pc < 4096:=by
  have:=(List.getElem?_eq_some_iff.1 hins).1
  omega
 have hw1:IntKind.i64.wrap ((s.steps:Int) + 1) = ((s.steps + 1:Nat):Int):=by rw [IntWalk.i64_in _ (by omega)]; rfl
 have hw2:IntKind.i64.wrap ((f.pc:Int) + 1) = ((f.pc + 1:Nat):Int):=by rw [IntWalk.i64_in _ (by omega)]; rfl
 refine Aah Tryz.func11 rfl rfl (by simp [Tryz.f11]) (by simp [Tryz.f11]) fun Q hQ => ?_
 simp only [Tryz.f11,show ca.keepRes 11 = false from rfl,show ca.keepArgs 11 = false from rfl] at hQ ⊢
 simp [q25.go,g,tkC,hst,hw1]
 have hM1':M1 = m.set T [.ptr P 0,int 1,int ((s.steps:Int) + 1),.ptr F 0,int s.op,strS q.nm,int q.n,q.args,int s.value.1,int s.value.2,int q.k,int q.fv.1,int q.fv.2]:=by rw [hM1,tkC,hst]; rfl
 rw [← hM1']
 clear hM1'
 have nT:T ≠ M1.next:=by omega
 have nP:P ≠ M1.next:=by omega
 have nF:F ≠ M1.next:=by omega
 refine Aaq (by kernel_rfl) ?_
 simp [g1,tkC,gP1,pgC,gF1,frC,hix,hix2]
 refine Aa2 (l:=[(3,21),(7,21),(11,21),(14,21),(18,21),(20,21)]) (by kernel_rfl) (?_:List.all _ _ = true) ?_
 ·simp [metAtD,metOkD,rank,verKeptD,Region.wanted,Mem.ver,g1,gP1,gF1,nT,nP,nF,objV]
 obtain ⟨M2,hM2⟩:∃ M2,M2 = (M1.new [int 0,int 0,int 0] false).set M1.next [int x.1,int x.2.1,int x.2.2]:=⟨_,rfl⟩
 have k2:Kp M1 M2:=by rw [hM2]; simp
 have b2:M2.get M1.next = some (.cells [int x.1,int x.2.1,int x.2.2] false (M1.clock + 2)):=by rw [hM2]; simp
 rw [← hM2]
 clear hM2
 have i2:=i1.kp k2
 obtain ⟨i3,c3⟩:=i2.set (g':={ f with pc:=f.pc + 1 }) rfl rfl rfl
 obtain ⟨M3,hM3⟩:∃ M3,M3 = M2.set F (frC { f with pc:=f.pc + 1 } fs.length px cx sx u):=⟨_,rfl⟩
 have b3:M3.get M1.next = some (.cells [int x.1,int x.2.1,int x.2.2] false (M1.clock + 2)):=by rw [hM3]; simp [Ne.symm nF,b2]
 rw [← hM3] at i3 c3
 have gF2:=(k2.get F hF1).trans gF1
 simp only [frC] at gF2
 have hM3':M3 = M2.set F [int f.code,int ((f.pc:Int) + 1),nilA,px,cx,sx,u,int ((fs.length:Int) + 1)]:=by rw [hM3]; rfl
 simp [gF2,hw2,Ne.symm nF,b2,Any]
 rw [← hM3']
 refine Aad (hI _ _ _ _ _ _ _ i3) ?_
 rintro _ m7 ⟨rfl,t7,now7,q7,h7,hc7,c7,hz⟩
 obtain ⟨hT7,w7,g7⟩:=h7.tk
 simp [g7,tkC]
 refine hQ _ _ _ ?_
 rw [Aa6]
 have fin:ResQ t T P A pr p s2 Z m m7:=⟨t7,now7,q7,h7,hc7,(y1.mono fun _ e => .inl e).trans ((Chg.refl i1.bd k2).trans (c3.trans c7)),hz⟩
 refine ⟨by simp,?_⟩
 simpa using fin
end
end Go.Proofs.YtkoekdfimpcofaaGreat
namespace Go.Proofs.YtkoekdfimpcofaaGreat
set_option maxRecDepth 4000
set_option maxRecDepth 8000
open Go.V
attribute [local simp] Nat.add_assoc
theorem g55 (n k:Int):Gives Tryz.prog cc 62 [int n,int k] (.sc (.bool (within2 n k))):=by
 refine Aae Tryz.func62 rfl rfl rfl rfl (by simp) (by simp [Tryz.f62]) (by simp [Tryz.f62]) fun m => ?_
 simp [Tryz.f62,show cc.keepRes 62 = false from rfl]
 by_cases h:0 ≤ n
 ·simp [h,within2]
 ·simp [h,within2]
def opN (n:Int):List UInt8 :=
 if n = 1 then [99,111,110,115,116] else if n = 2 then [108,111,99,97,108] else if n = 3 then [99,97,112,116] else if n = 4 then [103,108,111,98,97,108]
 else if n = 5 then [98,111,120] else if n = 6 then [117,110,98,111,120] else if n = 7 then [115,101,116,98,111,120] else if n = 8 then [97,115,115,105,103,110]
 else if n = 9 then [100,101,102,105,110,101] else if n = 10 then [106,117,109,112] else if n = 11 then [102,97,108,115,101] else if n = 12 then [99,108,111,115,117,114,101]
 else if n = 13 then [99,97,108,108] else if n = 14 then [116,97,105,108] else if n = 15 then [114,101,116,117,114,110] else [112,111,112]
def opA (n:Int):AV:=.agg [strS (opN n),int (opM n).a,int (opM n).needs,int (opM n).leaves,.sc (.bool (opM n).plusA),.sc (.bool (opM n).plusB),.sc (.bool (opM n).ends)]
def opZ:AV:=.agg [strS [],int 0,int 0,int 0,.sc (.bool false),.sc (.bool false),.sc (.bool false)]
@[simp] theorem A36 (n:Int):(opA n).okc = true:=Eq.trans rfl rfl
@[simp] theorem A06 (n:Int):(opA n).cells = [strS (opN n),int (opM n).a,int (opM n).needs,int (opM n).leaves,.sc (.bool (opM n).plusA),.sc (.bool (opM n).plusB),.sc (.bool (opM n).ends)]:=Eq.trans rfl rfl
@[simp] theorem A37 (n:Int) (m:Mem):fzv m (opA n) = (opA n,m):=by simp [opA,fzv,fzs,fz1]
theorem A05 (n:Int):0 ≤ (opM n).needs:=by
 simp only [opM,apply_ite OpM.needs]
 repeat' split
 all_goals omega
theorem A04 (n:Int):(opM n).needs ≤ 2:=by
 simp only [opM,apply_ite OpM.needs]
 repeat' split
 all_goals omega
theorem A03 (n:Int):0 ≤ (opM n).leaves:=by
 simp only [opM,apply_ite OpM.leaves]
 repeat' split
 all_goals omega
theorem A02 (n:Int):(opM n).leaves ≤ 1:=by
 simp only [opM,apply_ite OpM.leaves]
 repeat' split
 all_goals omega
theorem A01 (n:Int):0 ≤ (opM n).a:=by
 simp only [opM,apply_ite OpM.a]
 repeat' split
 all_goals omega
theorem A00 (n:Int):(opM n).a ≤ 7:=by
 simp only [opM,apply_ite OpM.a]
 repeat' split
 all_goals omega
theorem Akm (n:Int):0 ≤ (opM n).needs ∧ (opM n).needs ≤ 2 ∧ 0 ≤ (opM n).leaves ∧ (opM n).leaves ≤ 1 ∧ 0 ≤ (opM n).a ∧ (opM n).a ≤ 7:=⟨A05 n,A04 n,A03 n,A02 n,A01 n,A00 n⟩
def opR (n:Int):AV:=if n < 1 ∨ 17 ≤ n then .tup [opZ,.sc (.bool false)] else .tup [opA n,.sc (.bool true)]
theorem Ays:(afn Tryz.prog ck 3 (.func 85) [int 1] Mem.empty).map (·.1) = some (.tup [opA 1,.sc (.bool true)]):=by kernel_rfl
theorem Ayr:(afn Tryz.prog ck 3 (.func 85) [int 2] Mem.empty).map (·.1) = some (.tup [opA 2,.sc (.bool true)]):=by kernel_rfl
theorem Ayq:(afn Tryz.prog ck 3 (.func 85) [int 3] Mem.empty).map (·.1) = some (.tup [opA 3,.sc (.bool true)]):=by kernel_rfl
theorem Ayp:(afn Tryz.prog ck 3 (.func 85) [int 4] Mem.empty).map (·.1) = some (.tup [opA 4,.sc (.bool true)]):=by kernel_rfl
theorem Ayo:(afn Tryz.prog ck 3 (.func 85) [int 5] Mem.empty).map (·.1) = some (.tup [opA 5,.sc (.bool true)]):=by kernel_rfl
theorem Ayn:(afn Tryz.prog ck 3 (.func 85) [int 6] Mem.empty).map (·.1) = some (.tup [opA 6,.sc (.bool true)]):=by kernel_rfl
theorem Aym:(afn Tryz.prog ck 3 (.func 85) [int 7] Mem.empty).map (·.1) = some (.tup [opA 7,.sc (.bool true)]):=by kernel_rfl
theorem Ayl:(afn Tryz.prog ck 3 (.func 85) [int 8] Mem.empty).map (·.1) = some (.tup [opA 8,.sc (.bool true)]):=by kernel_rfl
theorem Ayk:(afn Tryz.prog ck 3 (.func 85) [int 9] Mem.empty).map (·.1) = some (.tup [opA 9,.sc (.bool true)]):=by kernel_rfl
theorem At8:(afn Tryz.prog ck 3 (.func 85) [int 10] Mem.empty).map (·.1) = some (.tup [opA 10,.sc (.bool true)]):=by kernel_rfl
theorem At7:(afn Tryz.prog ck 3 (.func 85) [int 11] Mem.empty).map (·.1) = some (.tup [opA 11,.sc (.bool true)]):=by kernel_rfl
theorem At6:(afn Tryz.prog ck 3 (.func 85) [int 12] Mem.empty).map (·.1) = some (.tup [opA 12,.sc (.bool true)]):=by kernel_rfl
theorem At5:(afn Tryz.prog ck 3 (.func 85) [int 13] Mem.empty).map (·.1) = some (.tup [opA 13,.sc (.bool true)]):=by kernel_rfl
theorem At4:(afn Tryz.prog ck 3 (.func 85) [int 14] Mem.empty).map (·.1) = some (.tup [opA 14,.sc (.bool true)]):=by kernel_rfl
theorem At3:(afn Tryz.prog ck 3 (.func 85) [int 15] Mem.empty).map (·.1) = some (.tup [opA 15,.sc (.bool true)]):=by kernel_rfl
theorem At2:(afn Tryz.prog ck 3 (.func 85) [int 16] Mem.empty).map (·.1) = some (.tup [opA 16,.sc (.bool true)]):=by kernel_rfl
theorem tz173:∃ z:AV,tzero Tryz.prog 183 = some z ∧ z.okc = true ∧ z.cells.length = 119:=by
 have h:(tzero Tryz.prog 183).map (fun z => (z.okc,z.cells.length)) = some (true,119):=by kernel_rfl
 obtain ⟨z,h1,h2⟩:=Option.map_eq_some_iff.1 h
 exact ⟨z,h1,congrArg Prod.fst h2,congrArg Prod.snd h2⟩
theorem out80 (n:Int) (h:n < 1 ∨ 17 ≤ n):wph Tryz.prog ck (.func 85) [int n] Mem.empty fun v _ => v = .tup [opZ,.sc (.bool false)]:=by
 obtain ⟨z,hz,h1,h2⟩:=tz173
 refine Aah Tryz.func85 rfl rfl (by simp [Tryz.f85]) (by simp [Tryz.f85]) fun Q hQ => ?_
 simp only [Tryz.f85,show ck.keepRes 85 = true from rfl,show ck.keepArgs 85 = true from rfl] at hQ ⊢
 simp [abuild,placesOf,fillAt,hz,h1,h2]
 by_cases hn:n < 1
 ·simp [hn,undefV,undef,abuild,placesOf,fillAt]
  refine hQ _ _ _ ?_
  rw [Aam]
  exact ⟨[opZ,.sc (.bool false)],by simp [aresult,aload,partOf,opZ],by simp [oneOf]⟩
 ·have hn2:17 ≤ n:=by omega
  simp [hn,hn2,abuild,placesOf,fillAt]
  refine hQ _ _ _ ?_
  rw [Aam]
  exact ⟨[opZ,.sc (.bool false)],by simp [aresult,aload,partOf,opZ],by simp [oneOf]⟩
theorem Aa3 {f:FuncId} {cfg:Cfg} {n:Int} {v:AV} {m:Mem} (hk:cfg.hook f = some (roH (limH Tryz.prog ck f))) (h:wph Tryz.prog ck (.func f) [int n] Mem.empty fun r _ => r = v) (hv:v.out = true):EH Tryz.prog cfg (.func f) [int n] m v m:=by
 obtain ⟨r,m',h1,rfl⟩:=h
 refine Abh hk ?_
 have h3:limH Tryz.prog ck f [int n] Mem.empty = some (r,m'):=Acz h1
 unfold roH
 simp [fzvs,AV.bels,h3,hv]
theorem ro_of {f:FuncId} {n:Int} {v:AV} {k:Nat} (h:(afn Tryz.prog ck k (.func f) [int n] Mem.empty).map (·.1) = some v):wph Tryz.prog ck (.func f) [int n] Mem.empty fun r _ => r = v:=by
 obtain ⟨⟨v',m'⟩,h1,h2⟩:=Option.map_eq_some_iff.1 h
 exact ⟨v',m',.of h1,h2⟩
theorem g80 (n:Int) (m:Mem):EH Tryz.prog cc (.func 85) [int n] m (opR n) m:=by
 unfold opR
 split
 ·rename_i h
  exact Aa3 rfl (out80 n h) (by simp [AV.out,opZ])
 ·rename_i h
  have hc:n = 1 ∨ n = 2 ∨ n = 3 ∨ n = 4 ∨ n = 5 ∨ n = 6 ∨ n = 7 ∨ n = 8 ∨ n = 9 ∨ n = 10 ∨ n = 11 ∨ n = 12 ∨ n = 13 ∨ n = 14 ∨ n = 15 ∨ n = 16:=by omega
  have ho:(AV.tup [opA n,.sc (.bool true)]).out = true:=by simp [AV.out,opA]
  rcases hc with rfl | rfl | rfl | rfl | rfl | rfl | rfl | rfl | rfl | rfl | rfl | rfl | rfl | rfl | rfl | rfl
  ·exact Aa3 rfl (ro_of Ays) ho
  ·exact Aa3 rfl (ro_of Ayr) ho
  ·exact Aa3 rfl (ro_of Ayq) ho
  ·exact Aa3 rfl (ro_of Ayp) ho
  ·exact Aa3 rfl (ro_of Ayo) ho
  ·exact Aa3 rfl (ro_of Ayn) ho
  ·exact Aa3 rfl (ro_of Aym) ho
  ·exact Aa3 rfl (ro_of Ayl) ho
  ·exact Aa3 rfl (ro_of Ayk) ho
  ·exact Aa3 rfl (ro_of At8) ho
  ·exact Aa3 rfl (ro_of At7) ho
  ·exact Aa3 rfl (ro_of At6) ho
  ·exact Aa3 rfl (ro_of At5) ho
  ·exact Aa3 rfl (ro_of At4) ho
  ·exact Aa3 rfl (ro_of At3) ho
  ·exact Aa3 rfl (ro_of At2) ho
end Go.Proofs.YtkoekdfimpcofaaGreat
namespace Go.Proofs.YtkoekdfimpcofaaGreat
set_option maxRecDepth 4000
set_option maxRecDepth 4000
open Go.V
attribute [local simp] Nat.add_assoc
section
variable {P:Program} {t:TypeId} {x y:Operand} {q k:IntKind} {a b:Int}
theorem Aoc:abin P .mul t x y (.sc (.int q a)) (.sc (.int q b)) = some (.sc (.int q (q.wrap (a * b)))):=by
 simp only [abin,plain,eqGuard,binOp,Op.intArith]; simp; rfl
theorem App:abin P .shr t x y (.sc (.int .u64 a)) (.sc (.int k 32)) = some (.sc (.int .u64 (a.fdiv (2 ^ 32)))):=by
 simp only [abin,plain,eqGuard,binOp,Op.shift]; simp; rfl
theorem Apq {n:Nat} (h:n < 2 ^ 64):abin P .and t x y (.sc (.int .u64 n)) (.sc (.int .u64 4294967295)) = some (.sc (.int .u64 ((n % 2 ^ 32:Nat):Int))):=by
 have e:abin P .and t x y (.sc (.int .u64 n)) (.sc (.int .u64 4294967295)) = some (.sc (.int .u64 (IntKind.u64.wrap ((BitVec.ofInt 64 n &&& BitVec.ofInt 64 4294967295).toNat)))):=rfl
 rw [e]
 have h2:(BitVec.ofInt 64 (n:Int) &&& BitVec.ofInt 64 4294967295).toNat = n % 2 ^ 32:=by
  rw [BitVec.toNat_and]
  have h3:(BitVec.ofInt 64 4294967295).toNat = 2 ^ 32 - 1:=rfl
  have h4:(BitVec.ofInt 64 (n:Int)).toNat = n:=by
   rw [BitVec.toNat_ofInt]
   omega
  rw [h3,h4,Nat.and_two_pow_sub_one_eq_mod]
 rw [h2,IntWalk.u64_in _ (by omega)]
end
theorem amin2 {t u T:TypeId} {a b:Int} {m:Mem}:abuiltin Tryz.prog .min #[t,u] T [int a,int b] m = some (int (min a b),m):=by
 show Option.map (·,m) (Option.map AV.sc (pureRun Tryz.prog (Builtin.min_ #[t,u] T [Value.int .i64 a,Value.int .i64 b].toArray))) = _
 have:pureRun Tryz.prog (Builtin.min_ #[t,u] T [Value.int .i64 a,Value.int .i64 b].toArray) = some (.int .i64 (if b < a then b else a)):=rfl
 rw [this]
 have:(if b < a then b else a) = min a b:=by simp only [Int.min_def]; split <;> split <;> omega
 rw [this]
 rfl
theorem Adq {P:Program} {t:TypeId} {xo yo:Operand} {k:IntKind} {n r:Nat} (h:n / 4294967296 = r):abin P .shr t xo yo (.sc (.int .u64 n)) (.sc (.int k 32)) = some (.sc (.int .u64 (r:Int))):=by
 rw [App,Int.fdiv_eq_ediv_of_nonneg _ (by omega)]
 have:(n:Int) / 2 ^ 32 = (r:Int):=by omega
 rw [this]
theorem Ahj {P:Program} {t:TypeId} {xo yo:Operand} {n r:Nat} (h0:n < 18446744073709551616) (h:n % 4294967296 = r):abin P .and t xo yo (.sc (.int .u64 n)) (.sc (.int .u64 4294967295)) = some (.sc (.int .u64 (r:Int))):=by
 rw [Apq h0]
 subst h
 rfl
theorem wrapMul {a b c:Nat} (h:a * b = c) (hc:c < 18446744073709551616):IntKind.u64.wrap ((a:Int) * b) = c:=by
 rw [show (a:Int) * b = ((a * b:Nat):Int) from by simp,h]
 exact IntWalk.u64_in _ (by omega)
theorem wrapAdd {a b c:Nat} (h:a + b = c) (hc:c < 18446744073709551616):IntKind.u64.wrap ((a:Int) + b) = c:=by
 rw [show (a:Int) + b = ((a + b:Nat):Int) from by simp,h]
 exact IntWalk.u64_in _ (by omega)
theorem g121c (x y lo hi x0 x1 y0 y1 w0 p u v vw r t w1 w2 w3 w:Nat)
  (hlo:IntKind.u64.wrap ((x:Int) * y) = (lo:Int))
  (hx0:x % 4294967296 = x0) (hx1:x / 4294967296 = x1) (hy0:y % 4294967296 = y0) (hy1:y / 4294967296 = y1) (hw0:x0 * y0 = w0) (hp:x1 * y0 = p) (hu:x0 * y1 = u) (hv:x1 * y1 = v)
  (hr:w0 / 4294967296 = r) (ht:p + r = t) (hw1:t % 4294967296 = w1) (hw2:t / 4294967296 = w2) (hw:w1 + u = w) (hw3:w / 4294967296 = w3) (hvw:v + w2 = vw) (hhi:vw + w3 = hi) (b1:w0 < 18446744073709551616) (b2:p < 18446744073709551616) (b3:u < 18446744073709551616) (b4:t < 18446744073709551616) (b5:w < 18446744073709551616) (b6:x < 18446744073709551616) (b7:y < 18446744073709551616) (b9:v < 18446744073709551616) (b10:vw < 18446744073709551616) (b11:hi < 18446744073709551616) :
  Gives Tryz.prog cc 119 [.sc (.int .u64 x),.sc (.int .u64 y)] (.tup [.sc (.int .u64 hi),.sc (.int .u64 lo)]):=by
 refine Aae Tryz.func119 rfl rfl rfl rfl (by simp) (by simp [Tryz.f119]) (by simp [Tryz.f119]) fun m => ?_
 have A1:=fun {t:TypeId} {xo yo:Operand} => Ahj (P:=Tryz.prog) (t:=t) (xo:=xo) (yo:=yo) b6 hx0
 have A2:=fun {t:TypeId} {xo yo:Operand} => Ahj (P:=Tryz.prog) (t:=t) (xo:=xo) (yo:=yo) b7 hy0
 have A3:=fun {t:TypeId} {xo yo:Operand} => Ahj (P:=Tryz.prog) (t:=t) (xo:=xo) (yo:=yo) b4 hw1
 have S1:=fun {t:TypeId} {xo yo:Operand} {k:IntKind} => Adq (P:=Tryz.prog) (t:=t) (xo:=xo) (yo:=yo) (k:=k) hx1
 have S2:=fun {t:TypeId} {xo yo:Operand} {k:IntKind} => Adq (P:=Tryz.prog) (t:=t) (xo:=xo) (yo:=yo) (k:=k) hy1
 have S3:=fun {t:TypeId} {xo yo:Operand} {k:IntKind} => Adq (P:=Tryz.prog) (t:=t) (xo:=xo) (yo:=yo) (k:=k) hr
 have S4:=fun {t:TypeId} {xo yo:Operand} {k:IntKind} => Adq (P:=Tryz.prog) (t:=t) (xo:=xo) (yo:=yo) (k:=k) hw2
 have S5:=fun {t:TypeId} {xo yo:Operand} {k:IntKind} => Adq (P:=Tryz.prog) (t:=t) (xo:=xo) (yo:=yo) (k:=k) hw3
 have P1:=wrapMul hw0 b1
 have P2:=wrapMul hp b2
 have P3:=wrapMul hu b3
 have P4:=wrapMul hv b9
 have D1:=wrapAdd ht b4
 have D2:=wrapAdd hw b5
 have D3:=wrapAdd hvw b10
 have D4:=wrapAdd hhi b11
 clear hx0 hx1 hy0 hy1 hr hw1 hw2 hw3
 simp [Tryz.f119,show cc.keepRes 119 = false from rfl,Aoc,A1,A2,A3,S1,S2,S3,S4,S5,P1,P2,P3,P4,hlo,D1,D2,D3,D4]
theorem Ay3 (x1 x0 y1 y0:Nat):(x1 * 4294967296 + x0) * (y1 * 4294967296 + y0) = x1 * y1 * 18446744073709551616 + (x1 * y0 + x0 * y1) * 4294967296 + x0 * y0:=by
 have q1:x1 * 4294967296 * (y1 * 4294967296) = x1 * y1 * 18446744073709551616:=by rw [Nat.mul_mul_mul_comm]
 have q2:x1 * 4294967296 * y0 = x1 * y0 * 4294967296:=Nat.mul_right_comm _ _ _
 have q3:x0 * (y1 * 4294967296) = x0 * y1 * 4294967296:=(Nat.mul_assoc _ _ _).symm
 rw [Nat.add_mul,Nat.mul_add,Nat.mul_add,q1,q2,q3,Nat.add_mul]
 omega
theorem Aun (V Pp U W Z:Nat) (h:V * 18446744073709551616 + (Pp + U) * 4294967296 + W = Z) :
  V + (Pp + W / 4294967296) / 4294967296 + ((Pp + W / 4294967296) % 4294967296 + U) / 4294967296 = Z / 18446744073709551616:=by
 omega
theorem Ay4 (V P U W:Nat) (b1:W ≤ 18446744065119617025) (b2:P ≤ 1152921504338411520) (b3:U ≤ 1152921504338411520) (b4:V ≤ 72057594037927936):P + W / 4294967296 < 18446744073709551616 ∧ (P + W / 4294967296) % 4294967296 + U < 18446744073709551616 ∧ V + (P + W / 4294967296) / 4294967296 < 18446744073709551616 ∧ V + (P + W / 4294967296) / 4294967296 + ((P + W / 4294967296) % 4294967296 + U) / 4294967296 < 18446744073709551616:=by
 refine ⟨?_,?_,?_,?_⟩ <;> omega
theorem g121 (x y:Nat) (hx:x ≤ 1152921504606846976) (hy:y ≤ 1152921504606846976):Gives Tryz.prog cc 119 [.sc (.int .u64 x),.sc (.int .u64 y)] (.tup [.sc (.int .u64 (((x * y) / 18446744073709551616:Nat):Int)),.sc (.int .u64 (((x * y) % 18446744073709551616:Nat):Int))]):=by
 have k:=Ay3 (x / 4294967296) (x % 4294967296) (y / 4294967296) (y % 4294967296)
 rw [Nat.div_add_mod' x,Nat.div_add_mod' y] at k
 have c:=Aun _ _ _ _ _ k.symm
 have x0:x % 4294967296 < 4294967296:=Nat.mod_lt _ (by omega)
 have y0:y % 4294967296 < 4294967296:=Nat.mod_lt _ (by omega)
 have x1:x / 4294967296 ≤ 268435456:=by omega
 have y1:y / 4294967296 ≤ 268435456:=by omega
 have b1:x % 4294967296 * (y % 4294967296) ≤ 4294967295 * 4294967295:=Nat.mul_le_mul (by omega) (by omega)
 have b2:x / 4294967296 * (y % 4294967296) ≤ 268435456 * 4294967295:=Nat.mul_le_mul x1 (by omega)
 have b3:x % 4294967296 * (y / 4294967296) ≤ 4294967295 * 268435456:=Nat.mul_le_mul (by omega) y1
 have b4:x / 4294967296 * (y / 4294967296) ≤ 268435456 * 268435456:=Nat.mul_le_mul x1 y1
 have b5:x * y ≤ 1152921504606846976 * 1152921504606846976:=Nat.mul_le_mul hx hy
 have hlo:IntKind.u64.wrap ((x:Int) * y) = (((x * y) % 18446744073709551616:Nat):Int):=by
  rw [show (x:Int) * y = ((x * y:Nat):Int) from by simp]
  generalize x * y = z
  show IntKind.wrap .u64 (z:Int) = _
  simp [IntKind.wrap,IntKind.signed,IntKind.bits]
 have bb:=Ay4 (x / 4294967296 * (y / 4294967296)) (x / 4294967296 * (y % 4294967296)) (x % 4294967296 * (y / 4294967296)) (x % 4294967296 * (y % 4294967296)) b1 b2 b3 b4
 exact g121c x y _ _ (x % 4294967296) (x / 4294967296) (y % 4294967296) (y / 4294967296) _ _ _ _ _ _ _ _ _ _ _ hlo (Eq.refl _) (Eq.refl _) (Eq.refl _) (Eq.refl _) (Eq.refl _) (Eq.refl _) (Eq.refl _) (Eq.refl _) (Eq.refl _) (Eq.refl _) (Eq.refl _) (Eq.refl _) (Eq.refl _) (Eq.refl _) (Eq.refl _) c
  (by omega) (by omega) (by omega) bb.1 bb.2.1 (by omega) (by omega) (by omega) bb.2.2.1 (by rw [← c]; exact bb.2.2.2)
theorem g100 (x y:Nat) (hx:x ≤ 1152921504606846976) (hy:y ≤ 1152921504606846976):Gives Tryz.prog cc 103 [.sc (.int .u64 x),.sc (.int .u64 y)] (.tup [.sc (.int .u64 (((x * y) / 18446744073709551616:Nat):Int)),.sc (.int .u64 (((x * y) % 18446744073709551616:Nat):Int))]):=by
 have q:=g121 x y hx hy
 generalize (x * y) / 18446744073709551616 = hi at *
 generalize (x * y) % 18446744073709551616 = lo at *
 refine Aae Tryz.func103 rfl rfl rfl rfl (by simp) (by simp [Tryz.f103]) (by simp [Tryz.f103]) fun m => ?_
 simp [Tryz.f103,show cc.keepRes 103 = false from rfl,q.go]
section
variable {P:Program} {t:TypeId} {x y:Operand} {q k:IntKind} {a b:Int}
theorem Aob (h:b ≠ 0):abin P .rem t x y (.sc (.int q a)) (.sc (.int q b)) = some (.sc (.int q (a.tmod b))):=by
 simp only [abin,plain,eqGuard,binOp,Op.intDiv]; simp [h]; rfl
end
theorem Anu {n:Int}:isIn n = true ↔ -1152921504606846976 ≤ n ∧ n ≤ 1152921504606846975:=by unfold isIn; simp
def allIn (l:List Int):Int:=if l.all isIn then 0 else 1
theorem q165 (l:List Int) (hl:l.length ≤ 1000):Gives Tryz.prog ca 165 [.lst (l.map int)] (int (allIn l)):=by
 refine Aae Tryz.func165 rfl rfl rfl rfl (by simp) (by simp [Tryz.f165]) (by simp [Tryz.f165]) fun m => ?_
 simp [Tryz.f165,show ca.keepRes 165 = false from rfl]
 refine Aas 7 l.length (fun i s' m' => Kp m m' ∧ s'.at 5 = .lst (l.map int) ∧ s'.at 6 = int l.length ∧ ∀ j n,j < i → l[j]? = some n → isIn n = true) (by simp) (by omega) ⟨by simp,by simp,by simp,fun j p hj => absurd hj (Nat.not_lt_zero j)⟩ ?_
 rintro i s' m' hi e7 ⟨hkp,e5,e6,hno⟩ hsame hw Q' hn he
 simp [e7,e6]
 refine Aal (fun h => ?_) fun h => ?_
 ·have hlt:i < l.length:=by have:=of_decide_eq_true h; omega
  obtain ⟨p,hp⟩:∃ p,l[i]? = some p:=⟨_,List.getElem?_eq_getElem hlt⟩
  have hx:=Aag (q:=.i64) (x:=int p) (l:=l.map int) (i:=i) Tryz.underlying251 A0l (by rw [List.getElem?_map,hp]; rfl) (by simp)
  simp [e7,e5,hx,(q74 p).go]
  cases e:isIn p with
  | false =>
   have:allIn l = 1:=by
    unfold allIn
    rw [List.all_eq_false.2 ⟨p,List.mem_of_getElem? hp,by simp [e]⟩]
    rfl
   simp
   refine he _ _ _ (by simp) ?_
   simp [this]
   exact hkp
  | true =>
   simp [e7,hw]
   refine hn _ _ hlt (by simp) ⟨hkp,by simp [e5],by simp [e6],fun j n hj hp' => ?_⟩
   by_cases ej:j = i
   ·subst ej; rw [hp] at hp'; cases hp'; exact e
   ·exact hno j n (by omega) hp'
 ·have hge:i = l.length:=by have:=of_decide_eq_false h; omega
  subst hge
  have:allIn l = 0:=by
   unfold allIn
   rw [List.all_eq_true.2]
   ·rfl
   intro p hp
   obtain ⟨j,hj,rfl⟩:=List.mem_iff_getElem.1 hp
   exact hno j _ hj (List.getElem?_eq_getElem hj)
  simp
  refine he _ _ _ (by simp) ?_
  simp [this]
  exact hkp
theorem q165' (a b:Int):Gives Tryz.prog ca 165 [.lst [int a,int b]] (int (if isIn a && isIn b then 0 else 1)):=by
 have:=q165 [a,b] (by simp)
 have e:allIn [a,b] = if isIn a && isIn b then 0 else 1:=by simp [allIn]
 rw [e] at this
 exact this
def fitR (n:Int):Int × Int:=if isIn n then (n,0) else (0,10)
theorem q166 (n:Int):Gives Tryz.prog ca 166 [int n] (.tup [int (fitR n).1,int (fitR n).2]):=by
 refine Aae Tryz.func166 rfl rfl rfl rfl (by simp) (by simp [Tryz.f166]) (by simp [Tryz.f166]) fun m => ?_
 simp [Tryz.f166,show ca.keepRes 166 = false from rfl,(q74 n).go]
 unfold fitR
 cases isIn n <;> simp
theorem Az9 {a b:Int} (h:¬ (isIn a = true ∧ isIn b = true)):(isIn a && isIn b) = false:=by
 rw [← Bool.not_eq_true,Bool.and_eq_true]; exact h
def subR (a b:Int):Int × Int:=if isIn a && isIn b then fitR (a - b) else (0,1)
theorem q117 (a b:Int):Gives Tryz.prog ca 140 [int a,int b] (.tup [int (subR a b).1,int (subR a b).2]):=by
 refine Aae Tryz.func140 rfl rfl rfl rfl (by simp) (by simp [Tryz.f140]) (by simp [Tryz.f140]) fun m => ?_
 simp [Tryz.f140,show ca.keepRes 140 = false from rfl,abuildSlice,placesOf,fillAt,zeros]
 have hz:∀ M:Mem,∀ v,M.get m.next = some (.cells [int a,int b] false v) → fzvs M [.sl m.next 0 2 1 false (some 2)] = ([.lst [int a,int b]],M.mark m.next [int a,int b] v):=by
  intro M v h
  simp [fzvs,fz1,h,chunk]
 rw [(q165' a b).goF (hz _ _ (by simp; rfl))]
 unfold subR
 by_cases h:isIn a = true ∧ isIn b = true
 ·have h1:=Anu.1 h.1
  have h2:=Anu.1 h.2
  have hw:IntKind.i64.wrap (a - b) = a - b:=IntWalk.i64_in _ (by omega)
  simp [h.1,h.2,hw,(q166 _).go]
 ·have e:=Az9 h
  simp [e]
def numV (r e:Int):Val:=if e = 0 then (1,r) else (0,0)
def kdOf (e:Int):Int:=if e = 0 then 0 else if e = 10 then 4 else if e = 11 then 5 else 6
set_option maxRecDepth 20000 in
theorem q118 {A C:Nat} {n:Int} {l:List Val} {m:Mem} (hC:has m C (clC A n l 0)) (r e:Int):wph Tryz.prog ca (.func 141) [.ptr C 0,int r,int e] m fun v m' => v = valA (numV r e) ∧ KpC (fun j => j = C) m m' ∧ has m' C (clC A n l (kdOf e)):=by
 have hCl:=hC.1
 refine Aah Tryz.func141 rfl rfl (by simp [Tryz.f141]) (by simp [Tryz.f141]) fun Q hQ => ?_
 simp only [Tryz.f141,show ca.keepRes 141 = false from rfl,show ca.keepArgs 141 = false from rfl] at hQ ⊢
 obtain ⟨M1,hM1⟩:∃ M1,M1 = m.new [int 0,int 0] false:=⟨_,rfl⟩
 have k1:Kp m M1:=by rw [hM1]; simp
 have n1:M1.next = m.next + 1:=by rw [hM1]; simp
 have b0:M1.get m.next = some (.cells [int 0,int 0] false (m.clock + 1)):=by rw [hM1]; simp
 have hC1:=hC.kp k1
 have fin:∀ (s':Sl) (m5:Mem) (v:Val),s'.at 6 = .ptr m.next 0 → (∃ w,(m5.set m.next [int v.1,int v.2]).get m.next = some (.cells [int v.1,int v.2] false w)) → numV r e = v → KpC (fun j => j = C) M1 m5 → has m5 C (clC A n l (kdOf e)) → Q .ret s' (m5.set m.next [int v.1,int v.2]):=by
  intro s' m5 v h6 ⟨w,hg⟩ hv kc hc
  refine hQ _ _ _ ?_
  rw [Aam]
  refine ⟨[valA v],by simp [aresult,h6,hg,aload,partOf,Aab],?_⟩
  simp only [Bool.false_eq_true,if_false,oneOf,Aca,hv]
  exact ⟨trivial,KpC.cut (((KpC.of (.of k1)).trans (kc.mono fun j h => .inl h)).trans ((Aao m.next _ _).mono fun j h => .inr (by omega))),hc.kc (Aao m.next _ _) (by omega)⟩
 simp
 rw [← hM1]
 clear hM1
 by_cases e0:e = 0
 ·subst e0
  simp [(q126 r).go,b0,Aab]
  exact fin _ _ (1,r) (by simp) ⟨_,by simp; rfl⟩ (by simp [numV]) (.refl _ _) (by simpa [kdOf] using hC1)
 by_cases e1:e = 10
 ·subst e1
  simp
  refine Aad (q134 hC1 4) ?_
  rintro _ m5 ⟨rfl,kc,hc⟩
  have g:=(kc.get m.next (by omega) (by omega)).trans b0
  simp [g,Aab]
  exact fin _ _ (0,0) (by simp) ⟨_,by simp; rfl⟩ (by simp [numV]) kc (by simpa [kdOf,failK] using hc)
 by_cases e2:e = 11
 ·subst e2
  simp
  refine Aad (q134 hC1 5) ?_
  rintro _ m5 ⟨rfl,kc,hc⟩
  have g:=(kc.get m.next (by omega) (by omega)).trans b0
  simp [g,Aab]
  exact fin _ _ (0,0) (by simp) ⟨_,by simp; rfl⟩ (by simp [numV]) kc (by simpa [kdOf,failK] using hc)
 simp [e0,e1,e2]
 refine Aad (q134 hC1 6) ?_
 rintro _ m5 ⟨rfl,kc,hc⟩
 have g:=(kc.get m.next (by omega) (by omega)).trans b0
 simp [g,Aab]
 exact fin _ _ (0,0) (by simp) ⟨_,by simp; rfl⟩ (by simp [numV,e0]) kc (by simpa [kdOf,failK,e0,e1,e2] using hc)
def foldR (F:Int → Int → Int × Int):Int → List Val → Int × Int
 | x,[] => (x,0)
 | x,v :: l => if (F x v.2).2 ≠ 0 then (0,(F x v.2).2) else foldR F (F x v.2).1 l
theorem Az2 {l:List Val} {i:Nat} {v:Val} (h:l[i]? = some v):l.drop i = v :: l.drop (i + 1):=by
 obtain ⟨h1,h2⟩:=List.getElem?_eq_some_iff.1 h
 rw [List.drop_eq_getElem_cons h1,h2]
theorem q113 {A C:Nat} {n:Int} {l lc:List Val} {f:FuncId} {F:Int → Int → Int × Int} {m:Mem} (hC:has m C (clC A n lc 0)) (hl:l.length ≤ 4096) (hs:∀ a b,Gives Tryz.prog ca f [int a,int b] (.tup [int (F a b).1,int (F a b).2])) (first:Int):wph Tryz.prog ca (.func 136) [.ptr C 0,int first,.lst (vals l),.fn (.func f) [] []] m fun v m' => v = valA (numV (foldR F first l).1 (foldR F first l).2) ∧ KpC (fun j => j = C) m m' ∧ has m' C (clC A n lc (kdOf (foldR F first l).2)):=by
 have hCl:=hC.1
 refine Aah Tryz.func136 rfl rfl (by simp [Tryz.f136]) (by simp [Tryz.f136]) fun Q hQ => ?_
 simp only [Tryz.f136,show ca.keepRes 136 = false from rfl,show ca.keepArgs 136 = false from rfl] at hQ ⊢
 have ln:∀ (R:TypeId) (m:Mem),abuiltin Tryz.prog .len #[46] R [.lst (vals l)] m = some (int l.length,m):=fun R m => by rw [Abj Tryz.underlying46]; simp
 obtain ⟨M1,hM1⟩:∃ M1,M1 = m.new [int 0,int 0] false:=⟨_,rfl⟩
 have k1:Kp m M1:=by rw [hM1]; simp
 have n1:M1.next = m.next + 1:=by rw [hM1]; simp
 have b0:M1.get m.next = some (.cells [int 0,int 0] false (m.clock + 1)):=by rw [hM1]; simp
 have hC1:=hC.kp k1
 obtain ⟨res,hres⟩:∃ res,res = foldR F first l:=⟨_,rfl⟩
 rw [← hres] at hQ
 have fin:∀ (s':Sl) (m5:Mem) (v:Val),s'.at 8 = .ptr m.next 0 → (∃ w,(m5.set m.next [int v.1,int v.2]).get m.next = some (.cells [int v.1,int v.2] false w)) → numV res.1 res.2 = v → KpC (fun j => j = C) M1 m5 → has m5 C (clC A n lc (kdOf res.2)) → Q .ret s' (m5.set m.next [int v.1,int v.2]):=by
  intro s' m5 v h6 ⟨w,hg⟩ hv kc hc
  refine hQ _ _ _ ?_
  rw [Aam]
  refine ⟨[valA v],by simp [aresult,h6,hg,aload,partOf,Aab],?_⟩
  simp only [Bool.false_eq_true,if_false,oneOf,Aca,hv]
  exact ⟨trivial,KpC.cut (((KpC.of (.of k1)).trans (kc.mono fun j h => .inl h)).trans ((Aao m.next _ _).mono fun j h => .inr (by omega))),hc.kc (Aao m.next _ _) (by omega)⟩
 simp [ln]
 rw [← hM1]
 clear hM1
 refine Aas 15 l.length (fun i s' m' => Kp M1 m' ∧ ∃ x,s'.at 1 = int x ∧ res = foldR F x (l.drop i)) (by simp) (by omega) ⟨.refl _,first,by simp,hres⟩ ?_
 rintro i s' m' hi e15 ⟨hkp,x,e1,ex⟩ hsame hw Q' hn he
 have e0:s'.at 0 = .ptr C 0:=(hsame 0 (by kernel_rfl)).trans (by simp)
 have e3:s'.at 3 = .fn (.func f) [] []:=(hsame 3 (by kernel_rfl)).trans (by simp)
 have e8:s'.at 8 = .ptr m.next 0:=(hsame 8 (by kernel_rfl)).trans (by simp)
 have e13:s'.at 13 = .lst (vals l):=(hsame 13 (by kernel_rfl)).trans (by simp)
 have e14:s'.at 14 = int l.length:=(hsame 14 (by kernel_rfl)).trans (by simp)
 clear hsame
 have n':=hkp.next
 simp [e15,e14]
 refine Aal (fun h => ?_) fun h => ?_
 ·have hlt:i < l.length:=by simpa using h
  obtain ⟨v,hv⟩:∃ v,l[i]? = some v:=⟨_,List.getElem?_eq_getElem hlt⟩
  have hix:=Abp hv
  rw [Az2 hv,foldR] at ex
  have z0:m.next ≠ m'.next:=by omega
  have k4:Kp m' ((m'.new [int 0,int 0] false).set m'.next [int v.1,int v.2]):=by simp
  have g:=((hkp.trans k4).get m.next (by omega)).trans b0
  simp [e15,e13,hix,e3,e1,(hs x v.2).go]
  by_cases hz:(F x v.2).2 = 0
  ·rw [if_neg (by simp [hz])] at ex
   simp [hz,e15,hw]
   exact hn _ _ hlt (by simp) ⟨hkp.trans k4,(F x v.2).1,by simp,ex⟩
  ·rw [if_pos hz] at ex
   simp [hz,e0]
   refine Aad (q118 (hC1.kp (hkp.trans k4)) 0 (F x v.2).2) ?_
   rintro _ m5 ⟨rfl,kc,hc⟩
   have g5:=(kc.get m.next (by have:=(hkp.trans k4).next; omega) (by omega)).trans g
   simp [e8,g5,numV,hz,Aab]
   refine he _ _ _ (by simp) ?_
   simp
   refine fin _ _ (0,0) (by simp [e8]) ⟨_,by simp; rfl⟩ (by rw [ex]; simp [numV,hz]) (KpC.trans (.of (.of (hkp.trans k4))) kc) (by rw [ex]; exact hc)
 ·have hge:i = l.length:=by have:=of_decide_eq_false h; omega
  subst hge
  rw [List.drop_length,foldR] at ex
  have g:=(hkp.get m.next (by omega)).trans b0
  simp
  refine he _ _ _ (by simp) ?_
  simp [e1,e8,g,(q126 x).go,Aab]
  exact fin _ _ (1,x) (by simp [e8]) ⟨_,by simp; rfl⟩ (by rw [ex]; simp [numV]) (.of (.of hkp)) (by rw [ex]; exact hC1.kp hkp)
theorem Apy {l:List Val} (h:l ≠ []):aslice Tryz.prog 46 (.lst (vals l)) (some (int 1)) none none = some (.lst (vals l.tail)):=by
 cases l with
 | nil => exact absurd rfl h
 | cons v l =>
  have:=Acf (T:=46) (xs:=vals (v :: l)) (k:=2) (lo:=some (int 1)) (hi:=none) (l:=some 1) (h:=none) Tryz.underlying46 Abb (Abd (n:=1)) Aa1 (by simp) (by simp) (Aba _)
  have e:(vals l).take l.length = vals l:=List.take_of_length_le (by simp)
  simp [Aay,e] at this
  simpa [Aay] using this
def truV (b:Bool):Val:=(2,if b then 1 else 0)
theorem q67 (b:Bool):Gives Tryz.prog ca 127 [.sc (.bool b)] (valA (truV b)):=by
 refine Aae Tryz.func127 rfl rfl rfl rfl (by simp) (by simp [Tryz.f127]) (by simp [Tryz.f127]) fun m => ?_
 cases b
 ·simp [Tryz.f127,show ca.keepRes 127 = false from rfl,abuild,placesOf,fillAt]
  rfl
 ·simp [Tryz.f127,show ca.keepRes 127 = false from rfl,abuild,placesOf,fillAt]
  rfl
def asksM (a:ArM) (n:Int) (v:Val):Bool :=
 if n = 21 then decide (v.1 = 4) else if n = 43 then decide (v.1 = 5) else if n = 45 then decide (v.1 = 1) else if n = 46 then decide (v.1 = 2) else if n = 47 then decide (v.1 = 3)
 else if n = 20 then decide ((getM a v).1.k = 1) else if n = 44 then decide ((getM a v).1.k = 3) else if n = 49 then decide ((getM a v).1.k = 2)
 else if n = 12 then decide (v = (2,0)) else if n = 11 then decide (v.2 = 0)
 else decide (v.1 = 6 ∨ (getM a v).1.k = 5 ∨ (getM a v).1.k = 6)
theorem q69 {X:Nat → Prop} {A C:Nat} {n k:Int} {l:List Val} {a:ArM} {m:Mem} (hA:Ar X A a m) (hsm:Small a) (hC:has m C (clC A n l k)) (v:Val):EH Tryz.prog ca (.func 129) [.ptr C 0,valA v] m (.sc (.bool (asksM a n v))) m:=by
 obtain ⟨hCl,w,hg⟩:=id hC
 obtain ⟨vt,vn⟩:=v
 refine Aaw Tryz.func129 rfl rfl rfl rfl (args1:=[.ptr C 0,valA (vt,vn)]) (m1:=m) (by simp [fzvs]) (by simp) (by simp [Tryz.f129]) (by simp [Tryz.f129]) ?_
 simp only [Tryz.f129,show ca.keepRes 129 = false from rfl]
 have hag:AV.agg [int vt,int vn] = valA (vt,vn):=rfl
 obtain ⟨g,hgd⟩:∃ g,g = asksM a n (vt,vn):=⟨_,rfl⟩
 rw [← hgd]
 obtain ⟨x0,hx0⟩:∃ x,x = (m.new [int vt,int vn] false).newMap:=⟨_,rfl⟩
 obtain ⟨vx0,mpx0⟩:∃ v,x0.map (m.next + 1) = some ⟨[],0,v⟩:=⟨_,by rw [hx0]; simp; rfl⟩
 have ux1:=Aan (P:=Tryz.prog) Abg Tryz.underlying3 mpx0 (ks:=[]) rfl (k:=21) rfl (int 4)
 obtain ⟨x1,hx1⟩:∃ x,x = x0.setMap (m.next + 1) ([] ++ [(.int .i64 21,int 4,0)]) (0 + 1):=⟨_,rfl⟩
 obtain ⟨vx1,mpx1⟩:∃ v,x1.map (m.next + 1) = some ⟨[(.int .i64 21,int 4,0)],1,v⟩:=⟨_,by rw [hx1]; simp; rfl⟩
 rw [← hx1] at ux1
 have ux2:=Aan (P:=Tryz.prog) Abg Tryz.underlying3 mpx1 (ks:=[21]) rfl (k:=43) rfl (int 5)
 obtain ⟨x2,hx2⟩:∃ x,x = x1.setMap (m.next + 1) ([(.int .i64 21,int 4,0)] ++ [(.int .i64 43,int 5,1)]) (1 + 1):=⟨_,rfl⟩
 obtain ⟨vx2,mpx2⟩:∃ v,x2.map (m.next + 1) = some ⟨[(.int .i64 21,int 4,0),(.int .i64 43,int 5,1)],2,v⟩:=⟨_,by rw [hx2]; simp; rfl⟩
 rw [← hx2] at ux2
 have ux3:=Aan (P:=Tryz.prog) Abg Tryz.underlying3 mpx2 (ks:=[21,43]) rfl (k:=45) rfl (int 1)
 obtain ⟨x3,hx3⟩:∃ x,x = x2.setMap (m.next + 1) ([(.int .i64 21,int 4,0),(.int .i64 43,int 5,1)] ++ [(.int .i64 45,int 1,2)]) (2 + 1):=⟨_,rfl⟩
 obtain ⟨vx3,mpx3⟩:∃ v,x3.map (m.next + 1) = some ⟨[(.int .i64 21,int 4,0),(.int .i64 43,int 5,1),(.int .i64 45,int 1,2)],3,v⟩:=⟨_,by rw [hx3]; simp; rfl⟩
 rw [← hx3] at ux3
 have ux4:=Aan (P:=Tryz.prog) Abg Tryz.underlying3 mpx3 (ks:=[21,43,45]) rfl (k:=46) rfl (int 2)
 obtain ⟨x4,hx4⟩:∃ x,x = x3.setMap (m.next + 1) ([(.int .i64 21,int 4,0),(.int .i64 43,int 5,1),(.int .i64 45,int 1,2)] ++ [(.int .i64 46,int 2,3)]) (3 + 1):=⟨_,rfl⟩
 obtain ⟨vx4,mpx4⟩:∃ v,x4.map (m.next + 1) = some ⟨[(.int .i64 21,int 4,0),(.int .i64 43,int 5,1),(.int .i64 45,int 1,2),(.int .i64 46,int 2,3)],4,v⟩:=⟨_,by rw [hx4]; simp; rfl⟩
 rw [← hx4] at ux4
 have ux5:=Aan (P:=Tryz.prog) Abg Tryz.underlying3 mpx4 (ks:=[21,43,45,46]) rfl (k:=47) rfl (int 3)
 obtain ⟨x5,hx5⟩:∃ x,x = x4.setMap (m.next + 1) ([(.int .i64 21,int 4,0),(.int .i64 43,int 5,1),(.int .i64 45,int 1,2),(.int .i64 46,int 2,3)] ++ [(.int .i64 47,int 3,4)]) (4 + 1):=⟨_,rfl⟩
 obtain ⟨vx5,mpx5⟩:∃ v,x5.map (m.next + 1) = some ⟨[(.int .i64 21,int 4,0),(.int .i64 43,int 5,1),(.int .i64 45,int 1,2),(.int .i64 46,int 2,3),(.int .i64 47,int 3,4)],5,v⟩:=⟨_,by rw [hx5]; simp; rfl⟩
 rw [← hx5] at ux5
 have gx:∀ j,x5.get j = x0.get j:=fun j => by rw [hx5,hx4,hx3,hx2,hx1]; simp
 have nx:x5.next = x0.next:=by rw [hx5,hx4,hx3,hx2,hx1]; simp
 have hlx:=Aei (P:=Tryz.prog) (ok:=true) Abg Tryz.underlying3 mpx5 (ks:=[21,43,45,46,47]) rfl n
 have kx:Kp m x5:=by rw [hx5,hx4,hx3,hx2,hx1,hx0]; simp
 have b5:x5.get m.next = some (.cells [int vt,int vn] false (m.clock + 1)):=by rw [gx,hx0]; simp
 have C5:=(kx.get C hCl).trans hg
 have nx5:x5.next = m.next + 2:=by rw [nx,hx0]; simp
 clear hx5 hx4 hx3 hx2 hx1 mpx0 mpx1 mpx2 mpx3 mpx4
 simp [Abv Abg]
 rw [← hx0]
 clear hx0 gx nx
 simp [ux1,ux2,ux3,ux4,ux5,C5]
 clear ux1 ux2 ux3 ux4 ux5
 by_cases d21:n = 21
 ·rw [asksM,if_pos d21] at hgd
  subst d21
  have hl':alookup Tryz.prog 143 (.mp (m.next + 1)) (int 21) true x5 = some (.tup [int 4,.sc (.bool true)]):=by rw [hlx]; rfl
  simp [hl',b5,hgd]
  exact kx
 by_cases d43:n = 43
 ·rw [asksM,if_neg d21,if_pos d43] at hgd
  subst d43
  have hl':alookup Tryz.prog 143 (.mp (m.next + 1)) (int 43) true x5 = some (.tup [int 5,.sc (.bool true)]):=by rw [hlx]; rfl
  simp [hl',b5,hgd]
  exact kx
 by_cases d45:n = 45
 ·rw [asksM,if_neg d21,if_neg d43,if_pos d45] at hgd
  subst d45
  have hl':alookup Tryz.prog 143 (.mp (m.next + 1)) (int 45) true x5 = some (.tup [int 1,.sc (.bool true)]):=by rw [hlx]; rfl
  simp [hl',b5,hgd]
  exact kx
 by_cases d46:n = 46
 ·rw [asksM,if_neg d21,if_neg d43,if_neg d45,if_pos d46] at hgd
  subst d46
  have hl':alookup Tryz.prog 143 (.mp (m.next + 1)) (int 46) true x5 = some (.tup [int 2,.sc (.bool true)]):=by rw [hlx]; rfl
  simp [hl',b5,hgd]
  exact kx
 by_cases d47:n = 47
 ·rw [asksM,if_neg d21,if_neg d43,if_neg d45,if_neg d46,if_pos d47] at hgd
  subst d47
  have hl':alookup Tryz.prog 143 (.mp (m.next + 1)) (int 47) true x5 = some (.tup [int 3,.sc (.bool true)]):=by rw [hlx]; rfl
  simp [hl',b5,hgd]
  exact kx
 have hl':alookup Tryz.prog 143 (.mp (m.next + 1)) (int n) true x5 = some (.tup [int 0,.sc (.bool false)]):=by
  have hfi:([21,43,45,46,47]:List Int).findIdx? (fun x => decide (x = n)) = none:=by
   rw [List.findIdx?_eq_none_iff]
   intro x hx
   simp at hx
   simp
   omega
  rw [hlx,hfi]
  simp [Aka]
 obtain ⟨y0,hy0⟩:∃ x,x = x5.newMap:=⟨_,rfl⟩
 obtain ⟨vy0,mpy0⟩:∃ v,y0.map (x5.next) = some ⟨[],0,v⟩:=⟨_,by rw [hy0]; simp; rfl⟩
 have uy1:=Aan (P:=Tryz.prog) Abg Tryz.underlying3 mpy0 (ks:=[]) rfl (k:=20) rfl (int 1)
 obtain ⟨y1,hy1⟩:∃ x,x = y0.setMap (x5.next) ([] ++ [(.int .i64 20,int 1,0)]) (0 + 1):=⟨_,rfl⟩
 obtain ⟨vy1,mpy1⟩:∃ v,y1.map (x5.next) = some ⟨[(.int .i64 20,int 1,0)],1,v⟩:=⟨_,by rw [hy1]; simp; rfl⟩
 rw [← hy1] at uy1
 have uy2:=Aan (P:=Tryz.prog) Abg Tryz.underlying3 mpy1 (ks:=[20]) rfl (k:=44) rfl (int 3)
 obtain ⟨y2,hy2⟩:∃ x,x = y1.setMap (x5.next) ([(.int .i64 20,int 1,0)] ++ [(.int .i64 44,int 3,1)]) (1 + 1):=⟨_,rfl⟩
 obtain ⟨vy2,mpy2⟩:∃ v,y2.map (x5.next) = some ⟨[(.int .i64 20,int 1,0),(.int .i64 44,int 3,1)],2,v⟩:=⟨_,by rw [hy2]; simp; rfl⟩
 rw [← hy2] at uy2
 have uy3:=Aan (P:=Tryz.prog) Abg Tryz.underlying3 mpy2 (ks:=[20,44]) rfl (k:=49) rfl (int 2)
 obtain ⟨y3,hy3⟩:∃ x,x = y2.setMap (x5.next) ([(.int .i64 20,int 1,0),(.int .i64 44,int 3,1)] ++ [(.int .i64 49,int 2,2)]) (2 + 1):=⟨_,rfl⟩
 obtain ⟨vy3,mpy3⟩:∃ v,y3.map (x5.next) = some ⟨[(.int .i64 20,int 1,0),(.int .i64 44,int 3,1),(.int .i64 49,int 2,2)],3,v⟩:=⟨_,by rw [hy3]; simp; rfl⟩
 rw [← hy3] at uy3
 have gy:∀ j,y3.get j = y0.get j:=fun j => by rw [hy3,hy2,hy1]; simp
 have ny:y3.next = y0.next:=by rw [hy3,hy2,hy1]; simp
 have hly:=Aei (P:=Tryz.prog) (ok:=true) Abg Tryz.underlying3 mpy3 (ks:=[20,44,49]) rfl n
 have ky:Kp x5 y3:=by rw [hy3,hy2,hy1,hy0]; simp
 have kxy:=kx.trans ky
 have b3:=(ky.get m.next (by omega)).trans b5
 have C3:=(ky.get C (by omega)).trans C5
 clear hy3 hy2 hy1 mpy0 mpy1 mpy2
 simp [hl',Abv Abg]
 rw [← hy0]
 clear hy0 gy ny
 simp [uy1,uy2,uy3,C3]
 clear uy1 uy2 uy3
 by_cases d20:n = 20
 ·rw [asksM,if_neg d21,if_neg d43,if_neg d45,if_neg d46,if_neg d47,if_pos d20] at hgd
  have q:=q65 (hA.kp kxy) hsm (hC.kp kxy) (vt,vn) 1
  subst d20
  have hl'':alookup Tryz.prog 143 (.mp x5.next) (int 20) true y3 = some (.tup [int 1,.sc (.bool true)]):=by rw [hly]; rfl
  simp [hl'',b3,hag,q.go,hgd]
  exact kxy
 by_cases d44:n = 44
 ·rw [asksM,if_neg d21,if_neg d43,if_neg d45,if_neg d46,if_neg d47,if_neg d20,if_pos d44] at hgd
  have q:=q65 (hA.kp kxy) hsm (hC.kp kxy) (vt,vn) 3
  subst d44
  have hl'':alookup Tryz.prog 143 (.mp x5.next) (int 44) true y3 = some (.tup [int 3,.sc (.bool true)]):=by rw [hly]; rfl
  simp [hl'',b3,hag,q.go,hgd]
  exact kxy
 by_cases d49:n = 49
 ·rw [asksM,if_neg d21,if_neg d43,if_neg d45,if_neg d46,if_neg d47,if_neg d20,if_neg d44,if_pos d49] at hgd
  have q:=q65 (hA.kp kxy) hsm (hC.kp kxy) (vt,vn) 2
  subst d49
  have hl'':alookup Tryz.prog 143 (.mp x5.next) (int 49) true y3 = some (.tup [int 2,.sc (.bool true)]):=by rw [hly]; rfl
  simp [hl'',b3,hag,q.go,hgd]
  exact kxy
 have hl'':alookup Tryz.prog 143 (.mp x5.next) (int n) true y3 = some (.tup [int 0,.sc (.bool false)]):=by
  have hfi:([20,44,49]:List Int).findIdx? (fun x => decide (x = n)) = none:=by
   rw [List.findIdx?_eq_none_iff]
   intro x hx
   simp at hx
   simp
   omega
  rw [hly,hfi]
  simp [Aka]
 simp [hl'',C3]
 by_cases d12:n = 12
 ·rw [asksM,if_neg d21,if_neg d43,if_neg d45,if_neg d46,if_neg d47,if_neg d20,if_neg d44,if_neg d49,if_pos d12] at hgd
  simp [d12]
  refine Aaq (by kernel_rfl) ?_
  simp [b3,(q67 false).go,hag,And,truV]
  refine Aa2 (l:=[(0,1)]) (by kernel_rfl) (?_:List.all _ _ = true) ?_
  ·simp [metAtD,metOkD,rank,verKeptD,Region.wanted,Mem.ver,b3]
  simp [hgd]
  exact kxy
 by_cases d11:n = 11
 ·rw [asksM,if_neg d21,if_neg d43,if_neg d45,if_neg d46,if_neg d47,if_neg d20,if_neg d44,if_neg d49,if_neg d12,if_pos d11] at hgd
  simp [d12,d11,b3,hgd]
  exact kxy
 rw [asksM,if_neg d21,if_neg d43,if_neg d45,if_neg d46,if_neg d47,if_neg d20,if_neg d44,if_neg d49,if_neg d12,if_neg d11] at hgd
 have q5:=q65 (hA.kp kxy) hsm (hC.kp kxy) (vt,vn) 5
 have q6:=q65 (hA.kp kxy) hsm (hC.kp kxy) (vt,vn) 6
 simp [d12,d11,b3]
 by_cases h6:vt = 6
 ·simp [h6,undefV,undef,hgd]
  exact kxy
 ·by_cases h5:(getM a (vt,vn)).1.k = 5
  ·simp [h6,hag,q5.go,h5,undefV,undef,hgd,b3]
   exact kxy
  ·simp [h6,hag,q5.go,q6.go,h5,undefV,undef,hgd,b3]
   exact kxy
section
variable {X:Nat → Prop} {A C:Nat} {a:ArM} {m:Mem}
theorem u126 {x y:Val} {m:Mem} (hC:has m C (clC A 1 [x,y] 0)):wph Tryz.prog ca (.func 126) [.ptr C 0] m fun v m' => v = valA (numV (foldR subR x.2 [y]).1 (foldR subR x.2 [y]).2) ∧ KpC (fun j => j = C) m m' ∧ has m' C (clC A 1 [x,y] (kdOf (foldR subR x.2 [y]).2)):=by
 have hCl:=hC.1
 refine Aah Tryz.func126 rfl rfl (by simp [Tryz.f126]) (by simp [Tryz.f126]) fun Q hQ => ?_
 simp only [Tryz.f126,show ca.keepRes 126 = false from rfl,show ca.keepArgs 126 = false from rfl] at hQ ⊢
 have ln:∀ (R:TypeId) (m:Mem),abuiltin Tryz.prog .len #[46] R [.lst (vals [x,y])] m = some (int 2,m):=fun R m => by rw [Abj Tryz.underlying46]; simp
 obtain ⟨M1,hM1⟩:∃ M1,M1 = m.new [int 0,int 0] false:=⟨_,rfl⟩
 have k1:Kp m M1:=by rw [hM1]; simp
 have n1:M1.next = m.next + 1:=by rw [hM1]; simp
 have b0:M1.get m.next = some (.cells [int 0,int 0] false (m.clock + 1)):=by rw [hM1]; simp
 have hC1:=hC.kp k1
 obtain ⟨_,w,gC⟩:=id hC1
 obtain ⟨_,w',gC0⟩:=id hC
 have c0:C ≠ m.next:=by omega
 obtain ⟨res,hres⟩:∃ res,res = foldR subR x.2 [y]:=⟨_,rfl⟩
 rw [← hres] at hQ
 have hi0:aindexAddr Tryz.prog 46 (.lst (vals [x,y])) (int 0) = some ((valA x).cptr 0):=Abp (i:=0) rfl
 have hi1:aindexAddr Tryz.prog 46 (.lst (vals [x,y])) (int 1) = some ((valA y).cptr 0):=Abp (i:=1) rfl
 simp [gC0,c0,ln,hi0,hi1]
 rw [← hM1]
 clear hM1
 have ht:=Apy (l:=[x,y]) (by simp)
 simp [gC,ln,ht]
 have w:=q113 hC1 (l:=[y]) (by simp) q117 x.2
 rw [← hres] at w
 refine Aad w ?_
 rintro _ m5 ⟨rfl,kc,hc⟩
 have g5:=(kc.get m.next (by omega) (by omega)).trans b0
 simp [g5,Aab]
 refine hQ _ _ _ ?_
 rw [Aam]
 refine ⟨[valA (numV res.1 res.2)],by simp [aresult,aload,partOf,Aab],?_⟩
 simp only [Bool.false_eq_true,if_false,oneOf,Aca]
 exact ⟨trivial,KpC.cut (((KpC.of (.of k1)).trans (kc.mono fun j h => .inl h)).trans ((Aao m.next _ _).mono fun j h => .inr (by omega))),hc.kc (Aao m.next _ _) (by omega)⟩
def twoR (n:Int) (l:List Val):Val × Int:=match l with
 | [x] => (truV (decide (x.2 = 0)),0)
 | [x,y] => (numV (foldR subR x.2 [y]).1 (foldR subR x.2 [y]).2,kdOf (foldR subR x.2 [y]).2)
 | _ => ((0,0),0)
theorem u115 {n:Int} {l:List Val} (hA:Ar X A a m) (hX:∀ j,X j → j < m.next) (hsm:Small a) (hXC:¬ X C) (hC:has m C (clC A n l 0)) (hn:(n = 1 ∧ ∃ x y,l = [x,y]) ∨ (n = 11 ∧ ∃ x,l = [x])) :
  wph Tryz.prog ca (.func 115) [.ptr C 0] m fun r m' => r = valA (twoR n l).1 ∧ Cs X A C n l a (twoR n l).2 m m':=by
 have hCl:=hC.1
 refine Aah Tryz.func115 rfl rfl (by simp [Tryz.f115]) (by simp [Tryz.f115]) fun Q hQ => ?_
 simp only [Tryz.f115,show ca.keepRes 115 = false from rfl,show ca.keepArgs 115 = false from rfl] at hQ ⊢
 obtain ⟨M1,hM1⟩:∃ M1,M1 = m.new [int 0,int 0] false:=⟨_,rfl⟩
 have k1:Kp m M1:=by rw [hM1]; simp
 have n1:M1.next = m.next + 1:=by rw [hM1]; simp
 have b0:M1.get m.next = some (.cells [int 0,int 0] false (m.clock + 1)):=by rw [hM1]; simp
 have hA1:=hA.kp k1
 have hX1:∀ j,X j → j < M1.next:=fun j h => by have:=hX j h; omega
 have hC1:=hC.kp k1
 obtain ⟨_,w,gC⟩:=id hC1
 obtain ⟨_,w',gC0⟩:=id hC
 have c0:C ≠ m.next:=by omega
 obtain ⟨res,hres⟩:∃ res,res = twoR n l:=⟨_,rfl⟩
 rw [← hres] at hQ
 have fin:∀ (s':Sl) (m5:Mem) (v:Val),s'.at 2 = .ptr m.next 0 → (∃ w,(m5.set m.next [int v.1,int v.2]).get m.next = some (.cells [int v.1,int v.2] false w)) → res.1 = v → Cs X A C n l a res.2 M1 m5 → Q .ret s' (m5.set m.next [int v.1,int v.2]):=by
  intro s' m5 v h6 ⟨w,hg⟩ hv hcs
  refine hQ _ _ _ ?_
  rw [Aam]
  refine ⟨[valA v],by simp [aresult,h6,hg,aload,partOf,Aab],?_⟩
  simp only [Bool.false_eq_true,if_false,oneOf,Aca,hv]
  exact ⟨trivial,Cs.box k1 hX hCl hcs (by omega) (by omega) _⟩
 simp [gC0,c0]
 rw [← hM1]
 clear hM1
 rcases hn with ⟨rfl,x,y,rfl⟩ | ⟨rfl,x,rfl⟩
 ·simp
  refine Aad (u126 hC1) ?_
  rintro _ m5 ⟨rfl,kc,hc5⟩
  have hcs:=Cs.of_c hA1 hX1 hXC kc hc5
  have g5:=(kc.get m.next (by omega) (by omega)).trans b0
  simp [g5,Aab]
  exact fin _ _ _ (by simp) ⟨_,by simp; rfl⟩ (by rw [hres]; rfl) (by rw [hres]; exact hcs)
 ·have q:=q69 hA1 hsm hC1 x
  have hi0:aindexAddr Tryz.prog 46 (.lst (vals [x])) (int 0) = some ((valA x).cptr 0):=Abp (i:=0) rfl
  have hz:asksM a 11 x = decide (x.2 = 0):=by simp [asksM]
  rw [hz] at q
  simp [gC,hi0,Aab,q.go,(q67 _).go,b0]
  exact fin _ _ _ (by simp) ⟨_,by simp; rfl⟩ (by rw [hres]; rfl) (by rw [hres]; exact Cs.refl hA1 hX1 hC1)
theorem u95 {n:Int} {l:List Val} (hA:Ar X A a m) (hX:∀ j,X j → j < m.next) (hsm:Small a) (hf:∀ v ∈ l,v.1 = 1 ∧ isIn v.2 = true) (hn:(n = 1 ∧ ∃ x y,l = [x,y]) ∨ (n = 11 ∧ ∃ x,l = [x])) (h0:(twoR n l).2 = 0) :
  wph Tryz.prog ca (.func 95) [.ptr A 0,int n,.lst (vals l)] m fun v m' => v = .tup [valA (twoR n l).1,int 0] ∧ Up X A a m m':=by
 have hll:l.length ≤ 4096:=by rcases hn with ⟨_,x,y,rfl⟩ | ⟨_,x,rfl⟩ <;> simp
 have w:=q22 hA hX hsm hll (n:=n) (res:=((twoR n l).1,a,(twoR n l).2)) (fun _ _ _ _ _ m1 C hA1 hX1 hXC hC => u115 hA1 hX1 hsm hXC hC hn)
 have e:doM a n l ((twoR n l).1,a,(twoR n l).2) = ((twoR n l).1,a,0):=by
  have r1:(rowOf 1).1 ≠ [] ∧ (rowOf 1).2.1 = 1 ∧ (rowOf 1).2.2 = -1:=by unfold rowOf rws; simp
  have r11:(rowOf 11).1 ≠ [] ∧ (rowOf 11).2.1 = 1 ∧ (rowOf 11).2.2 = 1:=by unfold rowOf rws; simp
  have hq:∀ v ∈ l,equalM a v v = true:=fun v hv => by
   obtain ⟨h1,h2⟩:=hf v hv
   obtain ⟨v1,v2⟩:=v
   simp only at h1 h2
   subst h1
   simp [equalM,goodM,h2,eqM]
  have hg:∀ (i:Nat) v,l[i]? = some v → goodP a n v i = true:=fun i v hv => by
   have h1:=(hf v (List.mem_of_getElem? hv)).1
   rw [goodP,if_pos (by rcases hn with ⟨q,_⟩ | ⟨q,_⟩ <;> omega)]
   simp [h1]
  have hc:countP n l.length ∧ (rowOf n).1 ≠ [] ∧ ¬ 64 ≤ n:=by
   rcases hn with ⟨rfl,x,y,rfl⟩ | ⟨rfl,x,rfl⟩
   ·simp [countP,r1]
   ·simp [countP,r11]
  unfold doM
  rw [if_neg (by rintro (h | h); exact hc.2.1 h; exact hc.2.2 h),if_neg (not_not_intro hc.1),if_neg (not_not_intro hq),if_neg (not_not_intro hg),if_neg (by simp [h0])]
 rw [e] at w
 exact w
end
structure TwoOk (n:Int) (l:List Val):Prop where
 fix:∀ v ∈ l,v.1 = 1 ∧ isIn v.2 = true
 sh:(n = 1 ∧ ∃ x y,l = [x,y]) ∨ (n = 11 ∧ ∃ x,l = [x])
 ok:(twoR n l).2 = 0
section
variable {t:Ro} {T P A:Nat} {pr:PrM} {p:PgM} {s:MaM} {now:AV} {q:RestA} {m:Mem} {fs:List FrM} {u:AV} {n:Int} {l:List Val}
theorem u75 (h:TkA t T P A pr p s now q m) (hc:ChA t m fs u) (hsm:Small s.ar) (ho:TwoOk n l) (hl:∀ f ∈ fs,f.stack.length ≤ 4096) :
  wph Tryz.prog ca (.func 75) [.ptr T 0,int n,.lst (vals l),u] m fun r m' => r = .tup [] ∧ ∃ t' now' q',TkA t' T P A pr p (answerM (twoR n l).1 fs s) now' q' m' ∧ ChA t' m' (answerM (twoR n l).1 fs s).frames now' ∧ Chg RM t t' m m':=by
 have bd:=h.b.bd
 obtain ⟨hT,w,g⟩:=h.tk
 obtain ⟨cx,⟨hP,wP,gP⟩,_⟩:=h.b.pg
 have hu:=hc.fz (m':=m)
 have w95:=u95 h.b.ar (fun j hj => bd j (by rw [hj]; simp)) hsm ho.fix ho.sh ho.ok
 refine Aah Tryz.func75 rfl rfl (by simp [Tryz.f75]) (by simp [Tryz.f75]) fun Q hQ => ?_
 simp only [Tryz.f75,show ca.keepRes 75 = false from rfl,show ca.keepArgs 75 = false from rfl] at hQ ⊢
 simp [hu,g,gP,tkC,pgC]
 refine Aad w95 ?_
 rintro _ m1 ⟨rfl,up⟩
 obtain ⟨t1,h1,c1⟩:=h.arena up
 have hc1:=ChA.keep c1.kt fs u (fun r e => .inl (by have e:r = 3:=e; omega)) hc
 have h1:TkA t1 T P A pr p s now q m1:=h1
 obtain ⟨M1,hM1⟩:∃ M1,M1 = (m1.new [int 0,int 0] false).set m1.next [int (twoR n l).1.1,int (twoR n l).1.2]:=⟨_,rfl⟩
 have k1:Kp m1 M1:=by rw [hM1]; simp
 have c2:Chg (fun _ => False) t1 t1 m1 M1:=Chg.refl h1.b.bd k1
 have h2:=h1.keep c2.kt (by simp) (by simp) (by simp) (by simp)
 have hc2:=ChA.keep c2.kt fs u (by simp) hc1
 simp [Aab]
 rw [← hM1]
 refine Aad (w73 h2 hc2 hl (twoR n l).1) ?_
 rintro _ m3 ⟨rfl,t3,now3,q3,h3,hc3,c3⟩
 simp
 exact hQ _ _ _ ⟨.inl rfl,[],rfl,rfl,t3,now3,q3,h3,hc3,(c1.mono fun r e => .inr (.inl e)).trans ((c2.mono fun _ e => e.elim).trans c3)⟩
theorem u53 (h:TkA t T P A pr p s now q m) (hc:ChA t m fs u) (hsm:Small s.ar) (ho:TwoOk n l) (hl:∀ f ∈ fs,f.stack.length ≤ 4096) :
  wph Tryz.prog ca (.func 53) [.ptr T 0,valA (6,n),.lst (vals l),u] m fun r m' => r = .tup [] ∧ ∃ t' now' q',TkA t' T P A pr p (answerM (twoR n l).1 fs s) now' q' m' ∧ ChA t' m' (answerM (twoR n l).1 fs s).frames now' ∧ Chg RM t t' m m':=by
 have bd:=h.b.bd
 obtain ⟨M1,hM1⟩:∃ M1,M1 = m.new [int 6,int n] false:=⟨_,rfl⟩
 have k1:Kp m M1:=by rw [hM1]; simp
 have b0:M1.get m.next = some (.cells [int 6,int n] false (m.clock + 1)):=by rw [hM1]; simp
 have c1:Chg (fun _ => False) t t m M1:=Chg.refl bd k1
 have h1:=h.keep c1.kt (by simp) (by simp) (by simp) (by simp)
 have hc1:=ChA.keep c1.kt fs u (by simp) hc
 have hu:=hc.fz (m':=m)
 have hn:n < 64:=by rcases ho.sh with ⟨rfl,_⟩ | ⟨rfl,_⟩ <;> omega
 refine Aah Tryz.func53 rfl rfl (by simp [Tryz.f53]) (by simp [Tryz.f53]) fun Q hQ => ?_
 simp only [Tryz.f53,show ca.keepRes 53 = false from rfl,show ca.keepArgs 53 = false from rfl] at hQ ⊢
 simp [hu,hn]
 rw [← hM1]
 clear hM1
 refine Aad (u75 h1 hc1 hsm ho hl) ?_
 rintro _ m3 ⟨rfl,t3,now3,q3,h3,hc3,c3⟩
 exact hQ _ _ _ ⟨.inr rfl,[],rfl,rfl,t3,now3,q3,h3,hc3,(c1.mono fun _ e => e.elim).trans c3⟩
end
section
variable {t:Ro} {T P A:Nat} {pr:PrM} {p:PgM} {s:MaM} {q:RestA} {F:Nat} {g:FrM} {fs:List FrM} {px cx sx u:AV} {m:Mem} {x:InsM}
theorem Axv {n:Int} {l:List Val} (h:In3 t T P A pr p s q F g fs px cx sx u m) (hx:x.1 = 13) (h0:0 ≤ x.2.1) (h1:x.2.1 ≤ 32) (h2:x.2.1 + 1 ≤ g.stack.length) (hsm:Small s.ar) (ho:TwoOk n l) (hst:g.last (x.2.1.toNat + 1) = (6,n) :: l) (hfl:∀ f ∈ fs,f.stack.length ≤ 4096) (hl:g.stack.length ≤ 256):wph Tryz.prog ca (.func 26) [.ptr T 0,.ptr F 0,insA x] m fun r m' => r = .tup [] ∧ ResI t T P A pr p (answerM (twoR n l).1 (g.cut (x.2.1.toNat + 1) :: fs) s) m m':=by
 obtain ⟨M1,hM1⟩:∃ M1,M1 = m.new [int x.1,int x.2.1,int x.2.2] false:=⟨_,rfl⟩
 have k1:Kp m M1:=by rw [hM1]; simp
 have nM:M1.next = m.next + 1:=by rw [hM1]; simp
 have b0:M1.get m.next = some (.cells [int x.1,int x.2.1,int x.2.2] false (m.clock + 1)):=by rw [hM1]; simp
 have hI:=h.kp k1
 have bd:=h.bd
 have c1:Chg RM t t m M1:=Chg.refl h.bd k1
 obtain ⟨hT,w,gT⟩:=hI.tk.tk
 obtain ⟨cx',⟨hP,wP,gP⟩,cv⟩:=hI.tk.b.pg
 obtain ⟨hF,wF,gF⟩:=hI.fr.get
 have ecn:((x.2.1.toNat + 1:Nat):Int) = x.2.1 + 1:=by omega
 have hw:IntKind.i64.wrap (x.2.1 + 1) = x.2.1 + 1:=IntWalk.i64_in _ (by omega)
 obtain ⟨L,hL⟩:∃ L,L = g.last (x.2.1.toNat + 1):=⟨_,rfl⟩
 have hLl:L.length = x.2.1.toNat + 1:=by rw [hL]; exact Af9 g (by omega)
 have hix:aindexAddr Tryz.prog 46 (.lst (vals L)) (int 0) = some ((valA (atV L 0)).cptr 0):=Abp (i:=0) (Alh (i:=0) (Int.le_refl _) (by omega))
 have hsl:aslice Tryz.prog 46 (.lst (vals L)) (some (int 1)) none none = some (.lst (vals (L.drop 1))):=by
  have:=Acf (P:=Tryz.prog) (T:=46) (xs:=vals L) (k:=2) (lo:=some (int ((1:Nat):Int))) (hi:=none) (l:=some 1) (h:=none) Tryz.underlying46 Abb (Abd (n:=1)) Aa1 (by simp; omega) (by simp) (Aba L)
  refine this.trans ?_
  simp [vals,List.map_drop,← List.map_take]
 refine Aah Tryz.func26 rfl rfl (by simp [Tryz.f26]) (by simp [Tryz.f26]) fun Q hQ => ?_
 simp only [Tryz.f26,show ca.keepRes 26 = false from rfl,show ca.keepArgs 26 = false from rfl] at hQ ⊢
 simp
 rw [← hM1]
 clear hM1
 simp [b0,hx,hw]
 have w:=take3 hI (by omega) (n:=x.2.1.toNat + 1) (by omega)
 rw [ecn,← hL] at w
 refine Aad w ?_
 rintro _ m7 ⟨rfl,sx7,h7,c7⟩
 have b7:=(c7.box0 bd (Nat.le_refl _) (by omega)).trans b0
 obtain ⟨hF7,wF7,gF7⟩:=h7.fr.get
 simp [b7,hx,gF7,frC]
 refine Aat (by kernel_rfl) (by kernel_rfl) ?_
 simp [hix,Aab,hsl]
 have e0:atV L 0 = (6,n):=by rw [hL,hst]; rfl
 have e1:L.tail = l:=by rw [hL,hst]; rfl
 rw [e0,e1]
 refine Aad (u53 (fs:=g.cut (x.2.1.toNat + 1) :: fs) h7.tk ⟨F,u,rfl,⟨px,cx,sx7,h7.fr⟩,h7.ch⟩ hsm ho (fun f hf => ?_)) ?_
 ·rcases List.mem_cons.1 hf with rfl | hf
  ·rw [Aju]; omega
  ·exact hfl f hf
 rintro _ m8 ⟨rfl,t8,now8,q8,h8,hc8,c8⟩
 simp
 refine hQ _ _ _ ⟨.inl rfl,[],rfl,rfl,?_⟩
 exact ⟨t8,now8,q8,h8,hc8,c1.trans (c7.trans c8)⟩
end
section
variable {t:Ro} {T P A:Nat} {pr:PrM} {p:PgM} {s:MaM} {q:RestA} {now:AV} {m:Mem}
end
def shownM (s:MaM):List FrM:=if s.status = 1 ∨ s.status = 2 then s.frames else []
def atM (s:MaM):Int × Int × Int:=match shownM s with
 | [] => (0,0,0)
 | f :: fs => (f.code,f.pc,(fs.length:Int) + 1)
def valueM (s:MaM):Val:=if s.status = 3 then s.value else (0,0)
section
variable {t:Ro} {T P A:Nat} {pr:PrM} {p:PgM} {s:MaM} {q:RestA} {now:AV} {m:Mem}
theorem w26 (h:has m T (tkC P s now q)) (hop:s.status = 2 → s.op ≠ 4) (hnow:now = nilA ∨ ∃ F,F < m.next ∧ now = .ptr F 0):EH Tryz.prog ca (.func 22) [.ptr T 0] m (if s.status = 1 ∨ s.status = 2 then now else nilA) m:=by
 have q10:=w10 h
 obtain ⟨hT,w,g⟩:=h
 have hb:(if s.status = 1 ∨ s.status = 2 then now else nilA).bel m.next = true:=by
  split
  ·rcases hnow with rfl | ⟨F,hF,rfl⟩
   ·rfl
   ·simp [AV.bel,hF]
  ·rfl
 refine Aaw Tryz.func22 rfl rfl rfl rfl (args1:=[.ptr T 0]) (m1:=m) (by simp) hb (by simp [Tryz.f22]) (by simp [Tryz.f22]) ?_
 by_cases h1:s.status = 1
 ·rcases hnow with rfl | ⟨F,hF,rfl⟩ <;> simp [Tryz.f22,show ca.keepRes 22 = false from rfl,q10.go,g,tkC,h1,undefV,undef]
 ·by_cases h2:s.status = 2
  ·have:=hop h2
   rcases hnow with rfl | ⟨F,hF,rfl⟩ <;> simp [Tryz.f22,show ca.keepRes 22 = false from rfl,q10.go,g,tkC,h2,this,undefV,undef]
  ·simp [Tryz.f22,show ca.keepRes 22 = false from rfl,q10.go,g,tkC,h1,h2,undefV,undef]
theorem ChA.nowOk {fs:List FrM} {u:AV} (h:ChA t m fs u):u = nilA ∨ ∃ F,F < m.next ∧ u = .ptr F 0:=by
 cases fs with
 | nil => exact .inl h
 | cons f fs => obtain ⟨F,u',h1,⟨px,cx,sx,hf⟩,_⟩:=h; exact .inr ⟨F,hf.get.1,h1⟩
theorem Atz (hc:ChA t m s.frames now):ChA t m (shownM s) (if s.status = 1 ∨ s.status = 2 then now else nilA):=by
 unfold shownM
 split
 ·exact hc
 ·rfl
theorem w12 (h:has m T (tkC P s now q)) (hc:ChA t m s.frames now) (hop:s.status = 2 → s.op ≠ 4):EH Tryz.prog ca (.func 9) [.ptr T 0] m (.tup [int (atM s).1,int (atM s).2.1,int (atM s).2.2]) m:=by
 have q26:=w26 h hop hc.nowOk
 have hs:=Atz hc
 unfold atM
 generalize (if s.status = 1 ∨ s.status = 2 then now else nilA) = u at q26 hs
 cases hl:shownM s with
 | nil =>
  rw [hl] at hs
  have hs:u = nilA:=hs
  subst hs
  refine Aaw Tryz.func9 rfl rfl rfl rfl (args1:=[.ptr T 0]) (m1:=m) (by simp) (by simp) (by simp [Tryz.f9]) (by simp [Tryz.f9]) ?_
  simp [Tryz.f9,show ca.keepRes 9 = false from rfl,q26.go,Aqy,fzvs]
 | cons f fs =>
  rw [hl] at hs
  obtain ⟨F,u',rfl,⟨px,cx,sx,hf⟩,_⟩:=hs
  obtain ⟨_,w,g⟩:=hf.get
  refine Aaw Tryz.func9 rfl rfl rfl rfl (args1:=[.ptr T 0]) (m1:=m) (by simp) (by simp) (by simp [Tryz.f9]) (by simp [Tryz.f9]) ?_
  simp [Tryz.f9,show ca.keepRes 9 = false from rfl,q26.go,Aqo]
  refine Aat (by kernel_rfl) (by kernel_rfl) ?_
  simp [g,frC,fzvs]
theorem w13 (h:has m T (tkC P s now q)):EH Tryz.prog ca (.func 14) [.ptr T 0] m (.tup [valA (valueM s),.sc (.bool (decide (s.status = 3)))]) m:=by
 obtain ⟨hT,w,g⟩:=h
 obtain ⟨M1,hM1⟩:∃ M1,M1 = m.new [int 0,int 0] false:=⟨_,rfl⟩
 have k1:Kp m M1:=by rw [hM1]; simp
 have g1:=(k1.get T hT).trans g
 have q10:=w10 (m:=M1) ⟨Nat.lt_of_lt_of_le hT k1.next,w,g1⟩
 have b0:M1.get m.next = some (.cells [int 0,int 0] false (m.clock + 1)):=by rw [hM1]; simp
 have nT:T ≠ m.next:=by omega
 refine Aaw Tryz.func14 rfl rfl rfl rfl (args1:=[.ptr T 0]) (m1:=m) (by simp) (by simp [AV.bel,AV.bels]) (by simp [Tryz.f14]) (by simp [Tryz.f14]) ?_
 simp only [Tryz.f14,show ca.keepRes 14 = false from rfl]
 simp
 rw [← hM1]
 clear hM1
 by_cases h3:s.status = 3
 ·simp [q10.go,h3,g1,tkC,b0,valueM]
  exact ⟨rfl,k1⟩
 ·simp [q10.go,h3,b0,valueM,abuild,placesOf,fillAt]
  exact ⟨rfl,k1⟩
end
def askA (op:Int) (nm:List UInt8) (n:Int) (l:List Val):AV:=.agg [int op,strS nm,int n,.lst (vals l)]
section
variable {t:Ro} {T P A:Nat} {pr:PrM} {p:PgM} {s:MaM} {now:AV} {q:RestA} {m:Mem} {l:List Val}
theorem u10 (h:has m T (tkC P s now q)) (h2:s.status = 2) (ha:q.args = .lst (vals l)) (hl:l.length ≤ 4096):EH Tryz.prog ca (.func 10) [.ptr T 0] m (.tup [askA s.op q.nm q.n l,.sc (.bool true)]) m:=by
 obtain ⟨hT,w,g⟩:=h
 obtain ⟨M1,hM1⟩:∃ M1,M1 = m.new [int 0,strS [],int 0,.emp 0] false:=⟨_,rfl⟩
 have k1:Kp m M1:=by rw [hM1]; simp
 have g1:=(k1.get T hT).trans g
 have q10:=w10 (m:=M1) ⟨Nat.lt_of_lt_of_le hT k1.next,w,g1⟩
 have n1:M1.next = m.next + 1:=by rw [hM1]; simp
 have b0:M1.get m.next = some (.cells [int 0,strS [],int 0,.emp 0] false (m.clock + 1)):=by rw [hM1]; simp
 have nT:T ≠ m.next:=by omega
 have nT1:T ≠ M1.next:=by omega
 refine Aaw Tryz.func10 rfl rfl rfl rfl (args1:=[.ptr T 0]) (m1:=m) (by simp) (by simp [askA,AV.bel,AV.bels]) (by simp [Tryz.f10]) (by simp [Tryz.f10]) ?_
 simp only [Tryz.f10,show ca.keepRes 10 = false from rfl]
 simp
 rw [← hM1]
 clear hM1
 simp [q10.go,h2,g1,tkC,ha]
 obtain ⟨X1,hX1⟩:∃ X1,X1 = (M1.new [int 0,strS [],int 0,.emp 0] false).set M1.next [int s.op,strS q.nm,int q.n,.lst (vals l)]:=⟨_,rfl⟩
 have kX:Kp M1 X1:=by rw [hX1]; simp
 have nX:X1.next = m.next + 2:=by rw [hX1]; simp [n1]
 have bX:∃ w,X1.get M1.next = some (.cells [int s.op,strS q.nm,int q.n,.lst (vals l)] false w):=⟨_,by rw [hX1]; simp; rfl⟩
 have b1:=(kX.get m.next (by omega)).trans b0
 rw [← hX1]
 clear hX1
 obtain ⟨w1,bX⟩:=bX
 refine Aad (q110 (m:=X1) (.inl rfl) hl) ?_
 rintro v m2 ⟨k2,fr⟩
 have bX2:=(k2.get M1.next (by omega)).trans bX
 have b12:=(k2.get m.next (by omega)).trans b1
 have nn:m.next ≠ M1.next:=by omega
 obtain ⟨o1,o2⟩:=fr.okc
 simp [bX2,b12,o1,o2,nn,Ne.symm nn]
 obtain ⟨M5,hM5⟩:∃ M5,M5 = (m2.set M1.next [int s.op,strS q.nm,int q.n,v]).set m.next [int s.op,strS q.nm,int q.n,v]:=⟨_,rfl⟩
 have k5:Kp m M5:=by
  rw [hM5]
  have k:Kp m m2:=(k1.trans kX).trans k2
  refine ⟨by simpa using k.next,fun id hi => ?_,fun id hi => ?_⟩
  ·have a1:id ≠ m.next:=by omega
   have a2:id ≠ M1.next:=by omega
   simpa [a1,a2] using k.get id hi
  ·simpa using k.3 id hi
 obtain ⟨m6,y1,y2⟩:=(fr.keep (m0:=X1) (m2:=M5) (Nat.le_refl _) (by rw [hM5]; simp) (fun j a b => by rw [hM5]; simp [show j ≠ m.next by omega,show j ≠ M1.next by omega])).fz (m0:=m) (by omega) k5
 rw [← hM5,y1]
 exact ⟨rfl,y2⟩
theorem u10n (h:has m T (tkC P s now q)) (h2:s.status ≠ 2):EH Tryz.prog ca (.func 10) [.ptr T 0] m (.tup [askA 0 [] 0 [],.sc (.bool false)]) m:=by
 obtain ⟨hT,w,g⟩:=h
 obtain ⟨M1,hM1⟩:∃ M1,M1 = m.new [int 0,strS [],int 0,.emp 0] false:=⟨_,rfl⟩
 have k1:Kp m M1:=by rw [hM1]; simp
 have g1:=(k1.get T hT).trans g
 have q10:=w10 (m:=M1) ⟨Nat.lt_of_lt_of_le hT k1.next,w,g1⟩
 have b0:M1.get m.next = some (.cells [int 0,strS [],int 0,.emp 0] false (m.clock + 1)):=by rw [hM1]; simp
 refine Aaw Tryz.func10 rfl rfl rfl rfl (args1:=[.ptr T 0]) (m1:=m) (by simp) (by simp [askA,AV.bel,AV.bels]) (by simp [Tryz.f10]) (by simp [Tryz.f10]) ?_
 simp only [Tryz.f10,show ca.keepRes 10 = false from rfl]
 simp
 rw [← hM1]
 clear hM1
 simp [q10.go,h2,b0,abuild,placesOf,fillAt,askA]
 exact k1
theorem u28 (h:has m T (tkC P s now q)):EH Tryz.prog ca (.func 28) [.ptr T 0] m (int (if s.status = 0 then 2 else if s.status = 2 then 0 else 6)) m:=by
 have q10:=w10 h
 refine Aaw Tryz.func28 rfl rfl rfl rfl (args1:=[.ptr T 0]) (m1:=m) (by simp) (by simp) (by simp [Tryz.f28]) (by simp [Tryz.f28]) ?_
 simp only [Tryz.f28,show ca.keepRes 28 = false from rfl]
 by_cases h0:s.status = 0
 ·simp [q10.go,h0]
 ·by_cases h2:s.status = 2
  ·simp [q10.go,h0,h2]
  ·simp [q10.go,h0,h2]
def gotM (s:MaM) (f:FrM) (fs:List FrM) (v:Val):MaM:=setT { s with op:=0,status:=1 } (f.put (if s.op = 1 then v else (2,0))) fs
theorem u13 {f:FrM} {fs:List FrM} (h:TkA t T P A pr p s now q m) (hc:ChA t m (f :: fs) now) (h2:s.status = 2) (hop:1 ≤ s.op ∧ s.op ≤ 3) (hl:f.stack.length ≤ 4096) (v:Val) :
  wph Tryz.prog ca (.func 13) [.ptr T 0,valA v] m fun r m' => r = int 0 ∧ ResI t T P A pr p (gotM s f fs v) m m':=by
 obtain ⟨F,u,rfl,⟨px,cx,sx,hf⟩,hc'⟩:=hc
 have bd:=h.b.bd
 have rh:=roHi fs.length
 obtain ⟨M1,hM1⟩:∃ M1,M1 = m.new [int v.1,int v.2] false:=⟨_,rfl⟩
 have k1:Kp m M1:=by rw [hM1]; simp
 have nM:M1.next = m.next + 1:=by rw [hM1]; simp
 have b0:M1.get m.next = some (.cells [int v.1,int v.2] false (m.clock + 1)):=by rw [hM1]; simp
 have c1:Chg (fun _ => False) t t m M1:=Chg.refl bd k1
 have h1:=h.keep c1.kt (by simp) (by simp) (by simp) (by simp)
 have f1:=hf.keep c1.kt (by simp) (by simp) (by simp)
 have e1:=ChA.keep c1.kt fs u (by simp) hc'
 have q28:=u28 h1.tk
 rw [if_neg (by omega),if_pos h2] at q28
 obtain ⟨hT,w,g⟩:=h1.tk
 have nT:T ≠ m.next:=by have:=h.tk.1; omega
 obtain ⟨z1,y1⟩:=h1.set (s':={ s with op:=0 }) (now':=.ptr F 0) (q':=⟨[],0,.emp 0,q.k,q.fv⟩) rfl (.inl rfl)
 obtain ⟨M2,hM2⟩:∃ M2,M2 = M1.set T (tkC P { s with op:=0 } (.ptr F 0) ⟨[],0,.emp 0,q.k,q.fv⟩):=⟨_,rfl⟩
 rw [← hM2] at z1 y1
 have n2:M2.next = m.next + 1:=by rw [hM2]; simp [nM]
 have b2:M2.get m.next = some (.cells [int v.1,int v.2] false (m.clock + 1)):=by rw [hM2]; simp [Ne.symm nT,b0]
 have kt0:∀ {t:Ro} {m m':Mem},Chg (· = 0) t t m m' → ∀ {g:FrM} {px cx sx u:AV},FrB t fs.length F g px cx sx u m → ChA t m fs u → FrB t fs.length F g px cx sx u m' ∧ ChA t m' fs u:=by
  intro t m m' c g px cx sx u a b
  exact ⟨a.keep c.kt (show ¬ roF fs.length = 0 by omega) (show ¬ roP fs.length = 0 by omega) (show ¬ roS fs.length = 0 by omega),ChA.keep c.kt fs u (fun r e => .inl (by have e:r = 0:=e; omega)) b⟩
 obtain ⟨f2,e2⟩:=kt0 y1 f1 e1
 obtain ⟨hT2,w2,g2⟩:=z1.tk
 have c2:Chg (· = 0) t t m M2:=(c1.mono fun _ e => e.elim).trans y1
 have tn:t m.next = none:=by
  cases e:t m.next with
  | none => rfl
  | some r => have:=bd m.next (by rw [e]; simp); omega
 refine Aah Tryz.func13 rfl rfl (by simp [Tryz.f13]) (by simp [Tryz.f13]) fun Q hQ => ?_
 simp only [Tryz.f13,show ca.keepRes 13 = false from rfl,show ca.keepArgs 13 = false from rfl] at hQ ⊢
 simp
 rw [← hM1]
 clear hM1
 have n4:¬ s.op = 4:=by omega
 have hM2':M2 = M1.set T [.ptr P 0,int s.status,int s.steps,.ptr F 0,int 0,strS [],int 0,.emp 0,int s.value.1,int s.value.2,int q.k,int q.fv.1,int q.fv.2]:=by rw [hM2]; rfl
 have put:∀ (x:Val) (M3:Mem) (w3:Nat),M3.get m.next = some (.cells [int x.1,int x.2] false w3) → Chg (· = 0) t t m M3 → Kt (fun _ => False) t t M2 M3 → M2.next ≤ M3.next → In3 t T P A pr p { s with op:=0,status:=1 } ⟨[],0,.emp 0,q.k,q.fv⟩ F f fs px cx sx u (M3.set T (tkC P { s with op:=0,status:=1 } (.ptr F 0) ⟨[],0,.emp 0,q.k,q.fv⟩)) ∧ Chg (· = 0) t t m (M3.set T (tkC P { s with op:=0,status:=1 } (.ptr F 0) ⟨[],0,.emp 0,q.k,q.fv⟩)):=by
  intro x M3 w3 b3 c3 kt3 hn
  have z3:=z1.keep kt3 (by simp) (by simp) (by simp) (by simp)
  have f3:=f2.keep kt3 (by simp) (by simp) (by simp)
  have e3:=ChA.keep kt3 fs u (by simp) e2
  obtain ⟨z4,y4⟩:=z3.set (s':={ s with op:=0,status:=1 }) (now':=.ptr F 0) (q':=⟨[],0,.emp 0,q.k,q.fv⟩) rfl (.inl rfl)
  obtain ⟨f4,e4⟩:=kt0 y4 f3 e3
  exact ⟨⟨z4,f4,e4⟩,c3.trans y4⟩
 simp [q28.go,g,tkC,abuild,placesOf,fillAt,n4]
 rw [← hM2']
 have g2':M2.get T = some (.cells [.ptr P 0,int s.status,int s.steps,.ptr F 0,int 0,strS [],int 0,.emp 0,int s.value.1,int s.value.2,int q.k,int q.fv.1,int q.fv.2] false w2):=g2
 by_cases h1:s.op = 1
 ·simp [h1,g2']
  obtain ⟨i4,c4⟩:=put v M2 _ b2 c2 (Chg.refl (R:=fun _ => False) z1.b.bd (.refl M2)).kt (Nat.le_refl _)
  obtain ⟨M4,hM4⟩:∃ M4,M4 = M2.set T (tkC P { s with op:=0,status:=1 } (.ptr F 0) ⟨[],0,.emp 0,q.k,q.fv⟩):=⟨_,rfl⟩
  have hM4':M4 = M2.set T [.ptr P 0,int 1,int s.steps,.ptr F 0,int 0,strS [],int 0,.emp 0,int s.value.1,int s.value.2,int q.k,int q.fv.1,int q.fv.2]:=by rw [hM4]; rfl
  have b4:M4.get m.next = some (.cells [int v.1,int v.2] false (m.clock + 1)):=by rw [hM4]; simp [Ne.symm nT,b2]
  rw [← hM4] at i4 c4
  rw [← hM4']
  clear hM4 hM4'
  obtain ⟨hT4,w4,g4⟩:=i4.tk.tk
  simp [tkC] at g4
  refine Aat (by kernel_rfl) (by kernel_rfl) ?_
  simp [g4,b4,Aab]
  refine Aad (put3 i4 hl v) ?_
  rintro _ m5 ⟨rfl,t5,sx5,i5,c5⟩
  simp
  refine hQ _ _ _ ?_
  rw [Aa6]
  refine ⟨by simp,?_⟩
  have:=i5.fin ((c4.mono fun _ e => .inl e).trans c5)
  simpa [gotM,h1] using this
 ·simp [h1,(w70 _).go,b2,nT,g2']
  obtain ⟨M3,hM3⟩:∃ M3,M3 = M2.set m.next [int 2,int 0]:=⟨_,rfl⟩
  have b3:M3.get m.next = some (.cells [int 2,int 0] false (M2.clock + 1)):=by rw [hM3]; simp
  have k3:KpC (fun j => m.next ≤ j ∧ t j = none) M2 M3:=by rw [hM3]; exact (Aao m.next _ M2).mono fun j (e:j = m.next) => by subst e; exact ⟨Nat.le_refl _,tn⟩
  have n3:M2.next ≤ M3.next:=by rw [hM3]; simp
  rw [← hM3]
  clear hM3
  obtain ⟨c3,kt3⟩:=c2.then k3
  obtain ⟨i4,c4⟩:=put (2,0) M3 _ b3 c3 kt3 n3
  obtain ⟨M4,hM4⟩:∃ M4,M4 = M3.set T (tkC P { s with op:=0,status:=1 } (.ptr F 0) ⟨[],0,.emp 0,q.k,q.fv⟩):=⟨_,rfl⟩
  have hM4':M4 = M3.set T [.ptr P 0,int 1,int s.steps,.ptr F 0,int 0,strS [],int 0,.emp 0,int s.value.1,int s.value.2,int q.k,int q.fv.1,int q.fv.2]:=by rw [hM4]; rfl
  have b4:M4.get m.next = some (.cells [int 2,int 0] false (M2.clock + 1)):=by rw [hM4]; simp [Ne.symm nT,b3]
  rw [← hM4] at i4 c4
  rw [← hM4']
  clear hM4 hM4'
  obtain ⟨hT4,w4,g4⟩:=i4.tk.tk
  simp [tkC] at g4
  refine Aat (by kernel_rfl) (by kernel_rfl) ?_
  have hag:AV.agg [int 2,int 0] = valA (2,0):=rfl
  simp [g4,b4,hag]
  refine Aad (put3 i4 hl (2,0)) ?_
  rintro _ m5 ⟨rfl,t5,sx5,i5,c5⟩
  simp
  refine hQ _ _ _ ?_
  rw [Aa6]
  refine ⟨by simp,?_⟩
  have:=i5.fin ((c4.mono fun _ e => .inl e).trans c5)
  simpa [gotM,h1] using this
end
end Go.Proofs.YtkoekdfimpcofaaGreat
namespace Go.Proofs.YtkoekdfimpcofaaGreat
set_option maxRecDepth 4000
open Go.V
theorem run4:(afn Tryz.prog cka 30 (.func 7) [] Mem.empty).map (·.1) = some (.sc (.bool true)):=by kernel_rfl
theorem c4 (m:Mem):EH Tryz.prog ca (.func 7) [] m (.sc (.bool true)) m:=Axr rfl run4 rfl
abbrev nmZ:List UInt8:=[122,101,114,111,63]
abbrev nmM:List UInt8:=[45]
abbrev nmF:List UInt8:=[102]
theorem Al5 {P:Program} {cfg c2:Cfg} {n:Nat} {f:FuncId} {s:List UInt8} {v:AV} {m:Mem} (hk:cfg.hook f = some (roH (limH P c2 f))) (h:(afn P c2 n (.func f) [.sc (.string ⟨⟨s⟩⟩)] Mem.empty).map (·.1) = some v) (hv:v.out = true):EH P cfg (.func f) [.sc (.string ⟨⟨s⟩⟩)] m v m:=by
 refine Abh hk ?_
 obtain ⟨⟨v',m'⟩,h1,h2⟩:=Option.map_eq_some_iff.1 h
 cases h2
 have h3:limH P c2 f [.sc (.string ⟨⟨s⟩⟩)] Mem.empty = some (v',m'):=Acz (.of h1)
 unfold roH
 simp [AV.bels,AV.bel,h3,hv]
theorem A0p:(afn Tryz.prog cka 30 (.func 27) [.sc (.string ⟨⟨nmZ⟩⟩)] Mem.empty).map (·.1) = some (.tup [int 11,.sc (.bool true)]):=by kernel_rfl
theorem A0q:(afn Tryz.prog cka 30 (.func 27) [.sc (.string ⟨⟨nmM⟩⟩)] Mem.empty).map (·.1) = some (.tup [int 1,.sc (.bool true)]):=by kernel_rfl
theorem A0r:(afn Tryz.prog cka 200 (.func 27) [.sc (.string ⟨⟨nmF⟩⟩)] Mem.empty).map (·.1) = some (.tup [int 0,.sc (.bool false)]):=by kernel_rfl
theorem u12z (m:Mem):EH Tryz.prog ca (.func 12) [.sc (.string ⟨⟨nmZ⟩⟩)] m (.tup [valA (6,11),.sc (.bool true)]) m:=by
 have q:∀ m,EH Tryz.prog ca (.func 27) [.sc (.string ⟨⟨nmZ⟩⟩)] m (.tup [int 11,.sc (.bool true)]) m:=fun m => Al5 rfl A0p rfl
 refine Aaw Tryz.func12 rfl rfl rfl rfl (args1:=[.sc (.string ⟨⟨nmZ⟩⟩)]) (m1:=m) (by simp) (by simp [valA,AV.bel,AV.bels]) (by simp [Tryz.f12]) (by simp [Tryz.f12]) ?_
 simp [Tryz.f12,show ca.keepRes 12 = false from rfl,(q _).go,abuild,placesOf,fillAt,valA]
theorem u12m (m:Mem):EH Tryz.prog ca (.func 12) [.sc (.string ⟨⟨nmM⟩⟩)] m (.tup [valA (6,1),.sc (.bool true)]) m:=by
 have q:∀ m,EH Tryz.prog ca (.func 27) [.sc (.string ⟨⟨nmM⟩⟩)] m (.tup [int 1,.sc (.bool true)]) m:=fun m => Al5 rfl A0q rfl
 refine Aaw Tryz.func12 rfl rfl rfl rfl (args1:=[.sc (.string ⟨⟨nmM⟩⟩)]) (m1:=m) (by simp) (by simp [valA,AV.bel,AV.bels]) (by simp [Tryz.f12]) (by simp [Tryz.f12]) ?_
 simp [Tryz.f12,show ca.keepRes 12 = false from rfl,(q _).go,abuild,placesOf,fillAt,valA]
theorem u12f (m:Mem):EH Tryz.prog ca (.func 12) [.sc (.string ⟨⟨nmF⟩⟩)] m (.tup [valA (6,0),.sc (.bool false)]) m:=by
 have q:∀ m,EH Tryz.prog ca (.func 27) [.sc (.string ⟨⟨nmF⟩⟩)] m (.tup [int 0,.sc (.bool false)]) m:=fun m => Al5 rfl A0r rfl
 refine Aaw Tryz.func12 rfl rfl rfl rfl (args1:=[.sc (.string ⟨⟨nmF⟩⟩)]) (m1:=m) (by simp) (by simp [valA,AV.bel,AV.bels]) (by simp [Tryz.f12]) (by simp [Tryz.f12]) ?_
 simp [Tryz.f12,show ca.keepRes 12 = false from rfl,(q _).go,abuild,placesOf,fillAt,valA]
end Go.Proofs.YtkoekdfimpcofaaGreat
namespace Go.Proofs.YtkoekdfimpcofaaGreat
set_option maxRecDepth 4000
set_option maxRecDepth 4000
open Go.V
attribute [local simp] Nat.add_assoc
def ints (l:List Int):List AV:=l.map fun n => int n
@[simp] theorem Ac8 (l:List Int):(ints l).length = l.length:=by simp [ints]
theorem Ac0 (n:Int) (l:List Int):ints (n :: l) = int n :: ints l:=rfl
theorem Ac9 (l r:List Int):ints (l ++ r) = ints l ++ ints r:=by simp [ints]
theorem Ag1 (l:List Int):flat (ints l) = ints l:=by
 induction l with
 | nil => rfl
 | cons n l ih => rw [Ac0,Aa7,ih]; rfl
@[simp] theorem Aq6 (l:List Int):okAll 1 (ints l) = true:=by
 induction l with
 | nil => rfl
 | cons s l ih => rw [Ac0,Aak,ih]; simp
theorem Anw (l:List Int):∀ y ∈ ints l,y.cells.length = 1 ∧ (if false then AV.agg y.cells = y else y.cells = [y]):=by
 intro y hy
 obtain ⟨x,_,rfl⟩:=List.mem_map.1 hy
 simp
theorem Anx (l:List Int) (i:Nat):(ints l)[i]? = (l[i]?).map fun n => int n:=by simp [ints]
theorem Aur (l:List Int) (n:Nat):AV.bels n (ints l) = true:=by
 induction l with
 | nil => rfl
 | cons x l ih => simp [Ac0,AV.bels,AV.bel,ih]
theorem Ay9 (l:List Int) (m:Mem):fzvs m (ints l) = (ints l,m):=by
 induction l with
 | nil => rfl
 | cons x l ih =>
  have:fzv m (int x) = (int x,m):=rfl
  rw [Ac0,fzvs,this]
  simp [ih]
theorem Aip:∀ (l:List Int) (r:List AV),chunk 1 false l.length (ints l ++ r) = ints l
 | [],r => rfl
 | v :: l,r => by
  have:=Aip l r
  rw [Ac0,List.length_cons,chunk]
  simp [this]
theorem Anv (l:List Int) (i:Nat) (v:Int) (h:i < l.length):splice (ints l) i [int v] = ints (l.set i v):=by
 unfold splice ints
 rw [List.map_set,List.set_eq_take_append_cons_drop,if_pos (by simpa using h)]
 simp
theorem Ahy:∀ n:Nat,zeros [int 0] n = ints (List.replicate n 0)
 | 0 => rfl
 | n + 1 => by
  rw [List.replicate_succ,Ac0,← Ahy n]
  rfl
theorem Asb {T u R:TypeId} {d x:AV} {m:Mem}:abuiltin Tryz.prog .copy #[T,u] R [d,x] m = acopy Tryz.prog T d x m:=Aj1 (args:=[]) (ts:=#[])
theorem A1f {id off len:Nat} {cap:Option Nat} {l:Nat} (h:l ≤ len):aslice Tryz.prog 69 (.sl id off len 1 false cap) (some (int l)) none none = some (.sl id (off + l) (len - l) 1 false (cap.map (· - l))):=by
 have:=Ae2 (P:=Tryz.prog) (T:=69) (c:=0) (id:=id) (off:=off) (len:=len) (k:=1) (ag:=false) (cap:=cap) (lo:=some (int l)) (hi:=none) (l:=some l) (h:=none) Tryz.underlying69 Adh (Abd (n:=l)) Aa1 (by simpa using h) (by simp)
 simpa using this
theorem A1g {id len:Nat} {cap:Option Nat} {h:Nat} (hh:h ≤ len):aslice Tryz.prog 69 (.sl id 0 len 1 false cap) none (some (int h)) none = some (.sl id 0 h 1 false (cap.map (· - 0))):=by
 have:=Ae2 (P:=Tryz.prog) (T:=69) (c:=0) (id:=id) (off:=0) (len:=len) (k:=1) (ag:=false) (cap:=cap) (lo:=none) (hi:=some (int h)) (l:=none) (h:=some h) Tryz.underlying69 Adh Aa1 (Abd (n:=h)) (by simp) (by simpa using hh)
 simpa using this
theorem Al3 (a b d:List Int) (h:b.length ≤ d.length):splice (ints (a ++ d)) a.length (ints b) = ints (a ++ b ++ d.drop b.length):=by
 rw [splice,Ac9 a d,List.take_left' (Ac8 a),Ac9 (a ++ b),Ac9 a b,Ac8]
 congr 1
 rw [List.drop_append,List.drop_eq_nil_of_le (by simp),List.nil_append]
 simp [ints,← List.map_drop]
theorem Aiu {m:Mem} {id k n w:Nat} {cap:Option Nat} {x:AV} {s a d:List Int} (hx:srcOf m x = some (ints s)) (hg:m.get id = some (.cells (ints (a ++ d)) false w)) (hk:a.length = k) (hn:d.length = n) :
  acopy Tryz.prog 69 (.sl id k n 1 false cap) x m = some (int (min s.length n:Nat),m.set id (ints (a ++ s.take n ++ d.drop (min s.length n)))):=by
 have ht:(ints s).take (min s.length n) = ints (s.take n):=by
  rw [ints,← List.map_take,ints]
  congr 1
  rw [List.take_eq_take_iff]
  omega
 have hl:(s.take n).length = min s.length n:=by rw [List.length_take]; omega
 have hs:=Al3 a (s.take n) d (by rw [hl]; omega)
 rw [hk,hl] at hs
 unfold acopy
 simp only [telem,Tryz.underlying69,Adh,hx,Ac8,ht,Ay9,hg,Ag1,hs]
 rw [if_pos]
 ·rfl
 ·refine ⟨by omega,trivial,?_,?_⟩
  ·rw [List.length_append]; omega
  ·rw [List.all_eq_true]
   intro y hy
   obtain ⟨p,_,rfl⟩:=List.mem_map.1 hy
   simp
theorem A1e {n:Nat} {m:Mem} (hn:n ≤ 4096):amakeSlice Tryz.prog 69 (int n) (int n) m = some (.sl m.next 0 n 1 false (some n),m.new (ints (List.replicate n 0)) false):=by
 unfold amakeSlice
 simp only [telem,Tryz.underlying69,Adh,Aka,tagg3,Aqe,Int.toNat_natCast]
 rw [if_pos]
 ·rw [← Ahy]; rfl
 ·refine ⟨by omega,rfl,rfl,by omega,by omega,by omega,by omega⟩
theorem g81 (v:Int) (n:Nat) (hn:n ≤ 4096) (m:Mem):wph Tryz.prog cc (.func 86) [.lst [int v],int n] m fun r m' => r = .sl m.next 0 n 1 false (some n) ∧ Kp m m' ∧ m.next < m'.next ∧ ∃ w,m'.get m.next = some (.cells (ints (List.replicate n v)) false w):=by
 refine Aah Tryz.func86 rfl rfl (by simp [Tryz.f86]) (by simp [Tryz.f86]) fun Q hQ => ?_
 simp only [Tryz.f86,show cc.keepRes 86 = true from rfl,show cc.keepArgs 86 = false from rfl] at hQ ⊢
 have ln1:∀ (R:TypeId) (m:Mem),abuiltin Tryz.prog .len #[69] R [.lst [int v]] m = some (int 1,m):=fun R m => by rw [Abj Tryz.underlying69]; rfl
 have w1:IntKind.u64.wrap 1 = 1:=IntWalk.u64_in _ (by omega)
 have w2:IntKind.u64.wrap (n:Int) = n:=IntWalk.u64_in _ (by omega)
 have w3:IntKind.i64.wrap (n:Int) = n:=IntWalk.i64_in _ (by omega)
 have q:=g100 1 n (by omega) (by omega)
 rw [Nat.one_mul,Nat.div_eq_of_lt (by omega),Nat.mod_eq_of_lt (by omega)] at q
 have q':Gives Tryz.prog cc 103 [.sc (.int .u64 1),.sc (.int .u64 n)] (.tup [.sc (.int .u64 0),.sc (.int .u64 n)]):=q
 have h1:¬ (n:Int) < 0:=by omega
 have h2:¬ (9223372036854775807:Int) < n:=by omega
 simp [h1,ln1,w1,w2,q'.go,h2,w3,A1e hn,undefV,undef]
 have c0:=Aiu (m:=m.new (ints (List.replicate n 0)) false) (id:=m.next) (k:=0) (n:=n) (w:=m.clock + 1) (cap:=some n) (x:=.lst [int v]) (s:=[v]) (a:=[]) (d:=List.replicate n 0) rfl (by simp) rfl (by simp)
 simp only [List.nil_append,List.length_singleton] at c0
 rw [Asb,c0]
 simp
 refine Anz (fun d s' m' => ∃ k:Nat,d = n - k ∧ (n = 0 ∨ 1 ≤ k) ∧ k ≤ n ∧ s'.at 8 = int k ∧ Kp m m' ∧ m.next < m'.next ∧ ∃ w,m'.get m.next = some (.cells (ints (List.replicate k v ++ List.replicate (n - k) 0)) false w)) (n - min 1 n) ⟨min 1 n,rfl,by omega,by omega,by simp,by simp,by simp,m.clock + 2,?_⟩ ?_
 ·cases n with
  | zero => simp
  | succ n => simp [Nat.min_eq_left (show 1 ≤ n + 1 by omega)]
 rintro d s' m' ⟨k,rfl,hk0,hk,e8,hkp,hlt,w,hg⟩ hsame Q' hn' he
 have e7:s'.at 7 = .sl m.next 0 n 1 false (some n):=(hsame 7 (by kernel_rfl)).trans (by simp)
 clear hsame
 have ln:∀ (R:TypeId) (m':Mem),abuiltin Tryz.prog .len #[69] R [.sl m.next 0 n 1 false (some n)] m' = some (int n,m'):=fun R m' => by rw [Adp Tryz.underlying69]
 simp [e7,e8,ln]
 refine Aal (fun h => ?_) fun h => ?_
 ·have hlt2:k < n:=by have:=of_decide_eq_true h; omega
  have s1:=A1f (id:=m.next) (off:=0) (len:=n) (cap:=some n) (l:=k) hk
  have s2:=A1g (id:=m.next) (len:=n) (cap:=some n) (h:=k) hk
  have el:srcOf m' (.sl m.next 0 k 1 false ((some n).map (· - 0))) = some (ints (List.replicate k v)):=by
   simp only [srcOf,elemsOf,hg]
   rw [if_pos ⟨by simp,rfl⟩,List.drop_zero,Ac9]
   have hc:=Aip (List.replicate k v) (ints (List.replicate (n - k) 0))
   rw [List.length_replicate] at hc
   rw [hc]
  have c1:=Aiu (k:=k) (n:=n - k) (cap:=(some n).map (· - k)) el hg (by simp) (by simp)
  simp only [List.length_replicate] at c1
  have wk:IntKind.i64.wrap ((k:Int) + ((min k (n - k):Nat):Int)) = ((k + min k (n - k):Nat):Int):=by rw [IntWalk.i64_in _ (by omega)]; omega
  rw [Nat.zero_add] at s1
  simp
  refine Aat (by kernel_rfl) (by kernel_rfl) ?_
  simp only [Option.map_some,Nat.sub_zero] at s1 s2 c1
  simp [e7,e8,s1,s2,Asb,c1,wk]
  have hr:List.replicate k v ++ List.take (n - k) (List.replicate k v) ++ List.drop (min k (n - k)) (List.replicate (n - k) (0:Int)) = List.replicate (k + min k (n - k)) v ++ List.replicate (n - (k + min k (n - k))) 0:=by
   rw [List.take_replicate,List.drop_replicate,List.replicate_append_replicate,Nat.min_comm (n - k) k]
   congr 2
   omega
  refine hn' (n - (k + min k (n - k))) _ _ (by omega) ⟨k + min k (n - k),rfl,by omega,by omega,by simp,hkp.set (Nat.le_refl _) _,by simpa using hlt,m'.clock + 1,?_⟩
  rw [← hr]
  simp
 ·have hge:k = n:=by have:=of_decide_eq_false h; omega
  subst hge
  simp
  refine he _ _ _ (by simp) ?_
  simp [e7]
  refine hQ _ _ _ ⟨.inr rfl,[.sl m.next 0 k 1 false (some k)],by simp [aresult],?_⟩
  exact ⟨rfl,hkp,hlt,w,by simpa using hg⟩
theorem g82 {m:Mem} {B1 B5 R N:Nat} {L:List InsM} {l:List Int} {p v:Int} (hB1:has m B1 [.lst (inss L)]) (hB5:has m B5 [.sl R 0 N 1 false (some N)]) (hR:has m R (ints l)) (hN:l.length = N) (hL:L.length = N) (hp:0 ≤ p) :
  wph Tryz.prog cc (.func 87) [int p,int v,.ptr B1 0,.ptr B5 0] m fun r m' => match reachM l p v with
   | none => r = .sc (.bool false) ∧ Kp m m'
   | some l' => r = .sc (.bool true) ∧ KpX (fun j => j = R) m m' ∧ has m' R (ints l'):=by
 obtain ⟨_,w1,g1⟩:=hB1
 obtain ⟨_,w5,g5⟩:=hB5
 obtain ⟨hRl,wR,gR⟩:=hR
 obtain ⟨i,rfl⟩:∃ i:Nat,p = i:=⟨p.toNat,by omega⟩
 have ln:∀ (R:TypeId) (m:Mem),abuiltin Tryz.prog .len #[76] R [.lst (inss L)] m = some (int N,m):=fun R m => by rw [len55,hL]
 refine Aah Tryz.func87 rfl rfl (by simp [Tryz.f87]) (by simp [Tryz.f87]) fun Q hQ => ?_
 simp only [Tryz.f87,show cc.keepRes 87 = false from rfl,show cc.keepArgs 87 = false from rfl] at hQ ⊢
 by_cases hi:i < N
 rotate_left
 ·have hr:reachM l i v = none:=by rw [reachM,if_pos (.inl (by omega))]
  rw [hr] at hQ
  have hge:(N:Int) ≤ i:=by omega
  simp [g1,ln,hge,show N ≤ i by omega,undefV,undef]
  refine hQ _ _ _ ?_
  rw [Aa6]
  exact ⟨by simp,by simp⟩
 have hlt:¬ (N:Int) ≤ i:=by omega
 obtain ⟨y,hy⟩:∃ y,l[i]? = some y:=⟨_,List.getElem?_eq_getElem (by omega)⟩
 have hix:=Aax (P:=Tryz.prog) (q:=.i64) (ag:=false) (c:=some N) (id:=R) (off:=0) (len:=N) (i:=i) Tryz.underlying69 Adh hi
 have hcell:(ints l)[i]? = some (int y):=by rw [Anx,hy]; rfl
 have hs:=Anv l i v (by omega)
 have hd:l.getD (i:Int).toNat 0 = y:=by simp [List.getD_eq_getElem?_getD,hy]
 simp at hix
 by_cases h0:0 ≤ y
 ·by_cases hv:y = v
  ·subst hv
   have hr:reachM l i y = some (l.set i y):=by rw [reachM,if_neg (by omega),hd,if_neg (by simp)]; simp
   rw [hr] at hQ
   simp [g1,g5,gR,ln,hlt,show ¬ N ≤ i by omega,hix,hcell,h0,show i + 1 ≤ l.length by omega]
   simp [splice] at hs
   refine hQ _ _ _ ?_
   rw [Aa6]
   refine ⟨by simp,?_⟩
   simp [hs]
   exact ⟨(KpX.refl (fun j => j = R) m).set rfl _,by simpa using hRl,m.clock + 1,by simp⟩
  ·have hr:reachM l i v = none:=by rw [reachM,if_neg (by omega),hd,if_pos ⟨h0,hv⟩]
   rw [hr] at hQ
   simp [g1,g5,gR,ln,hlt,show ¬ N ≤ i by omega,hix,hcell,h0,hv]
   refine hQ _ _ _ ?_
   rw [Aa6]
   exact ⟨by simp,by simp⟩
 ·have hr:reachM l i v = some (l.set i v):=by rw [reachM,if_neg (by omega),hd,if_neg (fun q => h0 q.1)]; simp
  rw [hr] at hQ
  simp [g1,g5,gR,ln,hlt,show ¬ N ≤ i by omega,hix,hcell,h0,undefV,undef,show i + 1 ≤ l.length by omega]
  simp [splice] at hs
  refine hQ _ _ _ ?_
  rw [Aa6]
  refine ⟨by simp,?_⟩
  simp [hs]
  exact ⟨(KpX.refl (fun j => j = R) m).set rfl _,by simpa using hRl,m.clock + 1,by simp⟩
def flowR (L:List InsM):AV:=match flowM L with
 | none => .tup [.lst [],int 0,.sc (.bool false)]
 | some s => .tup [.lst (ints s.1),int s.2,.sc (.bool true)]
theorem Ag5:∀ (l r:List InsM) (i:Nat) (s:List Int × Int),flowL i (l ++ r) s = (flowL i l s).bind fun s' => flowL (i + l.length) r s'
 | [],r,i,s => by simp [flowL]
 | x :: l,r,i,s => by
  rw [List.cons_append,flowL,flowL]
  cases flow1 i x s with
  | none => rfl
  | some s' =>
   simp only
   rw [Ag5 l r (i + 1) s',List.length_cons,Nat.add_assoc,Nat.add_comm 1]
theorem Art {i:Nat} {x:InsM} {s s':List Int × Int} (h:flow1 i x s = some s'):s'.1.length = s.1.length:=by
 unfold flow1 at h
 split at h
 ·cases h
 split at h
 ·cases h; rfl
 split at h
 ·cases h
 rename_i l hl
 split at h
 ·cases h
 rename_i l2 hl2
 cases h
 have a1:l.length = s.1.length:=by
  split at hl
  ·exact (Aff hl).1
  ·cases hl; rfl
 have a2:l2.length = l.length:=by
  split at hl2
  ·cases hl2; rfl
  ·exact (Aff hl2).1
 simp only
 omega
theorem Ak9:∀ (l:List InsM) (i:Nat) (s s':List Int × Int),flowL i l s = some s' → s'.1.length = s.1.length
 | [],i,s,s',h => by cases h; rfl
 | x :: l,i,s,s',h => by
  rw [flowL] at h
  split at h
  ·cases h
  rename_i s1 h1
  rw [Ak9 l (i + 1) s1 s' h,Art h1]
structure InOk (x:InsM):Prop where
 op:1 ≤ x.1 ∧ x.1 ≤ 16
 a:-2 ^ 63 ≤ x.2.1 ∧ x.2.1 < 2 ^ 63
 b:-2 ^ 63 ≤ x.2.2 ∧ x.2.2 < 2 ^ 63
 plus:(opM x.1).plusA = true → 0 ≤ x.2.1 ∧ x.2.1 ≤ 32
 place:(opM x.1).a = 5 → 0 ≤ x.2.1
theorem Ath (a b:Int):IntKind.i64.wrap (a + IntKind.i64.wrap b) = IntKind.i64.wrap (a + b):=by
 simp [IntKind.wrap,IntKind.signed,IntKind.bits]
 repeat' split
 all_goals omega
theorem g83i (x:InsM) (h:InOk x):Gives Tryz.prog cc 88 [opA x.1,insA x] (int (needM x)):=by
 have hs:=Akm x.1
 have hpl:=h.plus
 have ha:=h.a
 have hb:=h.b
 have hB:(opM x.1).plusB = true → (opM x.1).needs = 0 ∧ (opM x.1).plusA = false:=by
  have ho:=h.op
  have hc:x.1 = 1 ∨ x.1 = 2 ∨ x.1 = 3 ∨ x.1 = 4 ∨ x.1 = 5 ∨ x.1 = 6 ∨ x.1 = 7 ∨ x.1 = 8 ∨ x.1 = 9 ∨ x.1 = 10 ∨ x.1 = 11 ∨ x.1 = 12 ∨ x.1 = 13 ∨ x.1 = 14 ∨ x.1 = 15 ∨ x.1 = 16:=by omega
  rcases hc with q | q | q | q | q | q | q | q | q | q | q | q | q | q | q | q <;> simp [opM,q]
 have hw1:(opM x.1).plusA = true → IntKind.i64.wrap ((opM x.1).needs + x.2.1) = (opM x.1).needs + x.2.1:=fun q => by have:=hpl q; exact IntWalk.i64_in _ (by omega)
 have hw2:(opM x.1).plusB = true → IntKind.i64.wrap ((opM x.1).needs + x.2.2) = (opM x.1).needs + x.2.2:=fun q => by have:=hB q; exact IntWalk.i64_in _ (by omega)
 cases eA:(opM x.1).plusA with
 | true =>
  have eB:(opM x.1).plusB = false:=by
   cases q:(opM x.1).plusB with
   | false => rfl
   | true => have:=(hB q).2; rw [eA] at this; cases this
  have hn:needM x = (opM x.1).needs + x.2.1:=by simp [needM,eA,eB]
  rw [hn]
  refine Aae Tryz.func88 rfl rfl rfl rfl (by simp) (by simp [Tryz.f88]) (by simp [Tryz.f88]) fun m => ?_
  simp [Tryz.f88,show cc.keepRes 88 = false from rfl,eA,eB,hw1 eA]
 | false =>
  cases eB:(opM x.1).plusB with
  | true =>
   have hn:needM x = (opM x.1).needs + x.2.2:=by simp [needM,eA,eB]
   rw [hn]
   refine Aae Tryz.func88 rfl rfl rfl rfl (by simp) (by simp [Tryz.f88]) (by simp [Tryz.f88]) fun m => ?_
   simp [Tryz.f88,show cc.keepRes 88 = false from rfl,eA,eB,hw2 eB]
  | false =>
   have hn:needM x = (opM x.1).needs:=by simp [needM,eA,eB]
   rw [hn]
   refine Aae Tryz.func88 rfl rfl rfl rfl (by simp) (by simp [Tryz.f88]) (by simp [Tryz.f88]) fun m => ?_
   simp [Tryz.f88,show cc.keepRes 88 = false from rfl,eA,eB]
end Go.Proofs.YtkoekdfimpcofaaGreat
namespace Go.Proofs.YtkoekdfimpcofaaGreat
set_option maxRecDepth 4000
set_option maxRecDepth 20000
open Go.V
attribute [local simp] Nat.add_assoc
theorem Avi {L:List InsM} {i:Nat} {x:InsM} {s0 st:List Int × Int} (h:flowL 0 (L.take i) s0 = some st) (hx:L[i]? = some x):(flow1 i x st = none → flowL 0 L s0 = none) ∧ ∀ st',flow1 i x st = some st' → flowL 0 (L.take (i + 1)) s0 = some st':=by
 obtain ⟨hi,hxe⟩:=List.getElem?_eq_some_iff.1 hx
 have e1:L = L.take i ++ x :: L.drop (i + 1):=by rw [← hxe,List.getElem_cons_drop,List.take_append_drop]
 have hl:(L.take i).length = i:=by simp; omega
 refine ⟨fun hn => ?_,fun st' hs => ?_⟩
 ·rw [e1,Ag5,h]
  simp [hl,flowL,hn]
 ·rw [List.take_succ_eq_append_getElem hi,hxe,Ag5,h]
  simp [hl,flowL,hs]
theorem c57 (L:List InsM) (h1:1 ≤ L.length) (h2:L.length ≤ 4096) (hok:∀ x ∈ L,InOk x):Gives Tryz.prog cc 64 [.lst (inss L)] (flowR L):=by
 have hbel:∀ n,(flowR L).bel n = true:=by
  intro n
  unfold flowR
  split <;> simp [AV.bel,AV.bels,Aur]
 refine Aae Tryz.func64 rfl rfl rfl rfl hbel (by simp [Tryz.f64]) (by simp [Tryz.f64]) fun m => ?_
 simp only [Tryz.f64,show cc.keepRes 64 = false from rfl]
 obtain ⟨N,hN⟩:∃ N,N = L.length:=⟨_,rfl⟩
 have ln:∀ (R:TypeId) (m:Mem),abuiltin Tryz.prog .len #[76] R [.lst (inss L)] m = some (int N,m):=fun R m => by rw [len55,hN]
 obtain ⟨M1,hM1⟩:∃ M1,M1 = m.new [.lst (inss L)] false:=⟨_,rfl⟩
 have n1:M1.next = m.next + 1:=by rw [hM1]; simp
 have gB1:M1.get m.next = some (.cells [.lst (inss L)] false (m.clock + 1)):=by rw [hM1]; simp
 have b1:has M1 m.next [.lst (inss L)]:=⟨by omega,m.clock + 1,gB1⟩
 have k1:Kp m M1:=by rw [hM1]; simp
 obtain ⟨M2,hM2⟩:∃ M2,M2 = M1.new [int (-1)] false:=⟨_,rfl⟩
 have g2:M2.get M1.next = some (.cells (flat (ints [-1])) false (M1.clock + 1)):=by rw [hM2,Ag1]; simp [ints]
 have ez:=Adl (k:=1) (ag:=false) (cap:=some 1) (ys:=ints [-1]) rfl g2 (Anw [-1]) (Aq6 [-1])
 obtain ⟨M3,hM3⟩:∃ M3,M3 = M2.mark M1.next (flat (ints [-1])) (M1.clock + 1):=⟨_,rfl⟩
 rw [← hM3] at ez
 have k3:Kp M1 M3:=by
  have:Kp M1 M2:=by rw [hM2]; simp
  rw [hM3]
  exact this.mark (Nat.le_refl _) _ _
 have ez':fz1 M2 (.sl M1.next 0 1 1 false (some 1)) = (.lst [int (-1)],M3):=ez
 have hz0:fzvs M2 [.sl M1.next 0 1 1 false (some 1),int N] = ([.lst [int (-1)],int N],M3):=by
  have fi:∀ (M:Mem) (n:Int),fz1 M (int n) = (int n,M):=fun _ _ => rfl
  simp [fzvs,fzv,ez',fi]
 have hz1:fzvs M3 [.lst [int (-1)],int N] = ([.lst [int (-1)],int N],M3):=by simp [fzvs,fzv,fz1]
 simp
 rw [← hM1]
 clear hM1
 have nB1:m.next ≠ M1.next:=by omega
 simp [gB1,nB1,abuildSlice,zeros,fillAt,ln]
 rw [← hM2]
 refine Aad (Ahz Tryz.func86 rfl rfl rfl hz0 hz1 (g81 (-1) N (by omega) M3)) ?_
 rintro _ m4 ⟨rfl,k4,hlt,wR,gR⟩
 obtain ⟨R,hRe⟩:∃ R,R = M3.next:=⟨_,rfl⟩
 rw [← hRe] at hlt gR ⊢
 obtain ⟨M5,hM5⟩:∃ M5,M5 = (m4.new [.emp 0] false).set m4.next [.sl R 0 N 1 false (some N)]:=⟨_,rfl⟩
 obtain ⟨B5,hB5⟩:∃ B5,B5 = m4.next:=⟨_,rfl⟩
 have k5:Kp m4 M5:=by rw [hM5]; simp
 have n3:=k3.next
 have n5:M5.next = m4.next + 1:=by rw [hM5]; simp
 have g5B1:M5.get m.next = some (.cells [.lst (inss L)] false (m.clock + 1)):=by rw [k5.get m.next (by omega),k4.get m.next (by omega),k3.get m.next (by omega)]; exact gB1
 have g5R:M5.get R = some (.cells (ints (List.replicate N (-1))) false wR):=by rw [k5.get R hlt]; exact gR
 have g5B5:M5.get B5 = some (.cells [.sl R 0 N 1 false (some N)] false (m4.clock + 2)):=by rw [hM5,hB5]; simp
 have hix0:aindexAddr Tryz.prog 69 (.sl R 0 N 1 false (some N)) (int 0) = some (.ptr R 0):=by
  have:=Aax (P:=Tryz.prog) (q:=.i64) (ag:=false) (c:=some N) (id:=R) (off:=0) (len:=N) (i:=0) Tryz.underlying69 Adh (by omega)
  simpa using this
 have hs0:=Anv (List.replicate N (-1)) 0 0 (by simp; omega)
 simp [splice] at hs0
 have hinit:(List.replicate N (-1:Int)).set 0 0 = 0 :: List.replicate (N - 1) (-1):=by
  cases N with
  | zero => omega
  | succ n => simp [List.replicate_succ]
 simp
 rw [← hM5,← hB5]
 rw [hinit] at hs0
 obtain ⟨M6,hM6⟩:∃ M6,M6 = M5.set R (ints (0 :: List.replicate (N - 1) (-1))):=⟨_,rfl⟩
 have nR1:m.next ≠ R:=by have:=k3.next; omega
 have nR5:B5 ≠ R:=by omega
 have n6:M6.next = M5.next:=by rw [hM6]; simp
 have g6R:M6.get R = some (.cells (ints (0 :: List.replicate (N - 1) (-1))) false (M5.clock + 1)):=by rw [hM6]; simp
 have g6B1:M6.get m.next = some (.cells [.lst (inss L)] false (m.clock + 1)):=by rw [hM6]; simp [nR1,g5B1]
 have g6B5:M6.get B5 = some (.cells [.sl R 0 N 1 false (some N)] false (m4.clock + 2)):=by rw [hM6]; simp [nR5,g5B5]
 have k06:Kp m M6:=by
  have:Kp m M5:=((k1.trans k3).trans k4).trans k5
  rw [hM6]
  exact this.set (by have:=k3.next; omega) _
 simp [g5B5,g5R,g5B1,hix0,ln,show 1 ≤ N by omega,hs0,nR1]
 rw [← hM6]
 refine Aas 23 N (fun i s' m' => ∃ st:List Int × Int,flowL 0 (L.take i) (0 :: List.replicate (N - 1) (-1),0) = some st ∧ s'.at 6 = int st.2 ∧ has m' R (ints st.1) ∧ KpX (fun j => j = R) M6 m') (by simp) (by omega) ⟨(0 :: List.replicate (N - 1) (-1),0),by simp [flowL],by simp,⟨by omega,_,g6R⟩,.refl _ _⟩ ?_
 rintro i s' m' hi e23 ⟨st,hst,e6,hR,hk⟩ hsame hw Q' hn he
 have e5:s'.at 5 = .ptr B5 0:=(hsame 5 (by kernel_rfl)).trans (by simp)
 have e7:s'.at 7 = .fn (.func 87) [] [.ptr m.next 0,.ptr B5 0]:=(hsame 7 (by kernel_rfl)).trans (by simp)
 have e21:s'.at 21 = .lst (inss L):=(hsame 21 (by kernel_rfl)).trans (by simp)
 have e22:s'.at 22 = int N:=(hsame 22 (by kernel_rfl)).trans (by simp)
 clear hsame
 have hlen:st.1.length = N:=by rw [Ak9 _ _ _ _ hst]; simp; omega
 have hB1':has m' m.next [.lst (inss L)]:=has.kept (⟨by omega,_,g6B1⟩:has M6 m.next [.lst (inss L)]) hk nR1
 have hB5':has m' B5 [.sl R 0 N 1 false (some N)]:=has.kept (⟨by omega,_,g6B5⟩:has M6 B5 [.sl R 0 N 1 false (some N)]) hk nR5
 have hkn:=hk.next
 have bad:∀ (M9:Mem),flowL 0 L (0 :: List.replicate (N - 1) (-1),0) = none → KpX (fun j => j = R) M6 M9 → AV.tup [.lst [],int 0,.sc (.bool false)] = flowR L ∧ Kp m M9:=by
  intro M9 h1 h2
  have hr:flowR L = .tup [.lst [],int 0,.sc (.bool false)]:=by rw [flowR,flowM,← hN,h1]
  rw [hr]
  exact ⟨rfl,Afy (.of h2) k06 fun j e => by have e:j = R:=e; omega⟩
 by_cases hlt:i < N
 rotate_left
 ·have hge:i = N:=by omega
  subst hge
  simp [e23,e22]
  refine he _ _ _ (by simp) ?_
  obtain ⟨_,wB5,gB5'⟩:=id hB5'
  obtain ⟨_,wR',gR'⟩:=id hR
  simp [e5,gB5',e6]
  have fz:=Adl (m:=m') (id:=R) (k:=1) (ag:=false) (cap:=some i) (ys:=ints st.1) (v:=wR') (f:=false) rfl (by rw [Ag1]; exact gR') (Anw _) (Aq6 _)
  rw [Ac8,hlen] at fz
  rw [fz]
  have htk:L.take i = L:=List.take_of_length_le (by omega)
  rw [htk] at hst
  have hr:flowR L = .tup [.lst (ints st.1),int st.2,.sc (.bool true)]:=by rw [flowR,flowM,← hN,hst]
  rw [hr]
  exact ⟨rfl,(Afy (.of hk) k06 fun j e => by have e:j = R:=e; omega).mark (by omega) _ _⟩
 obtain ⟨x,hx⟩:∃ x,L[i]? = some x:=⟨_,List.getElem?_eq_getElem (by omega)⟩
 obtain ⟨f1,f2⟩:=Avi hst hx
 have ok:=hok x (List.mem_of_getElem? hx)
 have hop:=ok.op
 have hxi:=Amj hx
 have h80:∀ M,EH Tryz.prog cc (.func 85) [int x.1] M (.tup [opA x.1,.sc (.bool true)]) M:=fun M => by
  have:=g80 x.1 M
  rwa [opR,if_neg (by omega)] at this
 have h83:=g83i x ok
 obtain ⟨y,hy⟩:∃ y,st.1[i]? = some y:=⟨_,List.getElem?_eq_getElem (by omega)⟩
 have hyd:st.1.getD i (-1) = y:=by simp [List.getD_eq_getElem?_getD,hy]
 have hcell:(ints st.1)[i]? = some (int y):=by rw [Anx,hy]; rfl
 have hix:=Aax (P:=Tryz.prog) (q:=.i64) (ag:=false) (c:=some N) (id:=R) (off:=0) (len:=N) (i:=i) Tryz.underlying69 Adh hlt
 simp at hix
 obtain ⟨hRl,wR',gR'⟩:=id hR
 obtain ⟨hB1l,wB1,gB1'⟩:=id hB1'
 obtain ⟨hB5l,wB5,gB5'⟩:=id hB5'
 obtain ⟨M7,hM7⟩:∃ M7,M7 = (m'.new [int 0,int 0,int 0] false).set m'.next [int x.1,int x.2.1,int x.2.2]:=⟨_,rfl⟩
 have k7:Kp m' M7:=by rw [hM7]; simp
 have g7:M7.get m'.next = some (.cells [int x.1,int x.2.1,int x.2.2] false (m'.clock + 2)):=by rw [hM7]; simp
 have n7:M7.next = m'.next + 1:=by rw [hM7]; simp
 simp [e23,e22,hlt,e21,hxi]
 rw [← hM7]
 obtain ⟨M8,hM8⟩:∃ M8,M8 = (M7.new [strS [],int 0,int 0,int 0,.sc (.bool false),.sc (.bool false),.sc (.bool false)] false).set M7.next [strS (opN x.1),int (opM x.1).a,int (opM x.1).needs,int (opM x.1).leaves,.sc (.bool (opM x.1).plusA),.sc (.bool (opM x.1).plusB),.sc (.bool (opM x.1).ends)]:=⟨_,rfl⟩
 have k8:Kp M7 M8:=by rw [hM8]; simp
 have g8:M8.get M7.next = some (.cells [strS (opN x.1),int (opM x.1).a,int (opM x.1).needs,int (opM x.1).leaves,.sc (.bool (opM x.1).plusA),.sc (.bool (opM x.1).plusB),.sc (.bool (opM x.1).ends)] false (M7.clock + 2)):=by rw [hM8]; simp
 have n8:M8.next = m'.next + 2:=by rw [hM8]; simp [n7]
 have g8x:=(k8.get m'.next (by omega)).trans g7
 have g8R:=(k8.get R (by omega)).trans ((k7.get R hRl).trans gR')
 have g8B1:=(k8.get m.next (by omega)).trans ((k7.get m.next hB1l).trans gB1')
 have g8B5:=(k8.get B5 (by omega)).trans ((k7.get B5 hB5l).trans gB5')
 have oag:AV.agg [strS (opN x.1),int (opM x.1).a,int (opM x.1).needs,int (opM x.1).leaves,.sc (.bool (opM x.1).plusA),.sc (.bool (opM x.1).plusB),.sc (.bool (opM x.1).ends)] = opA x.1:=Eq.trans rfl rfl
 have c8:KpX (fun j => j = R) M6 M8:=(hk.trans (.of k7)).trans (.of k8)
 simp [g7,(h80 _).go]
 rw [← hM8]
 simp [e5,g8B5,g8R,hix,hcell,g8,g8x,Any,oag,h83.go,e6,amax2]
 have nxt:∀ (s9:Sl) (M9:Mem) (st':List Int × Int),flow1 i x st = some st' → KpX (fun j => j = R) M6 M9 → has M9 R (ints st'.1) → s9.at 23 = int ((i:Int) + 1) → s9.at 6 = int st'.2 → Q' .normal s9 M9:=fun s9 M9 st' h1 h2 h3 h4 h5 => hn s9 M9 hlt h4 ⟨st',f2 st' h1,h5,h3,h2⟩
 have hR8:has M8 R (ints st.1):=⟨by omega,_,g8R⟩
 have hwn:IntKind.i64.wrap (y + IntKind.i64.wrap ((opM x.1).leaves - needM x)) = nextM y x:=by
  rw [Ath,nextM]
  congr 1
  omega
 by_cases hA:y < needM x
 ·have hf:flow1 i x st = none:=by rw [flow1,hyd,if_pos (.inl hA)]
  simp [hA]
  refine he _ _ _ (by simp) ?_
  simp
  exact bad _ (f1 hf) c8
 cases hE:(opM x.1).ends with
 | true =>
  by_cases hB:needM x < y
  ·have hf:flow1 i x st = none:=by rw [flow1,hyd,if_pos (.inr ⟨hE,hB⟩)]
   simp [hA,g8,hE,hB]
   refine he _ _ _ (by simp) ?_
   simp
   exact bad _ (f1 hf) c8
  ·have hf:flow1 i x st = some (st.1,max st.2 y):=by rw [flow1,hyd,if_neg (by rintro (q | q); exact hA q; exact hB q.2),if_pos hE]
   simp [hA,g8,hE,hB,e23,hw]
   exact nxt _ _ _ hf c8 hR8 (by simp) (by simp)
 | false =>
  simp [hA,g8,hE,undefV,undef,hwn,amax2]
  have hflow:∀ l1,(if (opM x.1).a = 5 then reachM st.1 x.2.1 (nextM y x) else some st.1) = some l1 → (x.1 = 10 → flow1 i x st = some (l1,max st.2 (max y (nextM y x)))) ∧ (x.1 ≠ 10 → flow1 i x st = match reachM l1 (i + 1) (nextM y x) with | none => none | some l2 => some (l2,max st.2 (max y (nextM y x)))):=by
   intro l1 h
   have e0:max (max st.2 y) (nextM y x) = max st.2 (max y (nextM y x)):=by omega
   refine ⟨fun q => ?_,fun q => ?_⟩
   ·rw [flow1,hyd,if_neg (by rintro (a | a); exact hA a; rw [hE] at a; cases a.1),if_neg (by rw [hE]; simp),h]
    simp [q,e0]
   ·rw [flow1,hyd,if_neg (by rintro (a | a); exact hA a; rw [hE] at a; cases a.1),if_neg (by rw [hE]; simp),h]
    simp [q,e0]
    cases reachM l1 (i + 1) (nextM y x) <;> rfl
  have hflow0:(if (opM x.1).a = 5 then reachM st.1 x.2.1 (nextM y x) else some st.1) = none → flow1 i x st = none:=by
   intro h
   rw [flow1,hyd,if_neg (by rintro (a | a); exact hA a; rw [hE] at a; cases a.1),if_neg (by rw [hE]; simp),h]
  have hB1_8:has M8 m.next [.lst (inss L)]:=⟨by omega,_,g8B1⟩
  have hB5_8:has M8 B5 [.sl R 0 N 1 false (some N)]:=⟨by omega,_,g8B5⟩
  by_cases h5:(opM x.1).a = 5
  ·rw [if_pos h5] at hflow hflow0
   simp [h5,e7,g8x]
   refine Aad (g82 (p:=x.2.1) (v:=nextM y x) hB1_8 hB5_8 hR8 hlen hN.symm (ok.place h5)) ?_
   intro r m9 h9
   cases hq:reachM st.1 x.2.1 (nextM y x) with
   | none =>
    rw [hq] at h9
    obtain ⟨rfl,k9⟩:=h9
    simp [undefV,undef]
    refine he _ _ _ (by simp) ?_
    simp
    exact bad _ (f1 (hflow0 hq)) (c8.trans (.of k9))
   | some l1 =>
    rw [hq] at h9
    obtain ⟨rfl,k9,hR9⟩:=h9
    have c9:=c8.trans k9
    have n9:=k9.next
    have nx:m'.next ≠ R:=by omega
    have g9x:=(k9.get m'.next (by omega) nx).trans g8x
    by_cases h10:x.1 = 10
    ·simp [g9x,h10,undefV,undef,e23,hw]
     exact nxt _ _ _ ((hflow l1 hq).1 h10) c9 hR9 (by simp) (by simp)
    ·simp [g9x,h10,e7,hw]
     refine Aad (g82 (p:=(i:Int) + 1) (v:=nextM y x) (hB1_8.kept k9 nR1) (hB5_8.kept k9 nR5) hR9 (by rw [(Aff hq).1,hlen]) hN.symm (by omega)) ?_
     intro r m10 h10'
     cases hq2:reachM l1 ((i:Int) + 1) (nextM y x) with
     | none =>
      rw [hq2] at h10'
      obtain ⟨rfl,k10⟩:=h10'
      have hf:=(hflow l1 hq).2 h10
      rw [hq2] at hf
      simp
      refine he _ _ _ (by simp) ?_
      simp
      exact bad _ (f1 hf) (c9.trans (.of k10))
     | some l2 =>
      rw [hq2] at h10'
      obtain ⟨rfl,k10,hR10⟩:=h10'
      have hf:=(hflow l1 hq).2 h10
      rw [hq2] at hf
      simp [e23,hw]
      exact nxt _ _ _ hf (c9.trans k10) hR10 (by simp) (by simp)
  ·rw [if_neg h5] at hflow hflow0
   have h10:x.1 ≠ 10:=fun q => h5 (by rw [q]; rfl)
   simp [h5,g8x,h10,e7,hw,undefV,undef]
   refine Aad (g82 (p:=(i:Int) + 1) (v:=nextM y x) hB1_8 hB5_8 hR8 hlen hN.symm (by omega)) ?_
   intro r m10 h10'
   cases hq2:reachM st.1 ((i:Int) + 1) (nextM y x) with
   | none =>
    rw [hq2] at h10'
    obtain ⟨rfl,k10⟩:=h10'
    have hf:=(hflow st.1 rfl).2 h10
    rw [hq2] at hf
    simp
    refine he _ _ _ (by simp) ?_
    simp
    exact bad _ (f1 hf) (c8.trans (.of k10))
   | some l2 =>
    rw [hq2] at h10'
    obtain ⟨rfl,k10,hR10⟩:=h10'
    have hf:=(hflow st.1 rfl).2 h10
    rw [hq2] at hf
    simp [e23,hw]
    exact nxt _ _ _ hf (c8.trans k10) hR10 (by simp) (by simp)
theorem c56 (p:PrM) (c:CoM) (i:Nat) (x:InsM) (hx:c.ins[i]? = some x) (hlen:c.ins.length ≤ 4096):Gives Tryz.prog cc 63 [prgA p,codA c,int i] (.sc (.bool (operM p c i x))):=by
 have hxi:=Amj hx
 have hw:IntKind.i64.wrap ((i:Int) + 1) = (i:Int) + 1:=by
  have:=(List.getElem?_eq_some_iff.1 hx).1
  exact IntWalk.i64_in _ (by omega)
 have h80:=g80 x.1
 by_cases hr:x.1 < 1 ∨ 17 ≤ x.1
 ·rw [opR,if_pos hr] at h80
  have ho:operM p c i x = false:=by rw [operM,if_pos hr]
  rw [ho]
  refine Aae Tryz.func63 rfl rfl rfl rfl (by simp) (by simp [Tryz.f63]) (by simp [Tryz.f63]) fun m => ?_
  simp [Tryz.f63,show cc.keepRes 63 = false from rfl,hxi,(h80 _).go,opZ]
 ·rw [opR,if_neg hr] at h80
  have hs:=Akm x.1
  obtain ⟨lo,hi,hb⟩:∃ lo hi,bndM p c i (opM x.1).a = (lo,hi):=⟨_,_,rfl⟩
  obtain ⟨k,hk⟩:∃ k,k = (opM x.1).a.toNat * 2:=⟨_,rfl⟩
  have hcase:(opM x.1).a = 0 ∨ (opM x.1).a = 1 ∨ (opM x.1).a = 2 ∨ (opM x.1).a = 3 ∨ (opM x.1).a = 4 ∨ (opM x.1).a = 5 ∨ (opM x.1).a = 6 ∨ (opM x.1).a = 7:=by omega
  have hia:∀ B,aindexAddr Tryz.prog 165 (.ptr B 0) (int (opM x.1).a) = some (.ptr B k):=by
   intro B
   rw [hk]
   rcases hcase with q | q | q | q | q | q | q | q <;> (rw [q]; rfl)
  have hd:([int 0,int 1,int 0,int p.consts.length,int 0,int c.params,int 0,int c.caps,int 0,int p.names.length,int ((i:Int) + 1),int c.ins.length,int 1,int p.codes.length,int 0,int 33].drop k).take 2 = [int lo,int hi]:=by
   rw [hk]
   rcases hcase with q | q | q | q | q | q | q | q <;> (rw [q] at hb ⊢; simp [bndM] at hb; obtain ⟨rfl,rfl⟩:=hb; rfl)
  have hk16:k + 2 ≤ 16:=by omega
  have h153a:∀ B,aindexAddr Tryz.prog 164 (.ptr B 0) (int 0) = some (.ptr B 0):=fun B => rfl
  have h153b:∀ B,aindexAddr Tryz.prog 164 (.ptr B 0) (int 1) = some (.ptr B 1):=fun B => rfl
  have hpb:(opM x.1).plusB = true → (opM x.1).a = 6:=by
   have hc:x.1 = 1 ∨ x.1 = 2 ∨ x.1 = 3 ∨ x.1 = 4 ∨ x.1 = 5 ∨ x.1 = 6 ∨ x.1 = 7 ∨ x.1 = 8 ∨ x.1 = 9 ∨ x.1 = 10 ∨ x.1 = 11 ∨ x.1 = 12 ∨ x.1 = 13 ∨ x.1 = 14 ∨ x.1 = 15 ∨ x.1 = 16:=by omega
   rcases hc with q | q | q | q | q | q | q | q | q | q | q | q | q | q | q | q <;> simp [opM,q]
  have hop:operM p c i x = if x.2.1 < lo ∨ hi ≤ x.2.1 then false else if (opM x.1).plusB = true then decide (x.2.2 = capsAt p.codes x.2.1) else decide (x.2.2 = 0):=by
   rw [operM,if_neg hr,hb]
  rw [hop]
  by_cases h1:x.2.1 < lo
  ·rw [if_pos (.inl h1)]
   refine Aae Tryz.func63 rfl rfl rfl rfl (by simp) (by simp [Tryz.f63]) (by simp [Tryz.f63]) fun m => ?_
   simp [Tryz.f63,show cc.keepRes 63 = false from rfl,hxi,(h80 _).go,len22,len23,len24,len55,abuild,placesOf,fillAt,hw,hia,hk16,hd,h153a,h153b,h1,undefV,undef]
  by_cases h2:hi ≤ x.2.1
  ·rw [if_pos (.inr h2)]
   refine Aae Tryz.func63 rfl rfl rfl rfl (by simp) (by simp [Tryz.f63]) (by simp [Tryz.f63]) fun m => ?_
   simp [Tryz.f63,show cc.keepRes 63 = false from rfl,hxi,(h80 _).go,len22,len23,len24,len55,abuild,placesOf,fillAt,hw,hia,hk16,hd,h153a,h153b,h1,h2,undefV,undef]
  rw [if_neg (by omega)]
  cases hB:(opM x.1).plusB with
  | false =>
   refine Aae Tryz.func63 rfl rfl rfl rfl (by simp) (by simp [Tryz.f63]) (by simp [Tryz.f63]) fun m => ?_
   simp [Tryz.f63,show cc.keepRes 63 = false from rfl,hxi,(h80 _).go,len22,len23,len24,len55,abuild,placesOf,fillAt,hw,hia,hk16,hd,h153a,h153b,h1,h2,undefV,undef,hB]
  | true =>
   rw [hpb hB] at hb
   simp [bndM] at hb
   obtain ⟨y,hy⟩:∃ y,p.codes[x.2.1.toNat]? = some y:=⟨_,List.getElem?_eq_getElem (by omega)⟩
   have hcap:capsAt p.codes x.2.1 = y.caps:=by rw [capsAt,hy]; rfl
   have hyi:=Afo hy
   rw [show ((x.2.1.toNat:Nat):Int) = x.2.1 by omega] at hyi
   rw [hcap]
   refine Aae Tryz.func63 rfl rfl rfl rfl (by simp) (by simp [Tryz.f63]) (by simp [Tryz.f63]) fun m => ?_
   simp [Tryz.f63,show cc.keepRes 63 = false from rfl,hxi,(h80 _).go,len22,len23,len24,len55,abuild,placesOf,fillAt,hw,hia,hk16,hd,h153a,h153b,h1,h2,undefV,undef,hB]
   refine Aat (by kernel_rfl) (by kernel_rfl) ?_
   simp [hyi]
def i64r (n:Int):Prop:=-2 ^ 63 ≤ n ∧ n < 2 ^ 63
structure CoFit (c:CoM):Prop where
 ins:∀ x ∈ c.ins,i64r x.2.1 ∧ i64r x.2.2
theorem Azb {p:PrM} {c:CoM} {i:Nat} {x:InsM} (h:operM p c i x = true) (h1:i64r x.2.1) (h2:i64r x.2.2):InOk x:=by
 obtain ⟨⟨o1,o2⟩,o3,o4,o5,o6⟩:=Agt h
 refine ⟨⟨o1,o2⟩,h1,h2,fun q => ?_,fun q => ?_⟩
 ·have ha:(opM x.1).a = 7:=by
   have hc:x.1 = 1 ∨ x.1 = 2 ∨ x.1 = 3 ∨ x.1 = 4 ∨ x.1 = 5 ∨ x.1 = 6 ∨ x.1 = 7 ∨ x.1 = 8 ∨ x.1 = 9 ∨ x.1 = 10 ∨ x.1 = 11 ∨ x.1 = 12 ∨ x.1 = 13 ∨ x.1 = 14 ∨ x.1 = 15 ∨ x.1 = 16:=by omega
   revert q
   rcases hc with q | q | q | q | q | q | q | q | q | q | q | q | q | q | q | q <;> simp [opM,q]
  rw [ha] at o3 o4
  simp [bndM] at o3 o4
  omega
 ·rw [q] at o3
  simp [bndM] at o3
  omega
theorem Ags {p:PrM} {c:CoM}:∀ (l:List InsM) (i:Nat),opersM p c i l = true ↔ ∀ (j:Nat) x,l[j]? = some x → operM p c (i + j) x = true
 | [],i => by simp [opersM]
 | y :: l,i => by
  rw [opersM,Bool.and_eq_true,Ags l (i + 1)]
  constructor
  ·rintro ⟨h1,h2⟩ j x hj
   cases j with
   | zero => simp at hj; subst hj; exact h1
   | succ j =>
    have:=h2 j x (by simpa using hj)
    rwa [Nat.add_assoc,Nat.add_comm 1] at this
  ·intro h
   refine ⟨h 0 y (by simp),fun j x hj => ?_⟩
   have:=h (j + 1) x (by simpa using hj)
   rwa [Nat.add_assoc,Nat.add_comm 1]
theorem c40 (p:PrM) (c:CoM) (hf:CoFit c):Gives Tryz.prog cc 42 [prgA p,codA c] (.sc (.bool (goodC p c))):=by
 have w1:=g55 c.params 32
 have w2:=g55 c.rest (min c.params 1)
 have w3:=g55 c.caps 64
 have nil_iff:c.ins = [] ↔ c.ins.length = 0:=List.length_eq_zero_iff.symm
 cases hb1:within2 c.params 32 with
 | false =>
  have hg:goodC p c = false:=by simp [goodC,hb1]
  rw [hg]
  refine Aae Tryz.func42 rfl rfl rfl rfl (by simp) (by simp [Tryz.f42]) (by simp [Tryz.f42]) fun m => ?_
  simp [Tryz.f42,show cc.keepRes 42 = false from rfl,w1.go,hb1,undefV,undef]
 | true =>
 cases hb2:within2 c.rest (min c.params 1) with
 | false =>
  have hg:goodC p c = false:=by simp [goodC,hb2]
  rw [hg]
  refine Aae Tryz.func42 rfl rfl rfl rfl (by simp) (by simp [Tryz.f42]) (by simp [Tryz.f42]) fun m => ?_
  simp [Tryz.f42,show cc.keepRes 42 = false from rfl,w1.go,hb1,amin2,w2.go,hb2,undefV,undef]
 | true =>
 cases hb3:within2 c.caps 64 with
 | false =>
  have hg:goodC p c = false:=by simp [goodC,hb3]
  rw [hg]
  refine Aae Tryz.func42 rfl rfl rfl rfl (by simp) (by simp [Tryz.f42]) (by simp [Tryz.f42]) fun m => ?_
  simp [Tryz.f42,show cc.keepRes 42 = false from rfl,w1.go,hb1,amin2,w2.go,hb2,w3.go,hb3,undefV,undef]
 | true =>
 by_cases hb4:c.ins.length = 0
 ·have hg:goodC p c = false:=by simp [goodC,nil_iff.2 hb4]
  rw [hg]
  refine Aae Tryz.func42 rfl rfl rfl rfl (by simp) (by simp [Tryz.f42]) (by simp [Tryz.f42]) fun m => ?_
  simp [Tryz.f42,show cc.keepRes 42 = false from rfl,w1.go,hb1,amin2,w2.go,hb2,w3.go,hb3,len55,hb4,undefV,undef]
 by_cases hb5:4096 < c.ins.length
 ·have hg:goodC p c = false:=by simp [goodC,show ¬ c.ins.length ≤ 4096 by omega]
  rw [hg]
  refine Aae Tryz.func42 rfl rfl rfl rfl (by simp) (by simp [Tryz.f42]) (by simp [Tryz.f42]) fun m => ?_
  simp [Tryz.f42,show cc.keepRes 42 = false from rfl,w1.go,hb1,amin2,w2.go,hb2,w3.go,hb3,len55,hb4,show (4096:Int) < c.ins.length by omega,undefV,undef]
 have hg:goodC p c = (opersM p c 0 c.ins && (match flowM c.ins with
  | none => false
  | some s => decide (s.2 = c.max) && decide (s.2 ≤ 256))):=by
  simp [goodC,hb1,hb2,hb3,nil_iff,hb4,show c.ins.length ≤ 4096 by omega]
  rfl
 rw [hg]
 refine Aae Tryz.func42 rfl rfl rfl rfl (by simp) (by simp [Tryz.f42]) (by simp [Tryz.f42]) fun m => ?_
 simp only [Tryz.f42,show cc.keepRes 42 = false from rfl]
 obtain ⟨N,hN⟩:∃ N,N = c.ins.length:=⟨_,rfl⟩
 have ln:∀ (R:TypeId) (m:Mem),abuiltin Tryz.prog .len #[76] R [.lst (inss c.ins)] m = some (int N,m):=fun R m => by rw [len55,hN]
 rw [← hN] at hb4 hb5
 simp [w1.go,hb1,amin2,w2.go,hb2,w3.go,hb3,ln,hb4,show ¬ (4096:Int) < N by omega]
 obtain ⟨M2,hM2⟩:∃ M2,M2 = (m.new [.lst (cods p.codes),.lst (encs p.consts),.lst (strs p.names)] false).new [int c.params,int c.rest,int c.caps,int c.max,.lst (inss c.ins)] false:=⟨_,rfl⟩
 have k2:Kp m M2:=by rw [hM2]; simp
 have n2:M2.next = m.next + 2:=by rw [hM2]; simp
 have b0:M2.get m.next = some (.cells [.lst (cods p.codes),.lst (encs p.consts),.lst (strs p.names)] false (m.clock + 1)):=by rw [hM2]; simp
 have b1:M2.get (m.next + 1) = some (.cells [int c.params,int c.rest,int c.caps,int c.max,.lst (inss c.ins)] false (m.clock + 2)):=by rw [hM2]; simp
 rw [← hM2]
 clear hM2
 have ecp:AV.agg [.lst (cods p.codes),.lst (encs p.consts),.lst (strs p.names)] = prgA p:=Eq.trans rfl rfl
 have ecc:AV.agg [int c.params,int c.rest,int c.caps,int c.max,.lst (inss c.ins)] = codA c:=Eq.trans rfl rfl
 refine Aas 43 N (fun i s' m' => Kp M2 m' ∧ ∀ (j:Nat) x,j < i → c.ins[j]? = some x → operM p c j x = true) (by simp) (by omega) ⟨.refl _,by omega⟩ ?_
 rintro i s' m' hi e43 ⟨hk,hall⟩ hsame hw Q' hn he
 have e2:s'.at 2 = .ptr m.next 0:=(hsame 2 (by kernel_rfl)).trans (by simp)
 have e3:s'.at 3 = .ptr (m.next + 1) 0:=(hsame 3 (by kernel_rfl)).trans (by simp)
 have e42:s'.at 42 = int N:=(hsame 42 (by kernel_rfl)).trans (by simp)
 clear hsame
 have b0':=(hk.get m.next (by omega)).trans b0
 have b1':=(hk.get (m.next + 1) (by omega)).trans b1
 by_cases hlt:i < N
 ·obtain ⟨x,hx⟩:∃ x,c.ins[i]? = some x:=⟨_,List.getElem?_eq_getElem (by omega)⟩
  have q56:=c56 p c i x hx (by omega)
  simp [e43,e42,hlt,e2,e3,b0',b1',ecp,ecc,q56.go]
  cases ho:operM p c i x with
  | false =>
   have hf2:opersM p c 0 c.ins = false:=by
    cases hq:opersM p c 0 c.ins with
    | false => rfl
    | true =>
     have:=(Ags c.ins 0).1 hq i x hx
     rw [Nat.zero_add,ho] at this
     cases this
   simp
   refine he _ _ _ (by simp) ?_
   rw [hf2]
   simp
   exact k2.trans hk
  | true =>
   simp [e43,hw]
   refine hn _ _ hlt (by simp) ⟨hk,fun j y hj hy => ?_⟩
   rcases Nat.lt_or_ge j i with q | q
   ·exact hall j y q hy
   ·have:j = i:=by omega
    subst this
    rw [hx] at hy
    cases hy
    exact ho
 ·have hge:i = N:=by omega
  subst hge
  have hops:opersM p c 0 c.ins = true:=(Ags c.ins 0).2 fun j x hj => by
   rw [Nat.zero_add]
   exact hall j x (by have:=(List.getElem?_eq_some_iff.1 hj).1; omega) hj
  have hio:∀ x ∈ c.ins,InOk x:=by
   intro x hx
   obtain ⟨j,hj⟩:=List.mem_iff_getElem?.1 hx
   obtain ⟨a,b⟩:=hf.ins x hx
   exact Azb (hall j x (by have:=(List.getElem?_eq_some_iff.1 hj).1; omega) hj) a b
  have q57:=c57 c.ins (by omega) (by omega) hio
  simp [e43,e42]
  refine he _ _ _ (by simp) ?_
  rw [hops]
  cases hfl:flowM c.ins with
  | none =>
   rw [flowR,hfl] at q57
   simp [e3,b1',q57.go,undefV,undef]
   exact k2.trans hk
  | some st =>
   rw [flowR,hfl] at q57
   by_cases h1:st.2 = c.max
   ·simp [e3,b1',q57.go,h1,undefV,undef]
    exact k2.trans hk
   ·simp [e3,b1',q57.go,h1,undefV,undef]
    exact k2.trans hk
end Go.Proofs.YtkoekdfimpcofaaGreat
namespace Go.Proofs.YtkoekdfimpcofaaGreat
set_option maxRecDepth 4000
set_option maxRecDepth 4000
open Go.V
theorem see43 {J:List Dat → (Nat → Prop) → Mem → Prop} {go':List Dat → Bool} {fs:FuncId} {ca:List AV} (hJ:Sees J go' (.func fs) [] ca) (d:Dat) (hd:d.fits) (h0:chk d = 0) (F:Nat → Prop) (m:Mem) (hJl:J [] F m) :
  wph Tryz.prog cw (.func 67) [enc d,.fn (.func fs) [] ca] m fun v m' => (∃ F',J (vis go' [] (pre d)).1 F' m' ∧ ∀ i,F' i → F i ∨ m.next ≤ i) ∧ KpC F m m':=by
 refine Aah Tryz.func67 rfl rfl (by simp [Tryz.f67]) (by simp [Tryz.f67]) fun Q hQ => ?_
 simp only [Tryz.f67,show cw.keepRes 67 = false from rfl,show cw.keepArgs 67 = false from rfl] at hQ ⊢
 simp [Nat.add_assoc]
 obtain ⟨em,hem⟩:∃ em,em = (((((((((((m.new (enc d).cells false).new [AV.fn (Fn.func fs) [] ca] false).new [int 0] false).new [int 0] false).set (m.next + 2) [int 0]).set (m.next + 3) [int 0]).new [.sc (.bool false)] false).set (m.next + 4) [.sc (.bool false)]).new [.sc .nilFunc] false).set (m.next + 5) [.fn (.func 90) [] [.ptr (m.next + 2) 0,.ptr (m.next + 3) 0,.ptr (m.next + 1) 0,.ptr (m.next + 4) 0,.ptr (m.next + 5) 0]])):=⟨_,rfl⟩
 have hk:Kp m em:=by
  rw [hem]
  exact ((((((((((Kp.new _ _ _).newr _ _).newr _ _).newr _ _).set (by omega) _).set (by omega) _).newr _ _).set (by omega) _).newr _ _).set (by omega) _)
 rw [← hem]
 have hlt:=hJ.lt _ _ _ hJl
 have hn:em.next = m.next + 6:=by rw [hem]; simp
 refine Aad (see58 hJ (m.next + 2) (m.next + 3) (m.next + 1) (m.next + 4) (m.next + 5) (by omega) d.size d (Nat.le_refl _) hd 1 0 0 [] F em ⟨fun h => by have:=hlt _ h; omega,fun h => by have:=hlt _ h; omega,fun h => by have:=hlt _ h; omega,fun h => by have:=hlt _ h; omega,fun h => by have:=hlt _ h; omega⟩ (by omega) (by omega) ⟨⟨by omega,?_⟩,⟨by omega,?_⟩,⟨by omega,?_⟩,⟨by omega,?_⟩,⟨by omega,?_⟩⟩ (hJ.keep _ _ _ _ hJl (.of hk)) (.inl rfl) h0) ?_
 all_goals first
  | (rw [hem]; simp [Nat.add_assoc]; done)
  | skip
 rintro v m1 ⟨rfl,⟨F',hJ',hF'⟩,kc,p',q',st,hpq⟩
 obtain ⟨pl,pv,pe⟩:=st.p
 obtain ⟨ql,qv,qe⟩:=st.q
 simp
 refine Abi (by kernel_rfl) ?_
 simp [pe,qe]
 refine Amr (by kernel_rfl) ?_
 simp
 refine hQ _ _ _ ⟨.inr rfl,_,rfl,?_⟩
 simp only [Bool.false_eq_true,if_false]
 simp [oneOf,fzr]
 refine ⟨⟨F',hJ',fun i hi => (hF' i hi).imp id fun h => by omega⟩,KpC.after hk kc ?_⟩
 rintro i hi (h | h | h | h)
 ·exact h
 all_goals omega
structure Tells (J:List Dat → (Nat → Prop) → Mem → Prop) (go:List Dat → Bool) (lo:Nat):Prop where
 keep:∀ l F m m',J l F m → KpX (fun i => ¬ F i) m m' → J l F m'
 lt:∀ l F m,J l F m → ∀ i,F i → i < m.next
 see:∀ l F m x,J l F m → (l = [] ∨ go l = true) → x.fits → wph Tryz.prog cw (.yield lo) [enc x] m fun v m' => v = .sc (.bool (go (l ++ [x]))) ∧ ∃ F',J (l ++ [x]) F' m' ∧ (∀ i,F' i → F i ∨ m.next ≤ i) ∧ KpC F m m'
def withBox (J:List Dat → (Nat → Prop) → Mem → Prop) (lo yb:Nat) (l:List Dat) (F:Nat → Prop) (m:Mem):Prop:=∃ F0,F = (fun i => F0 i ∨ i = yb) ∧ J l F0 m ∧ ¬ F0 yb ∧ has m yb [.yl lo]
theorem see53 {J:List Dat → (Nat → Prop) → Mem → Prop} {go':List Dat → Bool} {lo yb:Nat} (hJ:Tells J go' lo):Sees (withBox J lo yb) go' (.func 81) [] [.ptr yb 0]:=by
 refine ⟨?_,?_,?_⟩
 ·rintro l F m m' ⟨F0,rfl,a,b,c⟩ k
  exact ⟨F0,rfl,hJ.keep _ _ _ _ a (k.mono fun j _ h => fun h' => h (.inl h')),b,c.kept k (fun h => h (.inr rfl))⟩
 ·rintro l F m ⟨F0,rfl,a,b,c⟩ i (h | rfl)
  ·exact hJ.lt _ _ _ a i h
  ·exact c.1
 rintro l F m x ⟨F0,rfl,a,b,c⟩ hgo hx
 refine Aah Tryz.func81 rfl rfl (by simp [Tryz.f81]) (by simp [Tryz.f81]) fun Q hQ => ?_
 simp only [Tryz.f81,show cw.keepRes 81 = false from rfl,show cw.keepArgs 81 = false from rfl] at hQ ⊢
 obtain ⟨yl,yv,ye⟩:=c
 have yn:yb ≠ m.next:=by omega
 simp
 refine Abi (by kernel_rfl) ?_
 simp [ye,yn,(Agd (g47G x hx)).go]
 have k1:Kp m (m.new (enc x).cells false):=.new _ _ _
 have hlt:=hJ.lt _ _ _ a
 refine Aad (hJ.see l F0 _ x (hJ.keep _ _ _ _ a (.of k1)) hgo hx) ?_
 rintro v m2 ⟨rfl,F',h1,h2,h3⟩
 simp
 refine Aa2 (l:=[(0,2)]) (by kernel_rfl) (?_:List.all _ _ = true) ?_
 ·simp [metAt,metOk,rank,objOf,verKept,Region.wanted,Mem.ver,ye,yn]
 simp
 refine hQ _ _ _ (Aac (.inr rfl) Aaa ?_)
 simp at h2
 refine ⟨rfl,_,⟨F',rfl,h1,fun h => (h2 _ h).elim b fun h => by omega,(show has _ yb [.yl lo] from ⟨by simp; omega,yv,by simp [yn,ye]⟩).kc h3 b⟩,?_,?_⟩
 ·rintro i (h | rfl)
  ·rcases h2 i h with h | h
   ·exact .inl (.inl h)
   ·exact .inr (by omega)
  ·exact .inl (.inr rfl)
 ·exact KpC.after k1 h3 fun i _ h => .inl h
theorem all52 {J:List Dat → (Nat → Prop) → Mem → Prop} {go':List Dat → Bool} {lo db:Nat} (hJ:Tells J go' lo) (d:Dat) (hd:d.fits) (F:Nat → Prop) (m:Mem) (hJl:J [] F m) (hb:has m db (enc d).cells) (hF:¬ F db) :
  wph Tryz.prog cw (.func 80) [.yl lo,.ptr db 0] m fun v m' => (∃ F',J (vis go' [] (if chk d = 0 then pre d else [])).1 F' m' ∧ ∀ i,F' i → F i ∨ m.next ≤ i) ∧ KpC F m m':=by
 refine Aah Tryz.func80 rfl rfl (by simp [Tryz.f80]) (by simp [Tryz.f80]) fun Q hQ => ?_
 simp only [Tryz.f80,show cw.keepRes 80 = false from rfl,show cw.keepArgs 80 = false from rfl] at hQ ⊢
 obtain ⟨bl,bv,be⟩:=hb
 have bn:db ≠ m.next:=by omega
 have hlt:=hJ.lt _ _ _ hJl
 have k1:Kp m (m.new [.yl lo] false):=.new _ _ _
 have hJ1:=hJ.keep _ _ _ _ hJl (.of k1)
 simp [be,bn,(Agd (g14 d hd)).go]
 by_cases h0:chk d = 0
 ·simp [h0,be,bn]
  refine Aad (see43 (see53 (yb:=m.next) hJ) d hd h0 _ _ ⟨F,rfl,hJ1,fun h => by have:=hlt _ h; omega,⟨by simp,m.clock + 1,by simp⟩⟩) ?_
  rintro v m2 ⟨⟨F',⟨F0,rfl,h1,h2,h3⟩,h4⟩,h5⟩
  simp
  refine hQ _ _ _ ⟨.inl rfl,[],rfl,?_⟩
  rw [if_pos h0]
  refine ⟨⟨F0,h1,fun i hi => ?_⟩,KpC.after k1 h5 ?_⟩
  ·rcases h4 i (.inl hi) with (h | rfl) | h
   ·exact .inl h
   ·exact .inr (Nat.le_refl _)
   ·exact .inr (by simp at h; omega)
  ·rintro i hi (h | rfl)
   ·exact h
   ·omega
 ·simp [h0]
  refine hQ _ _ _ ⟨.inl rfl,[],rfl,?_⟩
  rw [if_neg h0]
  exact ⟨⟨F,hJ1,fun i hi => .inl hi⟩,.of (.of k1)⟩
def parts (d:Dat):List Dat:=if chk d = 0 then pre d else []
theorem e30 (d:Dat) (m:Mem):EH Tryz.prog cw (.func 58) [enc d] m (.fn (.func 80) [] [.ptr m.next 0]) (m.new (enc d).cells false):=by
 refine eh_of (Aah Tryz.func58 rfl rfl (by simp [Tryz.f58]) (by simp [Tryz.f58]) fun Q hQ => ?_)
 simp only [Tryz.f58,show cw.keepRes 58 = false from rfl,show cw.keepArgs 58 = false from rfl] at hQ ⊢
 simp
 exact hQ _ _ _ ⟨.inr rfl,_,rfl,by simp [oneOf]⟩
def noM:Dat → Bool | .mk _ _ _ M _ _ => M.isEmpty
def plainM (d:Dat):Bool:=decide (chk d = 0) && (pre d).all noM
def PlJ (lo B:Nat) (c:LCode) (ys:List Dat) (F:Nat → Prop) (m:Mem):Prop :=
 ∃ ver,F = (fun i => i = lo ∨ i = B) ∧ lo < m.next ∧ lo ≠ B ∧ has m B [.sc (.bool false)] ∧ m.loop lo = some (if ys.all noM = true then ⟨.ready,none,c,ver⟩ else ⟨.done,some .ret,c,ver⟩)
theorem A0w {lo B:Nat} {c:LCode} {l:List Dat} {F:Nat → Prop} {m:Mem} (h:PlJ lo B c l F m):∀ i,F i → i < m.next:=by
 obtain ⟨ver,rfl,h1,_,h2,_⟩:=h
 rintro i (rfl | rfl)
 ·exact h1
 ·exact h2.1
theorem Aue {lo B:Nat} {c:LCode} {l:List Dat} {F:Nat → Prop} {m m':Mem} (h:PlJ lo B c l F m) (k:KpX (fun i => ¬ F i) m m'):PlJ lo B c l F m':=by
 obtain ⟨ver,rfl,h1,hn,h2,h7⟩:=h
 refine ⟨ver,rfl,Nat.lt_of_lt_of_le h1 k.next,hn,h2.kept k (by simp),?_⟩
 rw [(k.x lo h1).1]
 exact h7
theorem Apx:∀ (xs l:List Dat),l.all noM = true → (vis (fun ys => ys.all noM) l xs).1.all noM = (l ++ xs).all noM
 | [],l,h => by simp [vis]
 | x :: xs,l,h => by
  simp only [vis]
  split
  ·rename_i hg
   rw [Apx xs (l ++ [x]) hg]
   simp
  ·rename_i hg
   have hf:(l ++ [x]).all noM = false:=by simpa using hg
   rw [hf,show l ++ x :: xs = (l ++ [x]) ++ xs by simp,List.all_append,hf]
   rfl
theorem c34 (d:Dat) (hd:d.fits) (m:Mem):EH Tryz.prog cw (.func 36) [enc d] m (.sc (.bool (plainM d))) m:=by
 have q43:=Agd (g14 d hd)
 refine Aaw Tryz.func36 rfl rfl rfl rfl (args1:=[enc d]) (m1:=m) (by simp [fzvs]) (by simp) (by simp [Tryz.f36]) (by simp [Tryz.f36]) ?_
 simp only [Tryz.f36,show cw.keepRes 36 = false from rfl]
 obtain ⟨M1,hM1⟩:∃ M1,M1 = ((m.new (enc d).cells false).new [.sc (.bool false)] false):=⟨_,rfl⟩
 have k1:Kp m M1:=by rw [hM1]; simp
 have n1:M1.next = m.next + 2:=by rw [hM1]; simp
 have b0:M1.get m.next = some (.cells (enc d).cells false (m.clock + 1)):=by rw [hM1]; simp
 have b1:M1.get (m.next + 1) = some (.cells [.sc (.bool false)] false (m.clock + 2)):=by rw [hM1]; simp
 simp
 rw [← hM1]
 clear hM1
 simp [b0,q43.go]
 by_cases h0:chk d = 0
 rotate_left
 ·have hp:plainM d = false:=by simp [plainM,h0]
  rw [hp]
  simp [h0,b1]
  exact k1
 simp [h0,b0,(e30 d _).go]
 refine Ajf (f:=80) (a:=[]) (b:=[.ptr M1.next 0]) (by simp) (by kernel_rfl) ?_
 simp only [List.nil_append,List.singleton_append]
 generalize hcd:LCode.mk _ _ _ _ _ = c
 obtain ⟨lo,hlo0⟩:∃ lo,lo = (M1.new (enc d).cells false).next:=⟨_,rfl⟩
 have hlo:lo = M1.next + 1:=by rw [hlo0]; simp
 obtain ⟨B,hB⟩:∃ B,B = m.next + 1:=⟨_,rfl⟩
 have T:Tells (PlJ lo B c) (fun ys => ys.all noM) lo:=by
  refine ⟨fun l F m m' h k => Aue h k,fun l F m h => A0w h,?_⟩
  rintro l F m1 x ⟨ver,rfl,h1,hn,h2,h7⟩ hgo hx
  have hle:l.all noM = true:=by
   rcases hgo with rfl | h
   ·simp
   ·exact h
  rw [if_pos hle] at h7
  refine Agj h7 (by rw [← hcd]; rfl) ?_
  obtain ⟨bl,bv,be⟩:=h2
  have c1:=congrArg LCode.assign hcd
  have c2:=congrArg LCode.body hcd
  have c3:=congrArg LCode.N hcd
  have c4:=congrArg LCode.s hcd
  have c5:=congrArg LCode.ps hcd
  dsimp only at c1 c2 c3 c4 c5
  simp only [← c1,← c2,← c3,← c4,← c5]
  obtain ⟨K,N,Sx,M,L,Tx⟩:=x
  have nB:B ≠ m1.next:=by omega
  have nlo:lo ≠ m1.next:=by omega
  cases M with
  | nil =>
   simp [Sl.puts,h7,enc]
   obtain ⟨m2,hm2⟩:∃ m2:Mem,m2 = ((((m1.new zeroCells false).set m1.next [int K,int N,.sc (.string ⟨⟨Sx⟩⟩),.lst [],.lst (encs L),.lst (encs Tx)]).setLoop lo .busy none c).setLoop lo .ready none c):=⟨_,rfl⟩
   have hk:KpC (fun i => i = lo) m1 m2:=by
    rw [hm2]
    refine ⟨by simp,fun id hi _ => by have:id ≠ m1.next:=by omega
                                      simp [this],fun id hi hx => by have:id ≠ lo:=hx
                                                                     simp [this]⟩
   have hall:(l ++ [Dat.mk K N Sx [] L Tx]).all noM = true:=by rw [List.all_append,hle]; rfl
   have hl:∃ w,m2.loop lo = some ⟨.ready,none,c,w⟩:=by rw [hm2]; exact ⟨_,by simp; rfl⟩
   rw [← hm2]
   obtain ⟨w2,hl⟩:=hl
   refine ⟨⟨by simpa using hle,rfl⟩,_,⟨w2,rfl,Nat.lt_of_lt_of_le h1 hk.next,hn,⟨Nat.lt_of_lt_of_le bl hk.next,bv,?_⟩,?_⟩,fun i hi => .inl hi,hk.mono fun _ h => .inl h⟩
   ·rw [hk.get B bl (fun e => hn e.symm)]; exact be
   ·rw [hl,if_pos hall]
  | cons k M =>
   rw [← hB]
   simp [Sl.puts,h7,enc,nB,be]
   obtain ⟨m2,hm2⟩:∃ m2:Mem,m2 = (((((m1.new zeroCells false).set m1.next [int K,int N,.sc (.string ⟨⟨Sx⟩⟩),.lst (int k :: M.map int),.lst (encs L),.lst (encs Tx)]).setLoop lo .busy none c).set B [.sc (.bool false)]).setLoop lo .done (some .ret) c):=⟨_,rfl⟩
   have hk:KpC (fun i => i = lo ∨ i = B) m1 m2:=by
    rw [hm2]
    refine ⟨by simp,fun id hi hx => by have a1:id ≠ m1.next:=by omega
                                       have a2:id ≠ B:=fun e => hx (.inr e)
                                       simp [a1,a2],fun id hi hx => by have:id ≠ lo:=fun e => hx (.inl e)
                                                                       simp [this]⟩
   have hall:(l ++ [Dat.mk K N Sx (k :: M) L Tx]).all noM = false:=by rw [List.all_append,hle]; rfl
   have hl:∃ w,m2.loop lo = some ⟨.done,some .ret,c,w⟩:=by rw [hm2]; exact ⟨_,by simp; rfl⟩
   have hb:∃ w,m2.get B = some (.cells [.sc (.bool false)] false w):=by rw [hm2]; exact ⟨_,by simp; rfl⟩
   rw [← hm2]
   obtain ⟨w2,hl⟩:=hl
   refine ⟨fun _ => rfl,_,⟨w2,rfl,Nat.lt_of_lt_of_le h1 hk.next,hn,⟨Nat.lt_of_lt_of_le bl hk.next,hb⟩,?_⟩,fun i hi => .inl hi,hk⟩
   rw [hl,if_neg (by rw [hall]; simp)]
 obtain ⟨M3,hM3⟩:∃ M3,M3 = (M1.new (enc d).cells false).newLoop c:=⟨_,rfl⟩
 have n3:M3.next = M1.next + 2:=by rw [hM3]; simp
 have g3B:M3.get B = some (.cells [.sc (.bool false)] false (m.clock + 2)):=by
  have:B ≠ M1.next:=by omega
  rw [hM3]
  simp [this]
  rw [hB]
  exact b1
 have g3d:∃ w,M3.get M1.next = some (.cells (enc d).cells false w):=by rw [hM3]; exact ⟨_,by simp; rfl⟩
 have g3l:∃ w,M3.loop lo = some ⟨.ready,none,c,w⟩:=by rw [hM3,hlo]; exact ⟨_,by simp; rfl⟩
 obtain ⟨w3,g3l⟩:=g3l
 have k3:Kp m M3:=by
  have hd':Kp m (M1.new (enc d).cells false):=k1.newr _ _
  have nd:(M1.new (enc d).cells false).next = M1.next + 1:=by simp
  rw [hM3]
  refine ⟨by simp; omega,fun id hi => ?_,fun id hi => ?_⟩
  ·have a1:id ≠ M1.next:=by omega
   have a2:id ≠ M1.next + 1:=by omega
   have:=hd'.get id hi
   simp [a1,a2] at this ⊢
   exact this
  ·have a2:id ≠ M1.next + 1:=by omega
   have:=hd'.x id hi
   simp [a2] at this ⊢
   exact this
 rw [← hM3,← hlo0]
 refine Ab2 (all52 T d hd (fun i => i = lo ∨ i = B) M3 ⟨w3,rfl,by omega,by omega,⟨by omega,_,g3B⟩,by rw [g3l]; rfl⟩ ⟨by omega,g3d⟩ (by omega)) ?_
 rintro v m2 ⟨⟨F',⟨ver,rfl,h1,hn,h2,h7⟩,h8⟩,h9⟩
 have hall:(vis (fun ys => ys.all noM) [] (if chk d = 0 then pre d else [])).1.all noM = (pre d).all noM:=by
  rw [Apx _ _ rfl,if_pos h0]
  rfl
 rw [hall] at h7
 obtain ⟨bl,bv,be⟩:=h2
 have kf:Kp m (m2.killLoop lo):=by
  have hb9:=h9.next
  have ho:∀ id,id < m.next → ¬ (id = lo ∨ id = B):=by omega
  refine ⟨by simp; omega,fun id hi => ?_,fun id hi => ?_⟩
  ·have:=h9.get id (by omega) (ho id hi)
   simpa using this.trans (k3.get id hi)
  ·have:=h9.x id (by omega) (ho id hi)
   have a1:id ≠ lo:=by omega
   have k:=k3.x id hi
   simp [a1]
   exact ⟨this.1.trans k.1,this.2.trans k.2⟩
 have gk:(m2.killLoop lo).get B = some (.cells [.sc (.bool false)] false bv):=by simpa using be
 cases hp:(pre d).all noM with
 | true =>
  have hpl:plainM d = true:=by simp only [plainM,h0,hp]; rfl
  rw [hp] at h7
  refine ⟨_,.normal,h7,by simp,rfl,?_⟩
  rw [hpl,← hB]
  simp [gk]
  exact kf.set (by omega) _
 | false =>
  have hpl:plainM d = false:=by simp only [plainM,h0,hp]; rfl
  rw [hp] at h7
  refine ⟨_,.ret,h7,by simp,rfl,?_⟩
  rw [hpl,← hB]
  simp [gk]
  exact kf
end Go.Proofs.YtkoekdfimpcofaaGreat
namespace Go.Proofs.YtkoekdfimpcofaaGreat
set_option maxRecDepth 4000
set_option maxRecDepth 4000
open Go.V
attribute [local simp] Nat.add_assoc
theorem c34G (d:Dat) (hd:d.fits):Gives Tryz.prog cc 36 [enc d] (.sc (.bool (plainM d))):=fun m0 args0 m hz => Abh rfl (Acz (eh_fz Tryz.func36 rfl rfl rfl hz (by simp [fzvs]) (c34 d hd m)))
section
variable {B:Nat} {m:Mem} {d:Dat}
theorem c36 (hB:has m B (enc d).cells) (hd:d.fits) (x:Dat) (hx:x.fits):EH Tryz.prog cc (.func 38) [enc x,.ptr B 0] m (.sc (.bool (sam x d))) m:=by
 obtain ⟨bl,bv,be⟩:=hB
 have bn:B ≠ m.next:=by omega
 have q:=Ajw (g31 x d hx hd)
 refine Aaw Tryz.func38 rfl rfl rfl rfl (args1:=[enc x,.ptr B 0]) (m1:=m) (by simp [fzvs]) (by simp) (by simp [Tryz.f38]) (by simp [Tryz.f38]) ?_
 simp [Tryz.f38,show cc.keepRes 38 = false from rfl,be,bn,q.go]
theorem Ajs {l:List Dat} {i:Nat} {c:Dat} (h:l[i]? = some c):aindexAddr Tryz.prog 31 (.lst (encs l)) (int i) = some ((enc c).cptr 0):=Arz h
theorem c52 (hB:has m B (enc d).cells) (hd:d.fits) (l:List Dat) (hf:∀ x ∈ l,x.fits) (hl:l.length < 2 ^ 21):EH Tryz.prog cc (.func 59) [.lst (encs l),.fn (.func 38) [] [.ptr B 0]] m (int (fi (fun v => sam v d) l)) m:=by
 have ln:=len23 l
 refine Aaw Tryz.func59 rfl rfl rfl rfl (args1:=[.lst (encs l),.fn (.func 38) [] [.ptr B 0]]) (m1:=m) (by simp [fzvs]) (by simp) (by simp [Tryz.f59]) (by simp [Tryz.f59]) ?_
 simp [Tryz.f59,show cc.keepRes 59 = false from rfl,ln]
 refine Aas 8 l.length (fun i s m' => m' = m ∧ ∀ j v,j < i → l[j]? = some v → sam v d = false) (by simp) (by omega) ⟨rfl,fun _ _ h => by omega⟩ ?_
 rintro i s m' hi e8 ⟨rfl,hno⟩ hs hw Q' hn he
 have e0:s.at 0 = .lst (encs l):=(hs 0 (by kernel_rfl)).trans (by simp)
 have e1:s.at 1 = .fn (.func 38) [] [.ptr B 0]:=(hs 1 (by kernel_rfl)).trans (by simp)
 have e7:s.at 7 = int l.length:=(hs 7 (by kernel_rfl)).trans (by simp)
 clear hs
 simp [e8,e7]
 refine Aal (fun h => ?_) fun h => ?_
 ·have hlt:i < l.length:=by simpa using h
  obtain ⟨v,hv⟩:∃ v,l[i]? = some v:=⟨_,List.getElem?_eq_getElem hlt⟩
  simp [e8,e0,e1,Ajs hv,(c36 hB hd v (hf v (List.mem_of_getElem? hv))).go]
  cases hc:sam v d with
  | true =>
   simp
   refine he _ _ _ (by simp) ?_
   simp
   exact (Ajq hv (by simp [hc]) hno).symm
  | false =>
   simp [e8,hw]
   refine hn _ _ hlt (by simp) ⟨rfl,fun j v' hj hvj => ?_⟩
   rcases Nat.lt_or_ge j i with h2 | h2
   ·exact hno j v' h2 hvj
   ·obtain rfl:j = i:=by omega
    rw [hv] at hvj
    cases hvj
    simp [hc]
 ·have hge:i = l.length:=by have:=of_decide_eq_false h; omega
  subst hge
  simp
  refine he _ _ _ (by simp) ?_
  simp
  exact (Ajr hno).symm
theorem c35 (hB:has m B (enc d).cells) (hd:d.fits) (l:List Dat) (hf:∀ x ∈ l,x.fits) (hl:l.length < 2 ^ 21):EH Tryz.prog cc (.func 37) [.lst (encs l),.fn (.func 38) [] [.ptr B 0]] m (.sc (.bool (l.any fun v => sam v d))) m:=by
 refine Aaw Tryz.func37 rfl rfl rfl rfl (args1:=[.lst (encs l),.fn (.func 38) [] [.ptr B 0]]) (m1:=m) (by simp [fzvs]) (by simp) (by simp [Tryz.f37]) (by simp [Tryz.f37]) ?_
 simp [Tryz.f37,show cc.keepRes 37 = false from rfl,(c52 hB hd l hf hl).go]
 exact Aru _ _
end
theorem c39 (l:List (List UInt8)) (s0:List UInt8) (hl:l.length < 2 ^ 21):Gives Tryz.prog cc 41 [.lst (strs l),strS s0] (int (fi (fun v => decide (s0 = v)) l)):=by
 have ln:=len24 l
 refine Aae Tryz.func41 rfl rfl rfl rfl (by simp) (by simp [Tryz.f41]) (by simp [Tryz.f41]) fun m => ?_
 simp [Tryz.f41,show cc.keepRes 41 = false from rfl,ln]
 refine Aas 8 l.length (fun i s m' => m' = m ∧ ∀ j v,j < i → l[j]? = some v → decide (s0 = v) = false) (by simp) (by omega) ⟨rfl,fun _ _ h => by omega⟩ ?_
 rintro i s m' hi e8 ⟨rfl,hno⟩ hs hw Q' hn he
 have e0:s.at 0 = .lst (strs l):=(hs 0 (by kernel_rfl)).trans (by simp)
 have e1:s.at 1 = strS s0:=(hs 1 (by kernel_rfl)).trans (by simp)
 have e7:s.at 7 = int l.length:=(hs 7 (by kernel_rfl)).trans (by simp)
 clear hs
 simp [e8,e7]
 refine Aal (fun h => ?_) fun h => ?_
 ·have hlt:i < l.length:=by simpa using h
  obtain ⟨v,hv⟩:∃ v,l[i]? = some v:=⟨_,List.getElem?_eq_getElem hlt⟩
  simp [e8,e0,e1,Al2 hv]
  by_cases hc:s0 = v
  ·subst hc
   simp
   refine he _ _ _ (by simp) ?_
   simp
   exact (Ajq hv (by simp) hno).symm
  ·simp [hc,e8,hw]
   refine hn _ _ hlt (by simp) ⟨rfl,fun j v' hj hvj => ?_⟩
   rcases Nat.lt_or_ge j i with h2 | h2
   ·exact hno j v' h2 hvj
   ·obtain rfl:j = i:=by omega
    rw [hv] at hvj
    cases hvj
    simp [hc]
 ·have hge:i = l.length:=by have:=of_decide_eq_false h; omega
  subst hge
  simp
  refine he _ _ _ (by simp) ?_
  simp
  exact (Ajr hno).symm
end Go.Proofs.YtkoekdfimpcofaaGreat
namespace Go.Proofs.YtkoekdfimpcofaaGreat
set_option maxRecDepth 4000
set_option maxRecDepth 20000
open Go.V
attribute [local simp] Nat.add_assoc
structure PrFit (p:PrM):Prop where
 codes:p.codes.length < 2 ^ 21 ∧ ∀ c ∈ p.codes,CoFit c
 consts:p.consts.length < 2 ^ 21 ∧ ∀ d ∈ p.consts,d.fits
 names:p.names.length < 2 ^ 21 ∧ ∀ s ∈ p.names,s.length < 2 ^ 62
def countsM (p:PrM):Bool:=match p.codes with
 | [] => false
 | c :: _ => decide (p.codes.length ≤ 1024) && (decide (p.consts.length ≤ 1024) && (decide (p.names.length ≤ 1024) && (decide (c.params = 0) && decide (c.caps = 0))))
def constM (p:PrM) (i:Nat) (d:Dat):Bool:=plainM d && !((p.consts.take i).any fun v => sam v d)
def nameM1 (p:PrM) (i:Nat) (s:List UInt8):Bool:=Sym s && decide (fi (fun v => decide (s = v)) p.names = i)
def allAt {α:Type} (f:Nat → α → Bool):Nat → List α → Bool
 | _,[] => true
 | i,x :: l => f i x && allAt f (i + 1) l
theorem Ado {α:Type} {f:Nat → α → Bool}:∀ (l:List α) (i:Nat),allAt f i l = true ↔ ∀ (j:Nat) x,l[j]? = some x → f (i + j) x = true
 | [],i => by simp [allAt]
 | y :: l,i => by
  rw [allAt,Bool.and_eq_true,Ado l (i + 1)]
  constructor
  ·rintro ⟨h1,h2⟩ j x hj
   cases j with
   | zero => simp at hj; subst hj; exact h1
   | succ j =>
    have:=h2 j x (by simpa using hj)
    rwa [Nat.add_assoc,Nat.add_comm 1] at this
  ·intro h
   refine ⟨h 0 y (by simp),fun j x hj => ?_⟩
   have:=h (j + 1) x (by simpa using hj)
   rwa [Nat.add_assoc,Nat.add_comm 1]
def checkB (p:PrM):Bool:=countsM p && (allAt (constM p) 0 p.consts && (allAt (nameM1 p) 0 p.names && p.codes.all (goodC p)))
def checkM (p:PrM):Int:=if checkB p = true then 0 else 90
theorem Ahi {α:Type} {f:Nat → α → Bool} {l:List α} {i:Nat} {x:α} (hx:l[i]? = some x) (h:f i x = false):allAt f 0 l = false:=by
 cases hq:allAt f 0 l with
 | false => rfl
 | true =>
  have:=(Ado l 0).1 hq i x hx
  rw [Nat.zero_add,h] at this
  cases this
theorem Aio {p:PrM} {c:CoM} (h:p.codes[0]? = some c):countsM p = true ↔ p.codes.length ≤ 1024 ∧ p.consts.length ≤ 1024 ∧ p.names.length ≤ 1024 ∧ c.params = 0 ∧ c.caps = 0:=by
 unfold countsM
 cases hc:p.codes with
 | nil => rw [hc] at h; simp at h
 | cons d cs =>
  rw [hc] at h
  simp at h
  subst h
  simp
theorem c20 (p:PrM) (hf:PrFit p):Gives Tryz.prog cc 16 [prgA p] (int (checkM p)):=by
 obtain ⟨nC,hC⟩:∃ n,n = p.codes.length:=⟨_,rfl⟩
 obtain ⟨nD,hD⟩:∃ n,n = p.consts.length:=⟨_,rfl⟩
 obtain ⟨nN,hN⟩:∃ n,n = p.names.length:=⟨_,rfl⟩
 have l22:∀ (R:TypeId) (m:Mem),abuiltin Tryz.prog .len #[30] R [.lst (cods p.codes)] m = some (int nC,m):=by rw [hC]; exact len22 p.codes
 have l23:∀ (R:TypeId) (m:Mem),abuiltin Tryz.prog .len #[31] R [.lst (encs p.consts)] m = some (int nD,m):=by rw [hD]; exact len23 p.consts
 have l24:∀ (R:TypeId) (m:Mem),abuiltin Tryz.prog .len #[32] R [.lst (strs p.names)] m = some (int nN,m):=by rw [hN]; exact len24 p.names
 by_cases h0:nC = 0
 ·have hr:checkM p = 90:=by
   have:p.codes = []:=List.length_eq_zero_iff.1 (by omega)
   rw [checkM,if_neg (by simp [checkB,countsM,this])]
  rw [hr]
  refine Aae Tryz.func16 rfl rfl rfl rfl (by simp) (by simp [Tryz.f16]) (by simp [Tryz.f16]) fun m => ?_
  simp [Tryz.f16,show cc.keepRes 16 = false from rfl,l22,h0,undefV,undef]
 obtain ⟨c,hc⟩:∃ c,p.codes[0]? = some c:=⟨_,List.getElem?_eq_getElem (by omega)⟩
 have ci:=Aio hc
 rw [← hC,← hD,← hN] at ci
 have hix:aindexAddr Tryz.prog 30 (.lst (cods p.codes)) (int 0) = some ((codA c).cptr 0):=Afo (i:=0) hc
 have bad:¬ (nC ≤ 1024 ∧ nD ≤ 1024 ∧ nN ≤ 1024 ∧ c.params = 0 ∧ c.caps = 0) → checkM p = 90:=by
  intro h
  rw [checkM,if_neg]
  intro hq
  simp only [checkB,Bool.and_eq_true] at hq
  exact h (ci.1 hq.1)
 by_cases h1:1024 < nC
 ·rw [bad (by omega)]
  refine Aae Tryz.func16 rfl rfl rfl rfl (by simp) (by simp [Tryz.f16]) (by simp [Tryz.f16]) fun m => ?_
  simp [Tryz.f16,show cc.keepRes 16 = false from rfl,l22,h0,show (1024:Int) < nC by omega,undefV,undef]
 by_cases h2:1024 < nD
 ·rw [bad (by omega)]
  refine Aae Tryz.func16 rfl rfl rfl rfl (by simp) (by simp [Tryz.f16]) (by simp [Tryz.f16]) fun m => ?_
  simp [Tryz.f16,show cc.keepRes 16 = false from rfl,l22,l23,h0,show ¬ (1024:Int) < nC by omega,show (1024:Int) < nD by omega,undefV,undef]
 by_cases h3:1024 < nN
 ·rw [bad (by omega)]
  refine Aae Tryz.func16 rfl rfl rfl rfl (by simp) (by simp [Tryz.f16]) (by simp [Tryz.f16]) fun m => ?_
  simp [Tryz.f16,show cc.keepRes 16 = false from rfl,l22,l23,l24,h0,show ¬ (1024:Int) < nC by omega,show ¬ (1024:Int) < nD by omega,show (1024:Int) < nN by omega,undefV,undef]
 by_cases h4:c.params = 0
 rotate_left
 ·rw [bad (fun q => h4 q.2.2.2.1)]
  refine Aae Tryz.func16 rfl rfl rfl rfl (by simp) (by simp [Tryz.f16]) (by simp [Tryz.f16]) fun m => ?_
  simp [Tryz.f16,show cc.keepRes 16 = false from rfl,l22,l23,l24,h0,show ¬ (1024:Int) < nC by omega,show ¬ (1024:Int) < nD by omega,show ¬ (1024:Int) < nN by omega,hix,h4,undefV,undef]
 by_cases h5:c.caps = 0
 rotate_left
 ·rw [bad (fun q => h5 q.2.2.2.2)]
  refine Aae Tryz.func16 rfl rfl rfl rfl (by simp) (by simp [Tryz.f16]) (by simp [Tryz.f16]) fun m => ?_
  simp [Tryz.f16,show cc.keepRes 16 = false from rfl,l22,l23,l24,h0,show ¬ (1024:Int) < nC by omega,show ¬ (1024:Int) < nD by omega,show ¬ (1024:Int) < nN by omega,hix,h4,h5,undefV,undef]
 have hcm:countsM p = true:=ci.2 ⟨by omega,by omega,by omega,h4,h5⟩
 refine Aae Tryz.func16 rfl rfl rfl rfl (by simp) (by simp [Tryz.f16]) (by simp [Tryz.f16]) fun m => ?_
 simp only [Tryz.f16,show cc.keepRes 16 = false from rfl]
 obtain ⟨M1,hM1⟩:∃ M1,M1 = m.new [.lst (cods p.codes),.lst (encs p.consts),.lst (strs p.names)] false:=⟨_,rfl⟩
 have k1:Kp m M1:=by rw [hM1]; simp
 have n1:M1.next = m.next + 1:=by rw [hM1]; simp
 have b1:M1.get m.next = some (.cells [.lst (cods p.codes),.lst (encs p.consts),.lst (strs p.names)] false (m.clock + 1)):=by rw [hM1]; simp
 simp [l22,l23,l24,h0,show ¬ (1024:Int) < nC by omega,show ¬ (1024:Int) < nD by omega,show ¬ (1024:Int) < nN by omega,hix,h4,h5]
 rw [← hM1]
 clear hM1
 refine Aas 50 nD (fun i s' m' => Kp M1 m' ∧ ∀ (j:Nat) d,j < i → p.consts[j]? = some d → constM p j d = true) (by simp) (by omega) ⟨.refl _,by omega⟩ ?_
 rintro i s' m' hi e50 ⟨hk,hall⟩ hsame hw Q' hn he
 have e1:s'.at 1 = .ptr m.next 0:=(hsame 1 (by kernel_rfl)).trans (by simp)
 have e48:s'.at 48 = .lst (encs p.consts):=(hsame 48 (by kernel_rfl)).trans (by simp)
 have e49:s'.at 49 = int nD:=(hsame 49 (by kernel_rfl)).trans (by simp)
 clear hsame
 have b1':=(hk.get m.next (by omega)).trans b1
 by_cases hlt:i < nD
 ·obtain ⟨d,hd⟩:∃ d,p.consts[i]? = some d:=⟨_,List.getElem?_eq_getElem (by omega)⟩
  have hdf:=hf.consts.2 d (List.mem_of_getElem? hd)
  obtain ⟨M2,hM2⟩:∃ M2,M2 = (m'.new zeroCells false).set m'.next (enc d).cells:=⟨_,rfl⟩
  have k2:Kp m' M2:=by rw [hM2]; simp
  have g2:M2.get m'.next = some (.cells (enc d).cells false (m'.clock + 2)):=by rw [hM2]; simp
  have n2:M2.next = m'.next + 1:=by rw [hM2]; simp
  have b12:=(k2.get m.next (by have:=hk.next; omega)).trans b1'
  have q34:=c34G d hdf
  have hfail:constM p i d = false → checkM p = 90:=by
   intro h
   rw [checkM,if_neg]
   intro hq
   simp only [checkB,Bool.and_eq_true] at hq
   rw [Ahi hd h] at hq
   cases hq.2.1
  have hsl:aslice Tryz.prog 31 (.lst (encs p.consts)) none (some (int i)) none = some (.lst (encs (p.consts.take i))):=by
   have:=Acf (P:=Tryz.prog) (T:=31) (xs:=encs p.consts) (k:=6) (lo:=none) (hi:=some (int (i:Int))) (l:=none) (h:=some i) Tryz.underlying31 Abq Aa1 (Abd (n:=i)) (by simp) (by simp; omega) (Acy _)
   rw [this]
   simp [Ab4,List.map_take]
  have q35:=c35 (m:=M2) (B:=m'.next) (d:=d) ⟨by omega,_,g2⟩ hdf (p.consts.take i) (fun x hx => hf.consts.2 x (List.mem_of_mem_take hx)) (by simp; omega)
  simp [e50,e49,hlt,e48,Ajs hd]
  rw [← hM2]
  clear hM2
  simp [q34.go,e1,b12]
  cases hp:plainM d with
  | false =>
   have h90:=hfail (by simp [constM,hp])
   simp [undefV,undef]
   refine he _ _ _ (by simp) ?_
   rw [h90]
   simp
   exact (k1.trans hk).trans k2
  | true =>
   simp [e1,b12,hsl,q35.go]
   cases hq:(p.consts.take i).any fun v => sam v d with
   | true =>
    have h90:=hfail (by simp only [constM,hp,hq]; rfl)
    simp
    refine he _ _ _ (by simp) ?_
    rw [h90]
    simp
    exact (k1.trans hk).trans k2
   | false =>
    simp [e50,hw]
    refine hn _ _ hlt (by simp) ⟨hk.trans k2,fun j d' hj hd' => ?_⟩
    rcases Nat.lt_or_ge j i with h2 | h2
    ·exact hall j d' h2 hd'
    ·obtain rfl:j = i:=by omega
     rw [hd] at hd'
     cases hd'
     simp only [constM,hp,hq]
     rfl
 have hge:i = nD:=by omega
 subst hge
 have hcon:allAt (constM p) 0 p.consts = true:=(Ado p.consts 0).2 fun j d hj => by
  rw [Nat.zero_add]
  exact hall j d (by have:=(List.getElem?_eq_some_iff.1 hj).1; omega) hj
 simp [e50,e49]
 refine he _ _ _ (by simp) ?_
 clear he hn
 simp [e1,b1',l24]
 refine Aas 70 nN (fun i s' m' => Kp M1 m' ∧ ∀ (j:Nat) d,j < i → p.names[j]? = some d → nameM1 p j d = true) (by simp) (by omega) ⟨hk,by omega⟩ ?_
 clear e48 e49 e50 b1' hk hall hi hw
 rintro i s' m' hi e70 ⟨hk,hall⟩ hsame hw Q' hn he
 have f1:s'.at 1 = .ptr m.next 0:=(hsame 1 (by kernel_rfl)).trans (by simp [e1])
 have f68:s'.at 68 = .lst (strs p.names):=(hsame 68 (by kernel_rfl)).trans (by simp)
 have f69:s'.at 69 = int nN:=(hsame 69 (by kernel_rfl)).trans (by simp)
 clear hsame e1
 have b1':=(hk.get m.next (by omega)).trans b1
 by_cases hlt:i < nN
 ·obtain ⟨d,hd⟩:∃ d,p.names[i]? = some d:=⟨_,List.getElem?_eq_getElem (by omega)⟩
  have hdf:=hf.names.2 d (List.mem_of_getElem? hd)
  have q38:=Ajw (g12 d hdf)
  have q39:=c39 p.names d (by omega)
  have hfail:nameM1 p i d = false → checkM p = 90:=by
   intro h
   rw [checkM,if_neg]
   intro hq
   simp only [checkB,Bool.and_eq_true] at hq
   rw [Ahi hd h] at hq
   cases hq.2.2.1
  simp [e70,f69,hlt,f68,Al2 hd,q38.go]
  cases hp:Sym d with
  | false =>
   have h90:=hfail (by simp [nameM1,hp])
   simp [undefV,undef]
   refine he _ _ _ (by simp) ?_
   rw [h90]
   simp
   exact k1.trans hk
  | true =>
   simp [f1,b1',q39.go]
   by_cases hq:fi (fun v => decide (d = v)) p.names = i
   ·simp [hq,e70,hw]
    refine hn _ _ hlt (by simp) ⟨hk,fun j d' hj hd' => ?_⟩
    rcases Nat.lt_or_ge j i with h2 | h2
    ·exact hall j d' h2 hd'
    ·obtain rfl:j = i:=by omega
     rw [hd] at hd'
     cases hd'
     simp only [nameM1,hp,hq]
     simp
   ·have h90:=hfail (by simp [nameM1,hq])
    simp [hq]
    refine he _ _ _ (by simp) ?_
    rw [h90]
    simp
    exact k1.trans hk
 have hge:i = nN:=by omega
 subst hge
 have hnam:allAt (nameM1 p) 0 p.names = true:=(Ado p.names 0).2 fun j d hj => by
  rw [Nat.zero_add]
  exact hall j d (by have:=(List.getElem?_eq_some_iff.1 hj).1; omega) hj
 simp [e70,f69]
 refine he _ _ _ (by simp) ?_
 clear he hn
 simp [f1,b1',l22]
 refine Aas 90 nC (fun i s' m' => Kp M1 m' ∧ ∀ (j:Nat) c,j < i → p.codes[j]? = some c → goodC p c = true) (by simp) (by omega) ⟨hk,by omega⟩ ?_
 clear f68 f69 e70 b1' hk hall hi hw
 rintro i s' m' hi e90 ⟨hk,hall⟩ hsame hw Q' hn he
 have e1:s'.at 1 = .ptr m.next 0:=(hsame 1 (by kernel_rfl)).trans (by simp [f1])
 have f88:s'.at 88 = .lst (cods p.codes):=(hsame 88 (by kernel_rfl)).trans (by simp)
 have f89:s'.at 89 = int nC:=(hsame 89 (by kernel_rfl)).trans (by simp)
 clear hsame f1
 have b1':=(hk.get m.next (by omega)).trans b1
 by_cases hlt:i < nC
 ·obtain ⟨d,hd⟩:∃ d,p.codes[i]? = some d:=⟨_,List.getElem?_eq_getElem (by omega)⟩
  have hdf:=hf.codes.2 d (List.mem_of_getElem? hd)
  have q40:=c40 p d hdf
  obtain ⟨M2,hM2⟩:∃ M2,M2 = (m'.new [int 0,int 0,int 0,int 0,.emp 0] false).set m'.next [int d.params,int d.rest,int d.caps,int d.max,.lst (inss d.ins)]:=⟨_,rfl⟩
  have k2:Kp m' M2:=by rw [hM2]; simp
  have g2:M2.get m'.next = some (.cells [int d.params,int d.rest,int d.caps,int d.max,.lst (inss d.ins)] false (m'.clock + 2)):=by rw [hM2]; simp
  have b12:=(k2.get m.next (by have:=hk.next; omega)).trans b1'
  simp [e90,f89,hlt,f88,Afo hd]
  rw [← hM2]
  clear hM2
  simp [e1,b12,g2,Ai7,An3,q40.go]
  cases hp:goodC p d with
  | false =>
   have h90:checkM p = 90:=by
    rw [checkM,if_neg]
    intro hq
    simp only [checkB,Bool.and_eq_true,List.all_eq_true] at hq
    rw [hq.2.2.2 d (List.mem_of_getElem? hd)] at hp
    cases hp
   simp
   refine he _ _ _ (by simp) ?_
   rw [h90]
   simp
   exact (k1.trans hk).trans k2
  | true =>
   simp [e90,hw]
   refine hn _ _ hlt (by simp) ⟨hk.trans k2,fun j d' hj hd' => ?_⟩
   rcases Nat.lt_or_ge j i with h2 | h2
   ·exact hall j d' h2 hd'
   ·obtain rfl:j = i:=by omega
    rw [hd] at hd'
    cases hd'
    exact hp
 have hge:i = nC:=by omega
 subst hge
 have hgo:p.codes.all (goodC p) = true:=List.all_eq_true.2 fun c hc => by
  obtain ⟨j,hj⟩:=List.mem_iff_getElem?.1 hc
  exact hall j c (by have:=(List.getElem?_eq_some_iff.1 hj).1; omega) hj
 have h00:checkM p = 0:=by rw [checkM,if_pos (by simp only [checkB,hcm,hcon,hnam,hgo]; rfl)]
 simp [e90,f89]
 refine he _ _ _ (by simp) ?_
 rw [h00]
 simp
 exact k1.trans hk
end Go.Proofs.YtkoekdfimpcofaaGreat
namespace Go.Proofs.YtkoekdfimpcofaaGreat
set_option maxRecDepth 4000
set_option maxRecDepth 8000
open Go.V
attribute [local simp] Nat.add_assoc
theorem Aus (l:List InsM):∀ y ∈ inss l,y.cells.length = 3 ∧ (if true then AV.agg y.cells = y else y.cells = [y]):=by
 intro y hy
 obtain ⟨x,_,rfl⟩:=List.mem_map.1 hy
 exact ⟨rfl,rfl⟩
theorem Atw (l:List (List UInt8)):∀ y ∈ strs l,y.cells.length = 1 ∧ (if false then AV.agg y.cells = y else y.cells = [y]):=by
 intro y hy
 obtain ⟨x,_,rfl⟩:=List.mem_map.1 hy
 simp
theorem Aw0 (l:List CoM):∀ y ∈ cods l,y.cells.length = 5 ∧ (if true then AV.agg y.cells = y else y.cells = [y]):=by
 intro y hy
 obtain ⟨x,_,rfl⟩:=List.mem_map.1 hy
 exact ⟨rfl,rfl⟩
@[simp] theorem A2p (l:List (List UInt8)) (m:Mem):fzvs m (strs l) = (strs l,m):=by
 induction l with
 | nil => rfl
 | cons x l ih =>
  have:fzv m (strS x) = (strS x,m):=rfl
  rw [strs,List.map_cons,fzvs,this,← strs]
  simp [ih]
@[simp] theorem A2w (l:List InsM) (m:Mem):fzvs m (inss l) = (inss l,m):=by
 induction l with
 | nil => rfl
 | cons x l ih =>
  rw [inss,List.map_cons,fzvs,Auu,← inss]
  simp [ih]
theorem c31 {m:Mem} (s:List (List UInt8)) (hb:s.length < 2 ^ 21):EH Tryz.prog cc (.func 33) [.lst (strs s)] m (.lst (strs s)) m:=by
 refine Ae1 rfl (by simp) ?_
 intro x0 l0 e0
 cases s with
 | nil => cases e0
 | cons x s =>
 refine ⟨(m.new [] false).new (flat (strs (x :: s))) false,.inr ⟨1,false,m.next + 1,m.clock + 2,eh_of ?_,by simp,by omega,by simp,rfl,Atw _,Aid _⟩⟩
 refine Aah Tryz.func33 rfl rfl (by simp [Tryz.f33]) (by simp [Tryz.f33]) fun Q hQ => ?_
 simp only [Tryz.f33,show cf0.keepRes 33 = true from rfl,show cf0.keepArgs 33 = true from rfl] at hQ ⊢
 have e1:nilTest Tryz.prog 32 (.lst (strs (x :: s))) (.emp 0) = some false:=Acq (T:=32) Tryz.underlying32
 have e2:=Acl (m:=m.new [] false) (m':=m.new [] false) (ys:=strs (x :: s)) (ys':=strs (x :: s)) (id:=m.next) (v:=m.clock + 1) (ag':=false) el32 (by simp [strs]) (Aid _) (by simp [fzx]) (by simp) (by simp at hb ⊢; omega)
 simp [abin,plain,e1,abuildSlice,zeros,fillAt,abuiltin,srcOf,elemsOf,e2]
 refine hQ _ _ _ ⟨.inr rfl,_,rfl,?_⟩
 simp [oneOf]
theorem c42 {m:Mem} (s:List InsM) (hb:s.length < 2 ^ 21):EH Tryz.prog cc (.func 44) [.lst (inss s)] m (.lst (inss s)) m:=by
 refine Ae1 rfl (by simp) ?_
 intro x0 l0 e0
 cases s with
 | nil => cases e0
 | cons x s =>
 refine ⟨(m.new [] false).new (flat (inss (x :: s))) false,.inr ⟨3,true,m.next + 1,m.clock + 2,eh_of ?_,by simp,by omega,by simp,rfl,Aus _,Aie _⟩⟩
 refine Aah Tryz.func44 rfl rfl (by simp [Tryz.f44]) (by simp [Tryz.f44]) fun Q hQ => ?_
 simp only [Tryz.f44,show cf0.keepRes 44 = true from rfl,show cf0.keepArgs 44 = true from rfl] at hQ ⊢
 have e1:nilTest Tryz.prog 76 (.lst (inss (x :: s))) (.emp 0) = some false:=Acq (T:=76) Tryz.underlying76
 have e2:=Acl (m:=m.new [] false) (m':=m.new [] false) (ys:=inss (x :: s)) (ys':=inss (x :: s)) (id:=m.next) (v:=m.clock + 1) (ag':=true) el76 (by simp [inss]) (Aie _) (by simp [fzx]) (by simp) (by simp at hb ⊢; omega)
 simp [abin,plain,e1,abuildSlice,zeros,fillAt,abuiltin,srcOf,elemsOf,e2]
 refine hQ _ _ _ ⟨.inr rfl,_,rfl,?_⟩
 simp [oneOf]
theorem Asm {m0 m:Mem} {k:Nat} {ag:Bool} {ys:List AV} {v:AV} (h:Acc m0 m k ag ys v) (ha:(ag || k == 1) = true) (hy:∀ y ∈ ys,y.cells.length = k ∧ (if ag then AV.agg y.cells = y else y.cells = [y])) (ho:okAll k ys = true):∃ m2,fz1 m v = (.lst ys,m2) ∧ KpC (owns v) m m2:=by
 have lv:Lv m0 m k ag ys v:=by
  rcases h with ⟨h1,h2⟩ | ⟨h,id,w,h1,h2,h3,h4⟩
  ·exact .inl ⟨0,by omega,h1,h2⟩
  ·exact .inr (.inr ⟨id,w,none,h1,h2,h3,h4⟩)
 exact lv.fz ha hy ho
theorem Arw (l:List Dat):∀ y ∈ encs l,y.cells.length = 6 ∧ (if true then AV.agg y.cells = y else y.cells = [y]):=by
 intro y hy
 rw [Ab4] at hy
 obtain ⟨x,_,rfl⟩:=List.mem_map.1 hy
 simp
theorem c21 (p:PrM) (hf:PrFit p) (hlen:∀ c ∈ p.codes,c.ins.length < 2 ^ 21) (hchk:∀ d ∈ p.consts,chk d = 0):Gives Tryz.prog cc 17 [prgA p] (prgA p):=by
 obtain ⟨nC,hC⟩:∃ n,n = p.codes.length:=⟨_,rfl⟩
 obtain ⟨nD,hD⟩:∃ n,n = p.consts.length:=⟨_,rfl⟩
 have l22:∀ (R:TypeId) (m:Mem),abuiltin Tryz.prog .len #[30] R [.lst (cods p.codes)] m = some (int nC,m):=by rw [hC]; exact len22 p.codes
 have l23:∀ (R:TypeId) (m:Mem),abuiltin Tryz.prog .len #[31] R [.lst (encs p.consts)] m = some (int nD,m):=by rw [hD]; exact len23 p.consts
 have hcn:=hf.codes.1
 have hdn:=hf.consts.1
 have q31:=fun m:Mem => c31 (m:=m) p.names hf.names.1
 refine Aae Tryz.func17 rfl rfl rfl rfl (by simp) (by simp [Tryz.f17]) (by simp [Tryz.f17]) fun m => ?_
 simp only [Tryz.f17,show cc.keepRes 17 = false from rfl]
 obtain ⟨M1,hM1⟩:∃ M1,M1 = (((m.new [.lst (cods p.codes),.lst (encs p.consts),.lst (strs p.names)] false).new [.emp 0,.emp 0,.emp 0] false).new [.emp 0,.emp 0,.emp 0] false).set (m.next + 2) [.emp 0,.emp 0,.lst (strs p.names)]:=⟨_,rfl⟩
 have k1:Kp m M1:=by rw [hM1]; simp
 have n1:M1.next = m.next + 3:=by rw [hM1]; simp
 have b1:M1.get m.next = some (.cells [.lst (cods p.codes),.lst (encs p.consts),.lst (strs p.names)] false (m.clock + 1)):=by rw [hM1]; simp
 have b2:M1.get (m.next + 1) = some (.cells [.emp 0,.emp 0,.emp 0] false (m.clock + 2)):=by rw [hM1]; simp
 have b3:M1.get (m.next + 2) = some (.cells [.emp 0,.emp 0,.lst (strs p.names)] false (m.clock + 4)):=by rw [hM1]; simp
 simp [(q31 _).go,l23,abuild,placesOf,fillAt]
 rw [← hM1]
 clear hM1
 refine Aas 15 nD (fun i s' m' => Kp m m' ∧ m.next + 3 ≤ m'.next ∧ m'.get m.next = some (.cells [.lst (cods p.codes),.lst (encs p.consts),.lst (strs p.names)] false (m.clock + 1)) ∧ m'.get (m.next + 1) = some (.cells [.emp 0,.emp 0,.emp 0] false (m.clock + 2)) ∧ ∃ v w,Acc M1 m' 6 true (encs (p.consts.take i)) v ∧ m'.get (m.next + 2) = some (.cells [.emp 0,v,.lst (strs p.names)] false w)) (by simp) (by omega) ⟨k1,by omega,b1,b2,.emp 0,_,.inl ⟨by simp [encs],rfl⟩,b3⟩ ?_
 rintro i s' m' hi e15 ⟨hk,hn3,g1,g2,v,w,hacc,g3⟩ hsame hw Q' hn he
 have e1:s'.at 1 = .ptr m.next 0:=(hsame 1 (by kernel_rfl)).trans (by simp)
 have e2:s'.at 2 = .ptr (m.next + 1) 0:=(hsame 2 (by kernel_rfl)).trans (by simp)
 have e3:s'.at 3 = .ptr (m.next + 2) 0:=(hsame 3 (by kernel_rfl)).trans (by simp)
 have e13:s'.at 13 = .lst (encs p.consts):=(hsame 13 (by kernel_rfl)).trans (by simp)
 have e14:s'.at 14 = int nD:=(hsame 14 (by kernel_rfl)).trans (by simp)
 clear hsame
 have vlt:=Ad5 hacc
 by_cases hlt:i < nD
 ·obtain ⟨d,hd⟩:∃ d,p.consts[i]? = some d:=⟨_,List.getElem?_eq_getElem (by omega)⟩
  have hdm:=List.mem_of_getElem? hd
  have q41:=Ajw (g33 d (hf.consts.2 d hdm))
  rw [cln,if_pos (hchk d hdm)] at q41
  obtain ⟨M2,hM2⟩:∃ M2,M2 = (m'.new zeroCells false).set m'.next (enc d).cells:=⟨_,rfl⟩
  have k2:Kp m' M2:=by rw [hM2]; simp
  have n2:M2.next = m'.next + 1:=by rw [hM2]; simp
  have g2d:M2.get m'.next = some (.cells (enc d).cells false (m'.clock + 2)):=by rw [hM2]; simp
  have g23:=(k2.get (m.next + 2) (by omega)).trans g3
  obtain ⟨M3,hM3⟩:∃ M3,M3 = M2.new (enc d).cells false:=⟨_,rfl⟩
  have k3:Kp M2 M3:=by rw [hM3]; simp
  have n3:M3.next = m'.next + 2:=by rw [hM3]; simp [n2]
  have g33':=(k3.get (m.next + 2) (by omega)).trans g23
  have hsrc:srcOf M3 (.sl M2.next 0 1 6 true (some 1)) = some [enc d]:=by rw [hM3]; exact Ad8 (w:=M2.clock + 1) (f:=false) rfl (by simp) (by simp) (by simp)
  obtain ⟨v',m4,p1,p2,p3,p4⟩:=Ana (T:=31) (zs:=[enc d]) ((hacc.kp k2).kp k3) (by omega) (Acy _) el31 (by simp [Aak,Abu]) (by simp [fzvs]) (by simp; omega)
  have n4:=p3.next
  have nv:∀ j,j < M1.next → ¬ owns v j:=fun j hj h => by have:=vlt j h; omega
  have g43:=(p3.get (m.next + 2) (by omega) (nv _ (by omega))).trans g33'
  simp [e15,e14,hlt,e13,Ajs hd]
  rw [← hM2]
  refine Aaq (by kernel_rfl) ?_
  simp [e3,g23,g2d,q41.go,abuildSlice,fillAt,zeros,abuiltin]
  rw [← hM3,hsrc]
  obtain ⟨o1,o2⟩:=p2.okc
  simp [p1,e3,g43,o1,o2]
  have ge23:=k3.get (m.next + 2) (by omega)
  refine Aa2 (l:=[(1,3),(1,4)]) (by kernel_rfl) (?_:List.all _ _ = true) ?_
  ·simp [metAtD,metOkD,rank,verKeptD,Region.wanted,Mem.ver,g23,g33',ge23]
  simp [e15,hw]
  have nv':∀ j,j < M1.next → ¬ owns v' j:=fun j hj h => by
   have:=(Ad5 p2 j h).1
   omega
  have hk4:Kp m m4:=Afy p3 ((hk.trans k2).trans k3) fun j h => by have:=vlt j h; omega
  refine hn _ _ hlt (by simp) ⟨hk4.set (by omega) _,by simp; omega,?_,?_,v',m4.clock + 1,?_,by simp⟩
  ·have a:m.next ≠ m.next + 2:=by omega
   simp
   rw [p3.get m.next (by omega) (nv _ (by omega)),k3.get m.next (by omega),k2.get m.next (by omega)]
   exact g1
  ·simp
   rw [p3.get (m.next + 1) (by omega) (nv _ (by omega)),k3.get (m.next + 1) (by omega),k2.get (m.next + 1) (by omega)]
   exact g2
  ·have htk:encs (p.consts.take (i + 1)) = encs (p.consts.take i) ++ [enc d]:=by
    obtain ⟨h1,h2⟩:=List.getElem?_eq_some_iff.1 hd
    rw [List.take_succ_eq_append_getElem h1,h2,Ab4,Ab4]
    simp
   rw [htk]
   exact Abk p2 (Aao (m.next + 2) _ m4) fun j h e => by
    have e:j = m.next + 2:=e
    exact nv' j (by omega) h
 have hge:i = nD:=by omega
 subst hge
 have htk:p.consts.take i = p.consts:=List.take_of_length_le (by omega)
 rw [htk] at hacc
 simp [e15,e14]
 refine he _ _ _ (by simp) ?_
 clear he hn
 simp [e1,g1,l22]
 obtain ⟨M5,hM5⟩:∃ M5,M5 = m':=⟨_,rfl⟩
 have hM5n:M5.next = m'.next:=by rw [hM5]
 refine Aas 30 nC (fun i s' m' => Kp m m' ∧ M5.next ≤ m'.next ∧ m'.get m.next = some (.cells [.lst (cods p.codes),.lst (encs p.consts),.lst (strs p.names)] false (m.clock + 1)) ∧ m'.get (m.next + 1) = some (.cells [.emp 0,.emp 0,.emp 0] false (m.clock + 2)) ∧ Acc M1 m' 6 true (encs p.consts) v ∧ ∃ u w,Acc M5 m' 5 true (cods (p.codes.take i)) u ∧ m'.get (m.next + 2) = some (.cells [u,v,.lst (strs p.names)] false w)) (by simp) (by omega) ⟨hk,by omega,g1,g2,hacc,.emp 0,w,.inl ⟨by simp [cods],rfl⟩,g3⟩ ?_
 have n5:m.next + 3 ≤ M5.next:=by omega
 have vlt5:∀ j,owns v j → M1.next ≤ j ∧ j < M5.next:=fun j h => by have:=vlt j h; omega
 clear hM5 hk g1 g2 hacc g3 e13 e14 e15 hw vlt hn3 hi hlt
 rintro i s2 m' hi e30 ⟨hk,hn3,g1,g2,hacc,u,w,hacu,g3⟩ hsame hw Q' hn he
 have f1:s2.at 1 = .ptr m.next 0:=(hsame 1 (by kernel_rfl)).trans (by simp [e1])
 have f2:s2.at 2 = .ptr (m.next + 1) 0:=(hsame 2 (by kernel_rfl)).trans (by simp [e2])
 have f3:s2.at 3 = .ptr (m.next + 2) 0:=(hsame 3 (by kernel_rfl)).trans (by simp [e3])
 have f28:s2.at 28 = .lst (cods p.codes):=(hsame 28 (by kernel_rfl)).trans (by simp)
 have f29:s2.at 29 = int nC:=(hsame 29 (by kernel_rfl)).trans (by simp)
 clear hsame
 have ult:=Ad5 hacu
 by_cases hlt:i < nC
 ·obtain ⟨d,hd⟩:∃ d,p.codes[i]? = some d:=⟨_,List.getElem?_eq_getElem (by omega)⟩
  have hdm:=List.mem_of_getElem? hd
  have q42:=fun m:Mem => c42 (m:=m) d.ins (hlen d hdm)
  obtain ⟨M2,hM2⟩:∃ M2,M2 = (m'.new [int 0,int 0,int 0,int 0,.emp 0] false).set m'.next [int d.params,int d.rest,int d.caps,int d.max,.lst (inss d.ins)]:=⟨_,rfl⟩
  have k2:Kp m' M2:=by rw [hM2]; simp
  have n2:M2.next = m'.next + 1:=by rw [hM2]; simp
  have g2d:M2.get m'.next = some (.cells [int d.params,int d.rest,int d.caps,int d.max,.lst (inss d.ins)] false (m'.clock + 2)):=by rw [hM2]; simp
  obtain ⟨M2b,hM2b⟩:∃ M2b,M2b = M2.set m'.next [int d.params,int d.rest,int d.caps,int d.max,.lst (inss d.ins)]:=⟨_,rfl⟩
  have k2b:Kp m' M2b:=by rw [hM2b]; exact k2.set (Nat.le_refl _) _
  have n2b:M2b.next = m'.next + 1:=by rw [hM2b]; simp [n2]
  have g2db:M2b.get m'.next = some (.cells [int d.params,int d.rest,int d.caps,int d.max,.lst (inss d.ins)] false (M2.clock + 1)):=by rw [hM2b]; simp
  have g23:=(k2b.get (m.next + 2) (by omega)).trans g3
  obtain ⟨M3,hM3⟩:∃ M3,M3 = M2b.new (codA d).cells false:=⟨_,rfl⟩
  have k3:Kp M2b M3:=by rw [hM3]; simp
  have n3:M3.next = m'.next + 2:=by rw [hM3]; simp [n2b]
  have g33':=(k3.get (m.next + 2) (by omega)).trans g23
  have hsrc:srcOf M3 (.sl M2b.next 0 1 5 true (some 1)) = some [codA d]:=by rw [hM3]; exact Ad8 (w:=M2b.clock + 1) (f:=false) rfl (by simp) (by simp) (by simp [codA])
  obtain ⟨v',m4,p1,p2,p3,p4⟩:=Ana (T:=30) (zs:=[codA d]) ((hacu.kp k2b).kp k3) (by omega) (Aif _) el30 (by simp [Aak,Abu]) (by simp [fzvs]) (by simp; omega)
  have n4:=p3.next
  have nu:∀ j,j < M5.next → ¬ owns u j:=fun j hj h => by have:=ult j h; omega
  have g43:=(p3.get (m.next + 2) (by omega) (nu _ (by omega))).trans g33'
  obtain ⟨o1,o2⟩:=p2.okc
  simp [e30,f29,hlt,f28,Afo hd]
  rw [← hM2]
  simp [g2d,(q42 _).go]
  rw [← hM2b]
  simp [f3,g23,g2db,abuildSlice,fillAt,zeros,abuiltin,An3]
  rw [Ape] at hM3
  rw [← hM3,hsrc]
  simp [p1,f3,g43,o1,o2,e30,hw]
  have nu':∀ j,j < M5.next → ¬ owns v' j:=fun j hj h => by
   have:=(Ad5 p2 j h).1
   omega
  have hk4:Kp m m4:=Afy p3 ((hk.trans k2b).trans k3) fun j h => by have:=ult j h; omega
  have hset:=Aao (m.next + 2) [v',v,.lst (strs p.names)] m4
  refine hn _ _ hlt (by simp) ⟨hk4.set (by omega) _,by simp; omega,?_,?_,?_,v',m4.clock + 1,?_,by simp⟩
  ·have a:m.next ≠ m.next + 2:=by omega
   simp
   rw [p3.get m.next (by omega) (nu _ (by omega)),k3.get m.next (by omega),k2b.get m.next (by omega)]
   exact g1
  ·simp
   rw [p3.get (m.next + 1) (by omega) (nu _ (by omega)),k3.get (m.next + 1) (by omega),k2b.get (m.next + 1) (by omega)]
   exact g2
  ·exact Abk (Abk ((hacc.kp k2b).kp k3) p3 fun j h h' => by have:=vlt5 j h; have:=ult j h'; omega) hset fun j h e => by
    have e:j = m.next + 2:=e
    have:=vlt5 j h
    omega
  ·have htk:cods (p.codes.take (i + 1)) = cods (p.codes.take i) ++ [codA d]:=by
    obtain ⟨h1,h2⟩:=List.getElem?_eq_some_iff.1 hd
    rw [List.take_succ_eq_append_getElem h1,h2]
    simp [cods]
   rw [htk]
   exact Abk p2 hset fun j h e => by
    have e:j = m.next + 2:=e
    exact nu' j (by omega) h
 have hge:i = nC:=by omega
 subst hge
 have htk:p.codes.take i = p.codes:=List.take_of_length_le (by omega)
 rw [htk] at hacu
 simp [e30,f29]
 refine he _ _ _ (by simp) ?_
 obtain ⟨o1,o2⟩:=hacc.okc
 obtain ⟨o3,o4⟩:=hacu.okc
 simp [f3,g3,f2,g2,o1,o2,o3,o4]
 have hset:=Aao (m.next + 1) [u,v,.lst (strs p.names)] m'
 have kset:Kp m (m'.set (m.next + 1) [u,v,.lst (strs p.names)]):=hk.set (by omega) _
 have hacu':=Abk hacu hset fun j h e => by
  have e:j = m.next + 1:=e
  have:=ult j h
  omega
 have hacc':=Abk hacc hset fun j h e => by
  have e:j = m.next + 1:=e
  have:=vlt5 j h
  omega
 obtain ⟨m7,z1,z2⟩:=Asm hacu' rfl (Aw0 _) (Aif _)
 have hacc7:=Abk hacc' z2 fun j h h' => by have:=vlt5 j h; have:=ult j h'; omega
 obtain ⟨m8,z3,z4⟩:=Asm hacc7 rfl (Arw _) (Acy _)
 rw [z1]
 simp only
 rw [z3]
 exact ⟨rfl,Afy z4 (Afy z2 kset fun j h => by have:=ult j h; omega) fun j h => by have:=vlt5 j h; omega⟩
def cv1 (s:ArM × List Val × Int) (d:Dat):ArM × List Val × Int:=if s.2.2 ≠ 0 then s else if (ofM d s.1).2.2 ≠ 0 then ((ofM d s.1).1,s.2.1,(ofM d s.1).2.2) else ((ofM d s.1).1,s.2.1 ++ [(ofM d s.1).2.1],0)
def cvM (l:List Dat) (a:ArM):ArM × List Val × Int:=l.foldl cv1 (a,[],0)
theorem Awy (l:List Dat) (d:Dat) (a:ArM):cvM (l ++ [d]) a = cv1 (cvM l a) d:=by simp [cvM]
theorem Ajt:∀ (l:List Dat) (s:ArM × List Val × Int),s.2.2 ≠ 0 → l.foldl cv1 s = s
 | [],s,_ => rfl
 | d :: l,s,h => by rw [List.foldl_cons,cv1,if_pos h]; exact Ajt l s h
theorem Awx {l r:List Dat} {a:ArM} (h:(cvM l a).2.2 ≠ 0):cvM (l ++ r) a = cvM l a:=by
 unfold cvM at *
 rw [List.foldl_append]
 exact Ajt r _ h
theorem Amw:∀ (l:List Dat) (s:ArM × List Val × Int),(l.foldl cv1 s).2.2 = 0 → (l.foldl cv1 s).2.1.length = s.2.1.length + l.length
 | [],s,_ => rfl
 | d :: l,s,h => by
  rw [List.foldl_cons] at h ⊢
  by_cases h0:s.2.2 ≠ 0
  ·rw [cv1,if_pos h0,Ajt l s h0] at h
   exact absurd h h0
  by_cases h1:(ofM d s.1).2.2 ≠ 0
  ·rw [cv1,if_neg h0,if_pos h1,Ajt l _ h1] at h
   exact absurd h h1
  ·rw [Amw l _ h,cv1,if_neg h0,if_neg h1]
   simp
   omega
theorem Aq0 {cs:List CoM}:∀ (l:List Dat) (s:ArM × List Val × Int),Nice cs s.1 → NoPrim s.2.1 → Nice cs (l.foldl cv1 s).1 ∧ NoPrim (l.foldl cv1 s).2.1
 | [],s,h,k => ⟨h,k⟩
 | d :: l,s,h,k => by
  rw [List.foldl_cons]
  obtain ⟨n1,n2⟩:=Ay2 h d
  refine Aq0 l _ ?_ ?_
  ·unfold cv1
   split
   ·exact h
   split <;> exact n1
  ·unfold cv1
   split
   ·exact k
   split
   ·exact k
   ·exact k.app (.one n2)
structure PrB (t:Ro) (P A:Nat) (pr:PrM) (cv:List Val) (a:ArM) (m:Mem):Prop where
 bd:∀ j,t j ≠ none → j < m.next
 tP:t P = some 1
 pg:∃ cx,has m P (pgC A pr cx) ∧ StA t 2 m cx cv
 ar:ArR t A a m
theorem Am4 {t:Ro} {A:Nat} {a':ArM} {m m':Mem} (bd:∀ j,t j ≠ none → j < m.next) (u:Up (fun j => t j = some 3) A a' m m'):∃ t',ArR t' A a' m' ∧ Chg (· = 3) t t' m m':=by
 obtain ⟨X',h1,h2,h3⟩:=u
 obtain ⟨tt,M,cs,ns,xs,g1,g2⟩:=id h1
 have c:Chg (· = 3) t (fun j => if tt j ≠ none then some 3 else if t j = some 3 then none else t j) m m':=by
  refine ⟨h2.mono fun j hj => ⟨3,hj,rfl⟩,fun j r hr => ?_,fun j r q hr => ?_,fun j hj => ?_⟩
  ·have hr:r ≠ 3:=hr
   constructor
   ·intro q
    split at q
    ·cases q; exact absurd rfl hr
    ·split at q
     ·cases q
     ·exact q
   ·intro q
    split
    ·rename_i e
     have e2:=g2 j e
     rcases h3 j e2.1 with x | x
     ·rw [q] at x; cases x; exact absurd rfl hr
     ·have:=bd j (by rw [q]; simp); omega
    ·rw [if_neg (by rw [q]; simp; exact hr)]; exact q
  ·have hr:r = 3:=hr
   subst hr
   split at q
   ·rename_i e
    rcases h3 j (g2 j e).1 with x | x
    ·exact .inl ⟨3,x,rfl⟩
    ·exact .inr x
   ·split at q
    ·cases q
    ·rename_i e; exact absurd q e
  ·split at hj
   ·rename_i e; exact (g2 j e).2
   ·split at hj
    ·exact absurd rfl hj
    ·exact Nat.lt_of_lt_of_le (bd j hj) h2.next
 refine ⟨_,⟨tt,M,cs,ns,xs,g1,fun j hj => ⟨?_,(g2 j hj).2⟩⟩,c⟩
 show (if tt j ≠ none then some 3 else _) = some 3
 rw [if_pos hj]
theorem An5 {p:PrM} (h:checkM p = 0):(∀ d ∈ p.consts,chk d = 0) ∧ (∀ c ∈ p.codes,c.ins.length < 2 ^ 21) ∧ (∀ c ∈ p.codes,goodC p c = true) ∧ countsM p = true:=by
 have hb:checkB p = true:=by
  unfold checkM at h
  split at h
  ·rename_i q; exact q
  ·cases h
 simp only [checkB,Bool.and_eq_true,List.all_eq_true] at hb
 obtain ⟨h1,h2,h3,h4⟩:=hb
 refine ⟨fun d hd => ?_,fun c hc => ?_,h4,h1⟩
 ·obtain ⟨j,hj⟩:=List.mem_iff_getElem?.1 hd
  have:=(Ado p.consts 0).1 h2 j d hj
  simp only [constM,Bool.and_eq_true,plainM,decide_eq_true_eq] at this
  exact this.1.1
 ·have:=h4 c hc
  simp only [goodC,Bool.and_eq_true,decide_eq_true_eq] at this
  have:=this.1.1.2
  omega
theorem Alb {p:PrM} (h:countsM p = true):p.codes.length ≤ 1024 ∧ p.consts.length ≤ 1024 ∧ 1 ≤ p.codes.length ∧ ∀ c,p.codes[0]? = some c → c.params = 0 ∧ c.caps = 0:=by
 cases hc:p.codes with
 | nil => simp [countsM,hc] at h
 | cons c cs =>
  have h0:p.codes[0]? = some c:=by rw [hc]; rfl
  obtain ⟨a,b,_,d,e⟩:=(Aio h0).1 h
  rw [hc] at a
  refine ⟨a,b,by simp,fun c' hc' => ?_⟩
  have:c = c':=by simpa using hc'
  rw [← this]
  exact ⟨d,e⟩
section
variable {t:Ro} {P A:Nat} {pr:PrM} {a:ArM} {m:Mem}
theorem w7 (har:ArR t A a m) (bd:∀ j,t j ≠ none → j < m.next) (hsm:Small a) (hf:PrFit pr):wph Tryz.prog ca (.func 5) [.ptr A 0,prgA pr] m fun v m' => ∃ t',Chg (fun r => r = 1 ∨ r = 2 ∨ r = 3) t t' m m' ∧
  (if checkM pr ≠ 0 then v = .tup [nilA,int (checkM pr)] else if (cvM pr.consts a).2.2 ≠ 0 then v = .tup [nilA,int (cvM pr.consts a).2.2]
  else ∃ P,v = .tup [.ptr P 0,int 0] ∧ PrB t' P A pr (cvM pr.consts a).2.1 (cvM pr.consts a).1 m'):=by
 obtain ⟨M1,hM1⟩:∃ M1,M1 = m.new [.lst (cods pr.codes),.lst (encs pr.consts),.lst (strs pr.names)] false:=⟨_,rfl⟩
 have k1:Kp m M1:=by rw [hM1]; simp
 have n1:M1.next = m.next + 1:=by rw [hM1]; simp
 have b0:M1.get m.next = some (.cells [.lst (cods pr.codes),.lst (encs pr.consts),.lst (strs pr.names)] false (m.clock + 1)):=by rw [hM1]; simp
 have c1:Chg (fun _ => False) t t m M1:=Chg.refl bd k1
 have har1:=har.keep c1.kt (by simp)
 have q20:=Alf (c20 pr hf)
 have l23:=len23 pr.consts
 obtain ⟨nD,hD⟩:∃ n,n = pr.consts.length:=⟨_,rfl⟩
 rw [← hD] at l23
 refine Aah Tryz.func5 rfl rfl (by simp [Tryz.f5]) (by simp [Tryz.f5]) fun Q hQ => ?_
 simp only [Tryz.f5,show ca.keepRes 5 = false from rfl,show ca.keepArgs 5 = false from rfl] at hQ ⊢
 simp
 rw [← hM1]
 clear hM1
 refine Aad (q37 har1 hsm) ?_
 rintro _ m2 ⟨⟨i,rfl⟩,k2⟩
 have b02:=(k2.get m.next (by omega)).trans b0
 have c2:Chg (fun _ => False) t t m m2:=c1.trans (Chg.refl c1.bd k2)
 have har2:=har.keep c2.kt (by simp)
 simp [Ahc,b02,Ai7,q20.go]
 by_cases hchk:checkM pr = 0
 rotate_left
 ·simp [hchk]
  refine hQ _ _ _ ?_
  rw [Adw]
  refine ⟨t,?_,?_⟩
  ·simp [Adk,fzvs]
   exact c2.mono fun _ e => e.elim
  ·rw [if_pos hchk]
   simp [Adk,fzvs]
 obtain ⟨ok1,ok2,ok3,ok4⟩:=An5 hchk
 have qC:=Alf (c21 pr hf ok2 ok1)
 simp only [hchk,ne_eq,not_true_eq_false,if_false] at hQ
 have n02:m.next ≠ m2.next:=by have:=k2.next; omega
 simp [hchk,(qC m2 [prgA pr] m2 (by simp [fzvs])).go,b02,Ai7,abuild,placesOf,fillAt,n02,l23]
 obtain ⟨P,hP⟩:∃ P,P = m2.next:=⟨_,rfl⟩
 obtain ⟨M3,hM3⟩:∃ M3,M3 = m2.new [.ptr A 0,.lst (cods pr.codes),.lst (encs pr.consts),.lst (strs pr.names),.emp 0,.emp 0] false:=⟨_,rfl⟩
 have k3:Kp m2 M3:=by rw [hM3]; simp
 have n3:M3.next = m2.next + 1:=by rw [hM3]; simp
 have g3:M3.get P = some (.cells [.ptr A 0,.lst (cods pr.codes),.lst (encs pr.consts),.lst (strs pr.names),.emp 0,.emp 0] false (m2.clock + 1)):=by rw [hM3,hP]; simp
 have b03:=(k3.get m.next (by have:=k2.next; omega)).trans b02
 rw [← hM3,← hP]
 clear hM3
 have c3:Chg (· = 1) t (upd t P 1) m2 M3:=Chg.upd (R:=(· = 1)) c2.bd (.of (.of k3)) rfl (by omega) (by omega)
 have har3:=har2.keep c3.kt (by simp)
 have call3:Chg (fun r => r = 1 ∨ r = 2 ∨ r = 3) t (upd t P 1) m M3:=(c2.mono fun _ e => e.elim).trans (c3.mono fun _ e => .inl e)
 refine Aas 28 nD (fun i s' m' => ∃ t',(cvM (pr.consts.take i) a).2.2 = 0 ∧ PrB t' P A pr (cvM (pr.consts.take i) a).2.1 (cvM (pr.consts.take i) a).1 m' ∧ Chg (fun r => r = 1 ∨ r = 2 ∨ r = 3) t t' m m' ∧ m.next < m'.next) (by simp) (by have:=hf.consts.1; omega) ⟨upd t P 1,rfl,⟨c3.bd,Ab9 _ _ _,⟨.emp 0,⟨by omega,_,g3⟩,.inl ⟨rfl,.inl rfl⟩⟩,har3⟩,call3,by have:=k2.next; omega⟩ ?_
 rintro i s' m' hi e28 ⟨t',hz,hpb,hc,hlt'⟩ hsame hw Q' hn he
 have e0:s'.at 0 = .ptr A 0:=(hsame 0 (by kernel_rfl)).trans (by simp)
 have e7:s'.at 7 = .ptr P 0:=(hsame 7 (by kernel_rfl)).trans (by simp)
 have e26:s'.at 26 = .lst (encs pr.consts):=(hsame 26 (by kernel_rfl)).trans (by simp)
 have e27:s'.at 27 = int nD:=(hsame 27 (by kernel_rfl)).trans (by simp)
 clear hsame
 by_cases hlt:i < nD
 rotate_left
 ·have hge:i = nD:=by omega
  subst hge
  have htk:pr.consts.take i = pr.consts:=List.take_of_length_le (by omega)
  rw [htk] at hz hpb
  simp [e28,e27]
  refine he _ _ _ (by simp) ?_
  simp [e7]
  refine hQ _ _ _ ?_
  rw [Adw]
  refine ⟨t',by simpa [Adk,fzvs] using hc,?_⟩
  rw [if_neg (by simp [hz])]
  exact ⟨P,by simp [Adk,fzvs],by simpa [Adk,fzvs] using hpb⟩
 obtain ⟨d,hd⟩:∃ d,pr.consts[i]? = some d:=⟨_,List.getElem?_eq_getElem (by omega)⟩
 have hdf:=hf.consts.2 d (List.mem_of_getElem? hd)
 obtain ⟨M4,hM4⟩:∃ M4,M4 = (m'.new zeroCells false).set m'.next (enc d).cells:=⟨_,rfl⟩
 have k4:Kp m' M4:=by rw [hM4]; simp
 have n4:M4.next = m'.next + 1:=by rw [hM4]; simp
 have g4:M4.get m'.next = some (.cells (enc d).cells false (m'.clock + 2)):=by rw [hM4]; simp
 have c4:Chg (fun _ => False) t' t' m' M4:=Chg.refl hpb.bd k4
 have har4:=hpb.ar.keep c4.kt (by simp)
 have hsnoc:cvM (pr.consts.take (i + 1)) a = cv1 (cvM (pr.consts.take i) a) d:=by
  obtain ⟨h1,h2⟩:=List.getElem?_eq_some_iff.1 hd
  rw [List.take_succ_eq_append_getElem h1,h2,Awy]
 obtain ⟨ai,hai⟩:∃ ai,ai = (cvM (pr.consts.take i) a).1:=⟨_,rfl⟩
 obtain ⟨cvi,hcvi⟩:∃ cvi,cvi = (cvM (pr.consts.take i) a).2.1:=⟨_,rfl⟩
 rw [← hai] at har4 hpb
 rw [← hcvi] at hpb
 simp [e28,e27,hlt,e26,Arz hd]
 rw [← hM4]
 clear hM4
 simp [e0,g4]
 refine Aad (q21 har4 d hdf) ?_
 rintro _ m5 ⟨rfl,hup⟩
 obtain ⟨t5,har5,c5⟩:=Am4 c4.bd hup
 have n5:=c5.kc.next
 obtain ⟨cx,hPh,hcx⟩:=hpb.pg
 have hPh5:has m5 P (pgC A pr cx):=c5.kt.has hpb.tP (by simp) (c4.kt.has hpb.tP (by simp) hPh)
 have hcx5:=(hcx.keep c4.kt (by simp)).keep c5.kt (by simp)
 have tP5:t5 P = some 1:=(c5.same P 1 (by simp)).2 hpb.tP
 have call5:Chg (fun r => r = 1 ∨ r = 2 ∨ r = 3) t t5 m m5:=hc.trans ((c4.mono fun _ e => e.elim).trans (c5.mono fun _ e => .inr (.inr e)))
 obtain ⟨r,hr⟩:∃ r,r = ofM d ai:=⟨_,rfl⟩
 rw [← hr] at har5 ⊢
 obtain ⟨M6,hM6⟩:∃ M6,M6 = (m5.new [int 0,int 0] false).set m5.next [int r.2.1.1,int r.2.1.2]:=⟨_,rfl⟩
 have k6:Kp m5 M6:=by rw [hM6]; simp
 have n6:M6.next = m5.next + 1:=by rw [hM6]; simp
 have g6:M6.get m5.next = some (.cells [int r.2.1.1,int r.2.1.2] false (m5.clock + 2)):=by rw [hM6]; simp
 have c6:Chg (fun _ => False) t5 t5 m5 M6:=Chg.refl c5.bd k6
 by_cases he0:r.2.2 = 0
 rotate_left
 ·simp [he0]
  rw [← hM6]
  refine he _ _ _ (by simp) ?_
  simp
  refine hQ _ _ _ ?_
  rw [Adw]
  have hst:cvM (pr.consts.take (i + 1)) a = (r.1,cvi,r.2.2):=by
   rw [hsnoc,cv1,if_neg (by simp [hz]),← hai,← hr,if_pos he0,← hcvi]
  have hall:cvM pr.consts a = (r.1,cvi,r.2.2):=by
   have:=Awx (l:=pr.consts.take (i + 1)) (r:=pr.consts.drop (i + 1)) (a:=a) (by rw [hst]; exact he0)
   rw [List.take_append_drop,hst] at this
   exact this
  refine ⟨t5,by simpa [Adk,fzvs] using call5.trans (c6.mono fun _ e => e.elim),?_⟩
  rw [hall,if_pos he0]
  simp [Adk,fzvs]
 ·obtain ⟨M7,hM7⟩:∃ M7,M7 = M6.new [int r.2.1.1,int r.2.1.2] false:=⟨_,rfl⟩
  have k7:Kp M6 M7:=by rw [hM7]; simp
  have hsrc:srcOf M7 (.sl M6.next 0 1 2 true (some 1)) = some [valA r.2.1]:=by rw [hM7]; exact Ai4
  have c7:Chg (fun _ => False) t5 t5 M6 M7:=Chg.refl c6.bd k7
  have hlen:cvi.length ≤ 4096:=by
   rw [hcvi]
   have h1:=Amw (pr.consts.take i) (a,[],0) hz
   have h2:(cvM (pr.consts.take i) a).2.1.length = 0 + (pr.consts.take i).length:=h1
   rw [h2]
   have:=(Alb ok4).2.1
   simp
   omega
  obtain ⟨cx',m8,t8,p1,p2,p3⟩:=((hcx5.keep c6.kt (by simp)).keep c7.kt (by simp)).put c7.bd hlen r.2.1
  have hP6:=c6.kt.has tP5 (by simp) hPh5
  have hP7:=c7.kt.has tP5 (by simp) hP6
  have hP8:=p3.kt.has tP5 (by simp) hP7
  obtain ⟨_,wP6,gP6⟩:=hP6
  obtain ⟨_,wP7,gP7⟩:=hP7
  obtain ⟨hPl8,wP8,gP8⟩:=hP8
  obtain ⟨o1,o2⟩:=p2.okc
  simp only [pgC] at gP6 gP7 gP8
  simp [he0]
  rw [← hM6]
  refine Aaq (by kernel_rfl) ?_
  simp [e7,gP6,g6,abuildSlice,fillAt,zeros,abuiltin,Aab]
  rw [← hM7,hsrc]
  simp [p1,e7,gP8,o1,o2]
  have gk:=k7.get P (by omega)
  refine Aa2 (l:=[(4,6)]) (by kernel_rfl) (?_:List.all _ _ = true) ?_
  ·simp [metAtD,metOkD,rank,verKeptD,Region.wanted,Mem.ver,gP6,gk]
  simp [e28,hw]
  have hst:cvM (pr.consts.take (i + 1)) a = (r.1,cvi ++ [r.2.1],0):=by
   rw [hsnoc,cv1,if_neg (by simp [hz]),← hai,← hr,if_neg (by simp [he0]),← hcvi]
  have tP8:t8 P = some 1:=(p3.same P 1 (by simp)).2 tP5
  have cset:Chg (· = 1) t8 t8 m8 (m8.set P (pgC A pr cx')):=Chg.set (R:=(· = 1)) p3.bd tP8 rfl _
  refine hn _ _ hlt (by simp) ⟨t8,by rw [hst],?_,?_,?_⟩
  ·rw [hst]
   exact ⟨cset.bd,tP8,⟨cx',⟨by simpa using hPl8,m8.clock + 1,by simp [pgC]⟩,p2.keep cset.kt (by simp)⟩,(((har5.keep c6.kt (by simp)).keep c7.kt (by simp)).keep p3.kt (by simp)).keep cset.kt (by simp)⟩
  ·exact call5.trans ((c6.mono fun _ e => e.elim).trans ((c7.mono fun _ e => e.elim).trans ((p3.mono fun _ e => .inr (.inl e)).trans (cset.mono fun _ e => .inl e))))
  ·have:=k7.next
   have:=p3.kc.next
   simp
   omega
end
def s0 (a:ArM):MaM:=⟨a,[⟨0,0,[],[],[]⟩],1,0,0,(0,0)⟩
def pg0 (pr:PrM) (cv:List Val):PgM:=⟨pr.codes,cv,pr.names.length⟩
section
variable {t:Ro} {P A:Nat} {pr:PrM} {cv:List Val} {a:ArM} {m:Mem}
theorem w23 (h:PrB t P A pr cv a m):EH Tryz.prog ca (.func 21) [.ptr P 0] m (.sc (.bool false)) m:=by
 obtain ⟨cx,⟨hP,w,g⟩,_⟩:=h.pg
 refine Aaw Tryz.func21 rfl rfl rfl rfl (args1:=[.ptr P 0]) (m1:=m) (by simp) (by simp) (by simp [Tryz.f21]) (by simp [Tryz.f21]) ?_
 simp [Tryz.f21,show ca.keepRes 21 = false from rfl,ptr34,g,pgC,Ahc]
theorem w8 (h:PrB t P A pr cv a m):wph Tryz.prog ca (.func 8) [.ptr P 0] m fun v m' => ∃ T F t' q,v = .ptr T 0 ∧ TkA t' T P A pr (pg0 pr cv) (s0 a) (.ptr F 0) q m' ∧ ChA t' m' (s0 a).frames (.ptr F 0) ∧ Chg RM t t' m m':=by
 have q23:=w23 h
 obtain ⟨M1,hM1⟩:∃ M1,M1 = m.new (frC ⟨0,0,[],[],[]⟩ 0 (.emp 0) (.emp 0) (.emp 0) nilA) false:=⟨_,rfl⟩
 have k1:Kp m M1:=by rw [hM1]; simp
 have n1:M1.next = m.next + 1:=by rw [hM1]; simp
 obtain ⟨M2,hM2⟩:∃ M2,M2 = M1.new (tkC P (s0 a) (.ptr m.next 0) ⟨[],0,.emp 0,0,(0,0)⟩) false:=⟨_,rfl⟩
 have k2:Kp M1 M2:=by rw [hM2]; simp
 have n2:M2.next = m.next + 2:=by rw [hM2]; simp [n1]
 have c1:Chg (· = roF 0) t (upd t m.next (roF 0)) m M1:=Chg.upd (R:=(· = roF 0)) h.bd (.of (.of k1)) rfl (Nat.le_refl _) (by omega)
 have c2:Chg (· = 0) (upd t m.next (roF 0)) (upd (upd t m.next (roF 0)) M1.next 0) M1 M2:=Chg.upd (R:=(· = 0)) c1.bd (.of (.of k2)) rfl (Nat.le_refl _) (by omega)
 have nr:roF 0 = 10:=rfl
 have nP:roP 0 = 11:=rfl
 have nS:roS 0 = 12:=rfl
 refine Aah Tryz.func8 rfl rfl (by simp [Tryz.f8]) (by simp [Tryz.f8]) fun Q hQ => ?_
 simp only [Tryz.f8,show ca.keepRes 8 = false from rfl,show ca.keepArgs 8 = false from rfl] at hQ ⊢
 simp [q23.go,abuild,placesOf,fillAt]
 have hM1':M1 = m.new [int 0,int 0,nilA,.emp 0,.emp 0,.emp 0,nilA,int 1] false:=by rw [hM1]; rfl
 have hM2':M2 = M1.new [.ptr P 0,int 1,int 0,.ptr m.next 0,int 0,strS [],int 0,.emp 0,int 0,int 0,int 0,int 0,int 0] false:=by rw [hM2]; rfl
 rw [← hM1',← n1,← hM2']
 refine hQ _ _ _ ?_
 rw [Aa6]
 refine ⟨M1.next,m.next,upd (upd t m.next (roF 0)) M1.next 0,⟨[],0,.emp 0,0,(0,0)⟩,by simp,?_,?_,?_⟩
 ·obtain ⟨cx,hp,hcx⟩:=h.pg
  have tP1:(upd t m.next (roF 0)) P = some 1:=(c1.same P 1 (by simp [nr])).2 h.tP
  have key:TkA (upd (upd t m.next (roF 0)) M1.next 0) M1.next P A pr (pg0 pr cv) (s0 a) (.ptr m.next 0) ⟨[],0,.emp 0,0,(0,0)⟩ M2:=by
   refine ⟨⟨c2.bd,Ab9 _ _ _,(c2.same P 1 (by simp)).2 tP1,⟨cx,c2.kt.has tP1 (by simp) (c1.kt.has h.tP (by simp [nr]) hp),(hcx.keep c1.kt (by simp [nr])).keep c2.kt (by simp)⟩,(h.ar.keep c1.kt (by simp [nr])).keep c2.kt (by simp),rfl⟩,⟨by omega,M1.clock + 1,by rw [hM2]; simp⟩,.inl rfl⟩
  simpa using key
 ·have key:ChA (upd (upd t m.next (roF 0)) M1.next 0) M2 (s0 a).frames (.ptr m.next 0):=by
   refine ⟨m.next,nilA,rfl,⟨.emp 0,.emp 0,.emp 0,⟨(c2.same m.next (roF 0) (by simp [nr])).2 (Ab9 _ _ _),c2.kt.has (Ab9 _ _ _) (by simp [nr]) ⟨by omega,m.clock + 1,by rw [hM1]; simp⟩,.inl ⟨rfl,.inl rfl⟩,.inr ⟨rfl,rfl⟩,.inl ⟨rfl,.inl rfl⟩⟩⟩,rfl⟩
  simpa using key
 ·have key:Chg RM t (upd (upd t m.next (roF 0)) M1.next 0) m M2:=(c1.mono fun r e => .inr (.inr (by have e:r = roF 0:=e; omega))).trans (c2.mono fun r e => .inl e)
  simpa using key
end
end Go.Proofs.YtkoekdfimpcofaaGreat
namespace Go.Proofs.YtkoekdfimpcofaaGreat
set_option maxRecDepth 4000
set_option maxRecDepth 4000
open Go.V
attribute [local simp] Nat.add_assoc
theorem okPg0 {pr:PrM} (hf:PrFit pr) {a:ArM} (hn:Nice pr.codes a) (hc:checkM pr = 0) (hv:(cvM pr.consts a).2.2 = 0):OkPg (pg0 pr (cvM pr.consts a).2.1) ∧ Nice pr.codes (cvM pr.consts a).1:=by
 obtain ⟨o1,o2,o3,o4⟩:=An5 hc
 obtain ⟨l1,l2,l3,l4⟩:=Alb o4
 obtain ⟨n1,n2⟩:=Aq0 (cs:=pr.codes) pr.consts (a,[],0) hn (by simp [NoPrim])
 have hlen:(cvM pr.consts a).2.1.length = pr.consts.length:=by
  have:=Amw pr.consts (a,[],0) hv
  unfold cvM
  rw [this]
  simp
 refine ⟨⟨fun c hc' => ?_,⟨l3,l1⟩,l4,n2⟩,n1⟩
 have:=Azd o3 hc'
 show OkCode pr.codes (cvM pr.consts a).2.1.length pr.names.length c
 rw [hlen]
 exact this
def Lo (m:Mem) (t:Ro):Prop:=∀ j,t j ≠ none → m.next ≤ j
section
variable {R:Nat → Prop} {t t' t2:Ro} {m m' m0:Mem}
theorem Chg.lo (c:Chg R t t' m m') (l:Lo m0 t) (hn:m0.next ≤ m.next):Lo m0 t':=by
 intro j hj
 cases h:t' j with
 | none => exact absurd h hj
 | some r =>
  by_cases e:R r
  ·rcases c.new j r h e with ⟨r',a,_⟩ | a
   ·exact l j (by rw [a]; simp)
   ·omega
  ·exact l j (by rw [(c.same j r e).1 h]; simp)
theorem Chg.kp0 (c:Chg R t t' m m') (l:Lo m0 t) (k:Kp m0 m):Kp m0 m':=Afy c.kc k fun j ⟨r,h,_⟩ => l j (by rw [h]; simp)
end
theorem newAr (m:Mem):∃ t m',EH Tryz.prog ca (.func 4) [int 100] m (.tup [.ptr (m.next + 1) 0,int 0]) m' ∧ Kp m m' ∧ ArR t (m.next + 1) ⟨100,[],[]⟩ m' ∧ Lo m t ∧ (∀ j,t j ≠ none → j < m'.next) ∧ m'.next = m.next + 2:=by
 have q:=q20 (m:=m) (n:=100) (by omega) (by omega)
 have a:=A17 (m:=m) (n:=100) (by omega) (by omega)
 obtain ⟨m',hm'⟩:∃ m',m' = m.newMap.new [int 100,.emp 0,.emp 0,.mp m.next] false:=⟨_,rfl⟩
 rw [← hm'] at q a
 have n':m'.next = m.next + 2:=by rw [hm']; simp
 have kp:Kp m m':=by
  rw [hm']
  refine ⟨by simp,fun id hi => ?_,fun id hi => ?_⟩
  ·have a1:id ≠ m.next:=by omega
   have a2:id ≠ m.next + 1:=by omega
   simp [a1,a2]
  ·have a1:id ≠ m.next:=by omega
   simp [a1]
 refine ⟨fun j => if m.next ≤ j ∧ j < m'.next then some 3 else none,m',q,kp,a.mono fun j hj hx => if_pos ⟨hx,hj⟩,fun j hj => ?_,fun j hj => ?_,n'⟩
 ·simp only at hj
  split at hj
  ·rename_i h; exact h.1
  ·exact absurd rfl hj
 ·simp only at hj
  split at hj
  ·rename_i h; exact h.2
  ·exact absurd rfl hj
end Go.Proofs.YtkoekdfimpcofaaGreat
namespace Go.Proofs.YtkoekdfimpcofaaGreat
set_option maxRecDepth 8000
open Go.V
def tailC:List CoM:=[⟨0,0,0,2,[(12,1,0),(9,2,0),(16,0,0),(4,2,0),(1,0,0),(14,1,0)]⟩,
 ⟨1,0,0,4,[(4,0,0),(2,0,0),(13,1,0),(11,6,0),(2,0,0),(15,0,0),(4,2,0),(4,1,0),(2,0,0),(1,1,0),(13,2,0),(14,1,0)]⟩]
def tailP (k:Int):PrM:=⟨tailC,[.mk 1 k [] [] [] [],.mk 1 1 [] [] [] []],[nmZ,nmM,nmF]⟩
def pgT (k:Int):PgM:=pg0 (tailP k) [(1,k),(1,1)]
def ar0:ArM:=⟨100,[],[]⟩
def ar1:ArM:=⟨100,[⟨5,1,[],[]⟩],[]⟩
theorem Ajv {k:Int} (h:-1000 ≤ k ∧ k ≤ 1000):chk (.mk 1 k [] [] [] []) = 0:=by
 have ha:alone (.mk 1 k [] [] [] []) = true:=by
  simp [alone]
  omega
 simp [chk,wk,wks,nxt,ha]
theorem An0 {k:Int} (h:-1000 ≤ k ∧ k ≤ 1000):(Dat.mk 1 k [] [] [] []).fits:=by
 rw [Dat.fits]
 exact ⟨⟨by constructor <;> omega,by simp,by simp,by simp,by simp⟩,trivial,trivial⟩
theorem An4 {K:Int} (hK:2 ≤ K ∧ K ≤ 601):checkM (tailP K) = 0:=by
 have h1:=Ajv (k:=K) (by omega)
 have h2:=Ajv (k:=1) (by omega)
 have hne:¬ K = 1:=by omega
 have a1:countsM (tailP K) = true:=by kernel_rfl
 have a2:allAt (constM (tailP K)) 0 (tailP K).consts = true:=by simp [allAt,constM,tailP,plainM,h1,h2,pre,pres,noM,sam,eqb,hne]
 have a3:allAt (nameM1 (tailP K)) 0 (tailP K).names = true:=by kernel_rfl
 have a4:(tailP K).codes.all (goodC (tailP K)) = true:=by kernel_rfl
 simp [checkM,checkB,a1,a2,a3,a4]
theorem Amv {K:Int} (hK:2 ≤ K ∧ K ≤ 601):cvM (tailP K).consts ar0 = (ar0,[(1,K),(1,1)],0):=by
 have h1:=Ajv (k:=K) (by omega)
 have h2:=Ajv (k:=1) (by omega)
 simp [cvM,cv1,tailP,ofM,h1,h2,makeM]
theorem An1 {K:Int} (hK:2 ≤ K ∧ K ≤ 601):PrFit (tailP K):=by
 refine ⟨⟨by simp [tailP,tailC],fun c hc => ⟨?_⟩⟩,⟨by simp [tailP],fun d hd => ?_⟩,by simp [tailP],fun s hs => ?_⟩
 ·simp [tailP,tailC] at hc
  rcases hc with rfl | rfl <;> simp [i64r]
 ·simp [tailP] at hd
  rcases hd with rfl | rfl
  ·exact An0 (by omega)
  ·exact An0 (by omega)
 ·simp [tailP] at hs
  rcases hs with rfl | rfl | rfl <;> simp
theorem A1a {K:Int} (hK:2 ≤ K ∧ K ≤ 601):OkPg (pgT K):=by
 have h:=(okPg0 (An1 hK) (a:=ar0) (fun c hc => by simp [ar0] at hc) (An4 hK) (by rw [Amv hK])).1
 rw [Amv hK] at h
 exact h
theorem A1b (K:Int):Nice (pgT K).codes ar1:=by
 intro c hc
 simp [ar1] at hc
 subst hc
 exact ⟨by simp,by decide,by simp,fun _ => ⟨_,rfl,by simp,rfl⟩,by simp⟩
end Go.Proofs.YtkoekdfimpcofaaGreat
namespace Go.Proofs.YtkoekdfimpcofaaGreat
set_option maxRecDepth 8000
open Go.V
attribute [local simp] Nat.add_assoc
def mkS (a:ArM) (fs:List FrM) (st:Int) (n:Nat) (op:Int):MaM:=⟨a,fs,st,n,op,(0,0)⟩
def fM (pc:Nat) (l:List Val):FrM:=⟨0,pc,[],[],l⟩
def fL (k:Int) (pc:Nat) (l:List Val):FrM:=⟨1,pc,[(1,k)],[],l⟩
abbrev clV:Val:=(7,0)
abbrev noV:Val:=(2,0)
abbrev zeV:Val:=(6,11)
abbrev miV:Val:=(6,1)
inductive Ph (K:Int):Nat → MaM → List UInt8 → List Val → Bool → Prop
 | m0 (n:Nat) (h:n ≤ 0):Ph K 0 (mkS ar0 [fM 0 []] 1 n 0) [] [] false
 | m1 (n:Nat) (h:n ≤ 1):Ph K 1 (mkS ar1 [fM 1 [clV]] 1 n 0) [] [] false
 | m2 (n:Nat) (h:n ≤ 2):Ph K 2 (mkS ar1 [fM 2 []] 2 n 3) nmF [clV] false
 | m3 (n:Nat) (h:n ≤ 3):Ph K 3 (mkS ar1 [fM 2 [noV]] 1 n 0) [] [] true
 | m4 (n:Nat) (h:n ≤ 4):Ph K 4 (mkS ar1 [fM 3 []] 1 n 0) [] [] true
 | m5 (n:Nat) (h:n ≤ 5):Ph K 5 (mkS ar1 [fM 4 []] 2 n 1) nmF [] true
 | m6 (n:Nat) (h:n ≤ 6):Ph K 6 (mkS ar1 [fM 4 [clV]] 1 n 0) [] [] true
 | m7 (n:Nat) (h:n ≤ 7):Ph K 7 (mkS ar1 [fM 5 [clV,(1,K)]] 1 n 0) [] [] true
 | l0 (i:Nat) (k:Int) (n:Nat) (h:n ≤ i) (hk:0 ≤ k ∧ k ≤ K) (hi:(i:Int) = 8 + 13 * (K - k)):Ph K i (mkS ar1 [fL k 0 []] 1 n 0) [] [] true
 | l1 (i:Nat) (k:Int) (n:Nat) (h:n ≤ i) (hk:0 ≤ k ∧ k ≤ K) (hi:(i:Int) = 9 + 13 * (K - k)):Ph K i (mkS ar1 [fL k 1 []] 2 n 1) nmZ [] true
 | l2 (i:Nat) (k:Int) (n:Nat) (h:n ≤ i) (hk:0 ≤ k ∧ k ≤ K) (hi:(i:Int) = 10 + 13 * (K - k)):Ph K i (mkS ar1 [fL k 1 [zeV]] 1 n 0) [] [] true
 | l3 (i:Nat) (k:Int) (n:Nat) (h:n ≤ i) (hk:0 ≤ k ∧ k ≤ K) (hi:(i:Int) = 11 + 13 * (K - k)):Ph K i (mkS ar1 [fL k 2 [zeV,(1,k)]] 1 n 0) [] [] true
 | l4 (i:Nat) (k:Int) (n:Nat) (h:n ≤ i) (hk:0 ≤ k ∧ k ≤ K) (hi:(i:Int) = 12 + 13 * (K - k)):Ph K i (mkS ar1 [fL k 3 [truV (decide (k = 0))]] 1 n 0) [] [] true
 | l5 (i:Nat) (k:Int) (n:Nat) (h:n ≤ i) (hk:1 ≤ k ∧ k ≤ K) (hi:(i:Int) = 13 + 13 * (K - k)):Ph K i (mkS ar1 [fL k 6 []] 1 n 0) [] [] true
 | l6 (i:Nat) (k:Int) (n:Nat) (h:n ≤ i) (hk:1 ≤ k ∧ k ≤ K) (hi:(i:Int) = 14 + 13 * (K - k)):Ph K i (mkS ar1 [fL k 7 []] 2 n 1) nmF [] true
 | l7 (i:Nat) (k:Int) (n:Nat) (h:n ≤ i) (hk:1 ≤ k ∧ k ≤ K) (hi:(i:Int) = 15 + 13 * (K - k)):Ph K i (mkS ar1 [fL k 7 [clV]] 1 n 0) [] [] true
 | l8 (i:Nat) (k:Int) (n:Nat) (h:n ≤ i) (hk:1 ≤ k ∧ k ≤ K) (hi:(i:Int) = 16 + 13 * (K - k)):Ph K i (mkS ar1 [fL k 8 [clV]] 2 n 1) nmM [] true
 | l9 (i:Nat) (k:Int) (n:Nat) (h:n ≤ i) (hk:1 ≤ k ∧ k ≤ K) (hi:(i:Int) = 17 + 13 * (K - k)):Ph K i (mkS ar1 [fL k 8 [clV,miV]] 1 n 0) [] [] true
 | l10 (i:Nat) (k:Int) (n:Nat) (h:n ≤ i) (hk:1 ≤ k ∧ k ≤ K) (hi:(i:Int) = 18 + 13 * (K - k)):Ph K i (mkS ar1 [fL k 9 [clV,miV,(1,k)]] 1 n 0) [] [] true
 | l11 (i:Nat) (k:Int) (n:Nat) (h:n ≤ i) (hk:1 ≤ k ∧ k ≤ K) (hi:(i:Int) = 19 + 13 * (K - k)):Ph K i (mkS ar1 [fL k 10 [clV,miV,(1,k),(1,1)]] 1 n 0) [] [] true
 | l12 (i:Nat) (k:Int) (n:Nat) (h:n ≤ i) (hk:1 ≤ k ∧ k ≤ K) (hi:(i:Int) = 20 + 13 * (K - k)):Ph K i (mkS ar1 [fL k 11 [clV,(1,k - 1)]] 1 n 0) [] [] true
 | e5 (i n:Nat) (h:n ≤ i) (hi:(i:Int) = 13 + 13 * K):Ph K i (mkS ar1 [fL 0 4 []] 1 n 0) [] [] true
 | e6 (i n:Nat) (h:n ≤ i) (hi:(i:Int) = 14 + 13 * K):Ph K i (mkS ar1 [fL 0 5 [(1,0)]] 1 n 0) [] [] true
 | d (i n:Nat) (h:n ≤ i) (hi:15 + 13 * K ≤ (i:Int)):Ph K i ⟨ar1,[],3,n,0,(1,0)⟩ [] [] true
def Ins (K:Int) (s:MaM) (f:FrM) (fs:List FrM) (x:InsM) (s2:MaM) (nm:List UInt8) (l:List Val):Prop:=∀ (t:Ro) (T P A:Nat) (q:RestA) (F:Nat) (px cx sx u:AV) (m:Mem),
 In3 t T P A (tailP K) (pgT K) { s with steps:=s.steps + 1 } q F { f with pc:=f.pc + 1 } fs px cx sx u m → wph Tryz.prog ca (.func 26) [.ptr T 0,.ptr F 0,insA x] m fun r m' => r = .tup [] ∧ ResQ t T P A (tailP K) (pgT K) s2 (fun q' => s2.status = 2 → q'.nm = nm ∧ q'.n = 0 ∧ q'.args = .lst (vals l)) m m'
section
variable {K:Int} {s s2:MaM} {f:FrM} {fs:List FrM} {x:InsM} {nm:List UInt8} {l:List Val}
theorem ins_e (e:insM (pgT K) { f with pc:=f.pc + 1 } fs x { s with steps:=s.steps + 1 } = s2) (h2:s2.status ≠ 2) (h:∀ (t:Ro) (T P A:Nat) (q:RestA) (F:Nat) (px cx sx u:AV) (m:Mem),In3 t T P A (tailP K) (pgT K) { s with steps:=s.steps + 1 } q F { f with pc:=f.pc + 1 } fs px cx sx u m → wph Tryz.prog ca (.func 26) [.ptr T 0,.ptr F 0,insA x] m fun r m' => r = .tup [] ∧ ResI t T P A (tailP K) (pgT K) (insM (pgT K) { f with pc:=f.pc + 1 } fs x { s with steps:=s.steps + 1 }) m m'):Ins K s f fs x s2 nm l:=by
 intro t T P A q F px cx sx u m hI
 refine Ab2 (h t T P A q F px cx sx u m hI) ?_
 rw [e]
 rintro r m' ⟨h1,t',now',q',a,b,c⟩
 exact ⟨h1,t',now',q',a,b,c,fun e => absurd e h2⟩
theorem ins_c {n:Int} {l':List Val} {k:Nat} (e:answerM (twoR n l').1 (({ f with pc:=f.pc + 1 }:FrM).cut k :: fs) { s with steps:=s.steps + 1 } = s2) (h2:s2.status ≠ 2) (h:∀ (t:Ro) (T P A:Nat) (q:RestA) (F:Nat) (px cx sx u:AV) (m:Mem),In3 t T P A (tailP K) (pgT K) { s with steps:=s.steps + 1 } q F { f with pc:=f.pc + 1 } fs px cx sx u m → wph Tryz.prog ca (.func 26) [.ptr T 0,.ptr F 0,insA x] m fun r m' => r = .tup [] ∧ ResI t T P A (tailP K) (pgT K) (answerM (twoR n l').1 (({ f with pc:=f.pc + 1 }:FrM).cut k :: fs) { s with steps:=s.steps + 1 }) m m'):Ins K s f fs x s2 nm l:=by
 intro t T P A q F px cx sx u m hI
 refine Ab2 (h t T P A q F px cx sx u m hI) ?_
 rw [e]
 rintro r m' ⟨h1,t',now',q',a,b,c⟩
 exact ⟨h1,t',now',q',a,b,c,fun e => absurd e h2⟩
theorem ins_q {l':List Val} (e:insM (pgT K) { f with pc:=f.pc + 1 } fs x { s with steps:=s.steps + 1 } = s2) (hn:(tailP K).names[x.2.1.toNat]? = some nm) (hl:l' = l) (h:∀ (t:Ro) (T P A:Nat) (q:RestA) (F:Nat) (px cx sx u:AV) (m:Mem),In3 t T P A (tailP K) (pgT K) { s with steps:=s.steps + 1 } q F { f with pc:=f.pc + 1 } fs px cx sx u m → wph Tryz.prog ca (.func 26) [.ptr T 0,.ptr F 0,insA x] m fun r m' => r = .tup [] ∧ ResQ t T P A (tailP K) (pgT K) (insM (pgT K) { f with pc:=f.pc + 1 } fs x { s with steps:=s.steps + 1 }) (fun q' => ∃ nm,(tailP K).names[x.2.1.toNat]? = some nm ∧ q'.nm = nm ∧ q'.n = 0 ∧ q'.args = .lst (vals l')) m m'):Ins K s f fs x s2 nm l:=by
 intro t T P A q F px cx sx u m hI
 refine Ab2 (h t T P A q F px cx sx u m hI) ?_
 rw [e]
 rintro r m' ⟨h1,t',now',q',a,b,c,nm',d1,d2,d3,d4⟩
 rw [hn] at d1
 cases d1
 exact ⟨h1,t',now',q',a,b,c,fun _ => ⟨d2,d3,by rw [d4,hl]⟩⟩
theorem Ap5 (hK:2 ≤ K ∧ K ≤ 601) {k:Int} (hk:1 ≤ k ∧ k ≤ K):twoR 1 [(1,k),(1,1)] = ((1,k - 1),0):=by
 have h1:isIn k = true:=by simp [isIn]; omega
 have h2:isIn (k - 1) = true:=by simp [isIn]; omega
 have h3:isIn 1 = true:=by decide
 simp [twoR,foldR,subR,fitR,h1,h2,h3,numV,kdOf]
end
theorem Ayt {K:Int} (hK:2 ≤ K ∧ K ≤ 601) {i:Nat} {s:MaM} {nm:List UInt8} {l:List Val} {g:Bool} (h:Ph K i s nm l g) (h1:s.status = 1) :
  ∃ f fs c x s2 nm2 l2,s.frames = f :: fs ∧ (pgT K).codes[f.code]? = some c ∧ c.ins[f.pc]? = some x ∧ c.ins.length ≤ 4096 ∧ Ins K s f fs x s2 nm2 l2 ∧ Ph K (i + 1) s2 nm2 l2 g:=by
 have okp:=A1a hK
 have nc:=A1b K
 cases h
 case m0 n h =>
  exact ⟨_,_,_,_,mkS ar1 [fM 1 [clV]] 1 (n + 1) 0,[],[],rfl,rfl,rfl,by decide,ins_e (by simp [insM,callM,enterM,parsM,getM,ixM,goodM,below,zeroC,answerM,setT,FrM.put,FrM.cut,FrM.last,allocM,fitsM,pushM,kindM,atV,pgT,pg0,tailP,tailC,mkS,fM,fL,ar0,ar1]) (by simp [mkS]) (fun t T P A q F px cx sx u m hI => ins12 hI rfl (by first | decide | simp [fM,fL,tailP,pgT,pg0,NoPrim]) (by first | decide | simp [fM,fL,tailP,pgT,pg0,NoPrim]) (by first | decide | simp [fM,fL,tailP,pgT,pg0,NoPrim]) (by first | decide | simp [fM,fL,tailP,pgT,pg0,NoPrim])),.m1 (n + 1) (by omega)⟩
 case m1 n h =>
  exact ⟨_,_,_,_,mkS ar1 [fM 2 []] 2 (n + 1) 3,nmF,[clV],rfl,rfl,rfl,by decide,ins_q (l':=[clV]) (by simp [insM,callM,enterM,parsM,getM,ixM,goodM,below,zeroC,answerM,setT,FrM.put,FrM.cut,FrM.last,allocM,fitsM,pushM,kindM,atV,pgT,pg0,tailP,tailC,mkS,fM,fL,ar0,ar1]) rfl rfl (fun t T P A q F px cx sx u m hI => ins9x hI rfl (by first | decide | simp [fM,fL,tailP,pgT,pg0,NoPrim]) (by first | decide | simp [fM,fL,tailP,pgT,pg0,NoPrim]) (by first | decide | simp [fM,fL,tailP,pgT,pg0,NoPrim]) (by first | decide | simp [fM,fL,tailP,pgT,pg0,NoPrim])),.m2 (n + 1) (by omega)⟩
 case m3 n h =>
  exact ⟨_,_,_,_,mkS ar1 [fM 3 []] 1 (n + 1) 0,[],[],rfl,rfl,rfl,by decide,ins_e (by simp [insM,callM,enterM,parsM,getM,ixM,goodM,below,zeroC,answerM,setT,FrM.put,FrM.cut,FrM.last,allocM,fitsM,pushM,kindM,atV,pgT,pg0,tailP,tailC,mkS,fM,fL,ar0,ar1]) (by simp [mkS]) (fun t T P A q F px cx sx u m hI => ins16 hI rfl (by first | decide | simp [fM,fL,tailP,pgT,pg0,NoPrim]) (by first | decide | simp [fM,fL,tailP,pgT,pg0,NoPrim])),.m4 (n + 1) (by omega)⟩
 case m4 n h =>
  exact ⟨_,_,_,_,mkS ar1 [fM 4 []] 2 (n + 1) 1,nmF,[],rfl,rfl,rfl,by decide,ins_q (l':=[]) (by simp [insM,callM,enterM,parsM,getM,ixM,goodM,below,zeroC,answerM,setT,FrM.put,FrM.cut,FrM.last,allocM,fitsM,pushM,kindM,atV,pgT,pg0,tailP,tailC,mkS,fM,fL,ar0,ar1]) rfl rfl (fun t T P A q F px cx sx u m hI => ins4x hI rfl (by first | decide | simp [fM,fL,tailP,pgT,pg0,NoPrim]) (by first | decide | simp [fM,fL,tailP,pgT,pg0,NoPrim]) (by first | decide | simp [fM,fL,tailP,pgT,pg0,NoPrim])),.m5 (n + 1) (by omega)⟩
 case m6 n h =>
  exact ⟨_,_,_,_,mkS ar1 [fM 5 [clV,(1,K)]] 1 (n + 1) 0,[],[],rfl,rfl,rfl,by decide,ins_e (by simp [insM,callM,enterM,parsM,getM,ixM,goodM,below,zeroC,answerM,setT,FrM.put,FrM.cut,FrM.last,allocM,fitsM,pushM,kindM,atV,pgT,pg0,tailP,tailC,mkS,fM,fL,ar0,ar1]) (by simp [mkS]) (fun t T P A q F px cx sx u m hI => ins1 hI rfl (by first | decide | simp [fM,fL,tailP,pgT,pg0,NoPrim]) (by simp [pgT,pg0]) (by first | decide | simp [fM,fL,tailP,pgT,pg0,NoPrim])),.m7 (n + 1) (by omega)⟩
 case m7 n h =>
  exact ⟨_,_,_,_,mkS ar1 [fL K 0 []] 1 (n + 1) 0,[],[],rfl,rfl,rfl,by decide,ins_e (by simp [insM,callM,enterM,parsM,getM,ixM,goodM,below,zeroC,answerM,setT,FrM.put,FrM.cut,FrM.last,allocM,fitsM,pushM,kindM,atV,pgT,pg0,tailP,tailC,mkS,fM,fL,ar0,ar1]) (by simp [mkS]) (fun t T P A q F px cx sx u m hI => ins14 hI rfl (by first | decide | simp [fM,fL,tailP,pgT,pg0,NoPrim]) (by first | decide | simp [fM,fL,tailP,pgT,pg0,NoPrim]) (by simp [fM]) okp nc (by simp [fM,NoPrim]) (by first | decide | simp [fM,fL,tailP,pgT,pg0,NoPrim]) (by first | decide | simp [fM,fL,tailP,pgT,pg0,NoPrim])),.l0 8 K (n + 1) (by omega) (by omega) (by omega)⟩
 case l0 k n h hk hi =>
  exact ⟨_,_,_,_,mkS ar1 [fL k 1 []] 2 (n + 1) 1,nmZ,[],rfl,rfl,rfl,by decide,ins_q (l':=[]) (by simp [insM,callM,enterM,parsM,getM,ixM,goodM,below,zeroC,answerM,setT,FrM.put,FrM.cut,FrM.last,allocM,fitsM,pushM,kindM,atV,pgT,pg0,tailP,tailC,mkS,fM,fL,ar0,ar1]) rfl rfl (fun t T P A q F px cx sx u m hI => ins4x hI rfl (by first | decide | simp [fM,fL,tailP,pgT,pg0,NoPrim]) (by first | decide | simp [fM,fL,tailP,pgT,pg0,NoPrim]) (by first | decide | simp [fM,fL,tailP,pgT,pg0,NoPrim])),.l1 _ k (n + 1) (by omega) (by omega) (by omega)⟩
 case l2 k n h hk hi =>
  exact ⟨_,_,_,_,mkS ar1 [fL k 2 [zeV,(1,k)]] 1 (n + 1) 0,[],[],rfl,rfl,rfl,by decide,ins_e (by simp [insM,callM,enterM,parsM,getM,ixM,goodM,below,zeroC,answerM,setT,FrM.put,FrM.cut,FrM.last,allocM,fitsM,pushM,kindM,atV,pgT,pg0,tailP,tailC,mkS,fM,fL,ar0,ar1]) (by simp [mkS]) (fun t T P A q F px cx sx u m hI => ins2 hI rfl (by first | decide | simp [fM,fL,tailP,pgT,pg0,NoPrim]) (by simp [fL]) (by first | decide | simp [fM,fL,tailP,pgT,pg0,NoPrim])),.l3 _ k (n + 1) (by omega) (by omega) (by omega)⟩
 case l3 k n h hk hi =>
  exact ⟨_,_,_,_,mkS ar1 [fL k 3 [truV (decide (k = 0))]] 1 (n + 1) 0,[],[],rfl,rfl,rfl,by decide,ins_c (by simp [twoR,insM,callM,enterM,parsM,getM,ixM,goodM,below,zeroC,answerM,setT,FrM.put,FrM.cut,FrM.last,allocM,fitsM,pushM,kindM,atV,pgT,pg0,tailP,tailC,mkS,fM,fL,ar0,ar1]) (by simp [mkS]) (fun t T P A q F px cx sx u m hI => Axv (n:=11) (l:=[(1,k)]) hI rfl (by first | decide | simp [fM,fL,tailP,pgT,pg0,NoPrim]) (by first | decide | simp [fM,fL,tailP,pgT,pg0,NoPrim]) (by simp [fL]) nc.small ⟨by simp [isIn]; omega,.inr ⟨rfl,_,rfl⟩,rfl⟩ (by simp [fL,FrM.last]) (by simp) (by first | decide | simp [fM,fL,tailP,pgT,pg0,NoPrim])),.l4 _ k (n + 1) (by omega) (by omega) (by omega)⟩
 case l5 k n h hk hi =>
  exact ⟨_,_,_,_,mkS ar1 [fL k 7 []] 2 (n + 1) 1,nmF,[],rfl,rfl,rfl,by decide,ins_q (l':=[]) (by simp [insM,callM,enterM,parsM,getM,ixM,goodM,below,zeroC,answerM,setT,FrM.put,FrM.cut,FrM.last,allocM,fitsM,pushM,kindM,atV,pgT,pg0,tailP,tailC,mkS,fM,fL,ar0,ar1]) rfl rfl (fun t T P A q F px cx sx u m hI => ins4x hI rfl (by first | decide | simp [fM,fL,tailP,pgT,pg0,NoPrim]) (by first | decide | simp [fM,fL,tailP,pgT,pg0,NoPrim]) (by first | decide | simp [fM,fL,tailP,pgT,pg0,NoPrim])),.l6 _ k (n + 1) (by omega) (by omega) (by omega)⟩
 case l7 k n h hk hi =>
  exact ⟨_,_,_,_,mkS ar1 [fL k 8 [clV]] 2 (n + 1) 1,nmM,[],rfl,rfl,rfl,by decide,ins_q (l':=[]) (by simp [insM,callM,enterM,parsM,getM,ixM,goodM,below,zeroC,answerM,setT,FrM.put,FrM.cut,FrM.last,allocM,fitsM,pushM,kindM,atV,pgT,pg0,tailP,tailC,mkS,fM,fL,ar0,ar1]) rfl rfl (fun t T P A q F px cx sx u m hI => ins4x hI rfl (by first | decide | simp [fM,fL,tailP,pgT,pg0,NoPrim]) (by first | decide | simp [fM,fL,tailP,pgT,pg0,NoPrim]) (by first | decide | simp [fM,fL,tailP,pgT,pg0,NoPrim])),.l8 _ k (n + 1) (by omega) (by omega) (by omega)⟩
 case l9 k n h hk hi =>
  exact ⟨_,_,_,_,mkS ar1 [fL k 9 [clV,miV,(1,k)]] 1 (n + 1) 0,[],[],rfl,rfl,rfl,by decide,ins_e (by simp [insM,callM,enterM,parsM,getM,ixM,goodM,below,zeroC,answerM,setT,FrM.put,FrM.cut,FrM.last,allocM,fitsM,pushM,kindM,atV,pgT,pg0,tailP,tailC,mkS,fM,fL,ar0,ar1]) (by simp [mkS]) (fun t T P A q F px cx sx u m hI => ins2 hI rfl (by first | decide | simp [fM,fL,tailP,pgT,pg0,NoPrim]) (by simp [fL]) (by first | decide | simp [fM,fL,tailP,pgT,pg0,NoPrim])),.l10 _ k (n + 1) (by omega) (by omega) (by omega)⟩
 case l10 k n h hk hi =>
  exact ⟨_,_,_,_,mkS ar1 [fL k 10 [clV,miV,(1,k),(1,1)]] 1 (n + 1) 0,[],[],rfl,rfl,rfl,by decide,ins_e (by simp [insM,callM,enterM,parsM,getM,ixM,goodM,below,zeroC,answerM,setT,FrM.put,FrM.cut,FrM.last,allocM,fitsM,pushM,kindM,atV,pgT,pg0,tailP,tailC,mkS,fM,fL,ar0,ar1]) (by simp [mkS]) (fun t T P A q F px cx sx u m hI => ins1 hI rfl (by first | decide | simp [fM,fL,tailP,pgT,pg0,NoPrim]) (by simp [pgT,pg0]) (by first | decide | simp [fM,fL,tailP,pgT,pg0,NoPrim])),.l11 _ k (n + 1) (by omega) (by omega) (by omega)⟩
 case l11 k n h hk hi =>
  exact ⟨_,_,_,_,mkS ar1 [fL k 11 [clV,(1,k - 1)]] 1 (n + 1) 0,[],[],rfl,rfl,rfl,by decide,ins_c (by rw [Ap5 hK (by omega)]; simp [insM,callM,enterM,parsM,getM,ixM,goodM,below,zeroC,answerM,setT,FrM.put,FrM.cut,FrM.last,allocM,fitsM,pushM,kindM,atV,pgT,pg0,tailP,tailC,mkS,fM,fL,ar0,ar1]) (by simp [mkS]) (fun t T P A q F px cx sx u m hI => Axv (n:=1) (l:=[(1,k),(1,1)]) hI rfl (by first | decide | simp [fM,fL,tailP,pgT,pg0,NoPrim]) (by first | decide | simp [fM,fL,tailP,pgT,pg0,NoPrim]) (by simp [fL]) nc.small ⟨by simp [isIn]; omega,.inl ⟨rfl,_,_,rfl⟩,by rw [Ap5 hK (by omega)]⟩ (by simp [fL,FrM.last]) (by simp) (by first | decide | simp [fM,fL,tailP,pgT,pg0,NoPrim])),.l12 _ k (n + 1) (by omega) (by omega) (by omega)⟩
 case l12 k n h hk hi =>
  exact ⟨_,_,_,_,mkS ar1 [fL (k - 1) 0 []] 1 (n + 1) 0,[],[],rfl,rfl,rfl,by decide,ins_e (by simp [insM,callM,enterM,parsM,getM,ixM,goodM,below,zeroC,answerM,setT,FrM.put,FrM.cut,FrM.last,allocM,fitsM,pushM,kindM,atV,pgT,pg0,tailP,tailC,mkS,fM,fL,ar0,ar1]) (by simp [mkS]) (fun t T P A q F px cx sx u m hI => ins14 hI rfl (by first | decide | simp [fM,fL,tailP,pgT,pg0,NoPrim]) (by first | decide | simp [fM,fL,tailP,pgT,pg0,NoPrim]) (by simp [fL]) okp nc (by simp [fL,NoPrim]) (by first | decide | simp [fM,fL,tailP,pgT,pg0,NoPrim]) (by first | decide | simp [fM,fL,tailP,pgT,pg0,NoPrim])),.l0 _ (k - 1) (n + 1) (by omega) (by omega) (by omega)⟩
 case e5 n h hi =>
  exact ⟨_,_,_,_,mkS ar1 [fL 0 5 [(1,0)]] 1 (n + 1) 0,[],[],rfl,rfl,rfl,by decide,ins_e (by simp [insM,callM,enterM,parsM,getM,ixM,goodM,below,zeroC,answerM,setT,FrM.put,FrM.cut,FrM.last,allocM,fitsM,pushM,kindM,atV,pgT,pg0,tailP,tailC,mkS,fM,fL,ar0,ar1]) (by simp [mkS]) (fun t T P A q F px cx sx u m hI => ins2 hI rfl (by first | decide | simp [fM,fL,tailP,pgT,pg0,NoPrim]) (by simp [fL]) (by first | decide | simp [fM,fL,tailP,pgT,pg0,NoPrim])),.e6 _ (n + 1) (by omega) (by omega)⟩
 case e6 n h hi =>
  exact ⟨_,_,_,_,⟨ar1,[],3,n + 1,0,(1,0)⟩,[],[],rfl,rfl,rfl,by decide,ins_e (by simp [insM,callM,enterM,parsM,getM,ixM,goodM,below,zeroC,answerM,setT,FrM.put,FrM.cut,FrM.last,allocM,fitsM,pushM,kindM,atV,pgT,pg0,tailP,tailC,mkS,fM,fL,ar0,ar1]) (by simp [mkS]) (fun t T P A q F px cx sx u m hI => ins15 hI rfl (by simp [fL]) (by simp) (by first | decide | simp [fM,fL,tailP,pgT,pg0,NoPrim])),.d _ (n + 1) (by omega) (by omega)⟩
 case l4 k n h hk hi =>
  by_cases h0:k = 0
  ·subst h0
   exact ⟨_,_,_,_,mkS ar1 [fL 0 4 []] 1 (n + 1) 0,[],[],rfl,rfl,rfl,by decide,ins_e (by simp [truV,insM,callM,enterM,parsM,getM,ixM,goodM,below,zeroC,answerM,setT,FrM.put,FrM.cut,FrM.last,allocM,fitsM,pushM,kindM,atV,pgT,pg0,tailP,tailC,mkS,fM,fL,ar0,ar1]) (by simp [mkS]) (fun t T P A q F px cx sx u m hI => ins11 hI rfl (by decide) (by first | decide | simp [fM,fL,tailP,pgT,pg0,NoPrim]) (by first | decide | simp [fM,fL,tailP,pgT,pg0,NoPrim])),.e5 _ (n + 1) (by omega) (by omega)⟩
  ·exact ⟨_,_,_,_,mkS ar1 [fL k 6 []] 1 (n + 1) 0,[],[],rfl,rfl,rfl,by decide,ins_e (by simp [truV,h0,insM,callM,enterM,parsM,getM,ixM,goodM,below,zeroC,answerM,setT,FrM.put,FrM.cut,FrM.last,allocM,fitsM,pushM,kindM,atV,pgT,pg0,tailP,tailC,mkS,fM,fL,ar0,ar1]) (by simp [mkS]) (fun t T P A q F px cx sx u m hI => ins11 hI rfl (by decide) (by first | decide | simp [fM,fL,tailP,pgT,pg0,NoPrim]) (by first | decide | simp [fM,fL,tailP,pgT,pg0,NoPrim])),.l5 _ k (n + 1) (by omega) (by omega) (by omega)⟩
 all_goals simp [mkS] at h1
end Go.Proofs.YtkoekdfimpcofaaGreat
namespace Go.Proofs.YtkoekdfimpcofaaGreat
set_option maxRecDepth 8000
open Go.V
section
variable {K:Int} {i:Nat} {s:MaM} {nm:List UInt8} {l:List Val} {g:Bool}
theorem A0y (h:Ph K i s nm l g) (h2:s.status = 2):∃ f,s.frames = [f] ∧ f.stack.length ≤ 256 ∧
  ((s.op = 3 ∧ nm = nmF ∧ l = [clV] ∧ g = false ∧ ∀ v,Ph K (i + 1) (gotM s f [] v) [] [] true) ∨
  (s.op = 1 ∧ l = [] ∧ g = true ∧ ((nm = nmF ∧ Ph K (i + 1) (gotM s f [] clV) [] [] true) ∨ (nm = nmZ ∧ Ph K (i + 1) (gotM s f [] zeV) [] [] true) ∨ (nm = nmM ∧ Ph K (i + 1) (gotM s f [] miV) [] [] true)))):=by
 cases h
 case m2 n h => exact ⟨_,rfl,by decide,.inl ⟨rfl,rfl,rfl,rfl,fun v => .m3 n (by omega)⟩⟩
 case m5 n h => exact ⟨_,rfl,by decide,.inr ⟨rfl,rfl,rfl,.inl ⟨rfl,.m6 n (by omega)⟩⟩⟩
 case l1 k n h hk hi => exact ⟨_,rfl,by simp [fL],.inr ⟨rfl,rfl,rfl,.inr (.inl ⟨rfl,.l2 _ k n (by omega) (by omega) (by omega)⟩)⟩⟩
 case l6 k n h hk hi => exact ⟨_,rfl,by simp [fL],.inr ⟨rfl,rfl,rfl,.inl ⟨rfl,.l7 _ k n (by omega) (by omega) (by omega)⟩⟩⟩
 case l8 k n h hk hi => exact ⟨_,rfl,by simp [fL],.inr ⟨rfl,rfl,rfl,.inr (.inr ⟨rfl,.l9 _ k n (by omega) (by omega) (by omega)⟩)⟩⟩
 all_goals simp [mkS] at h2
theorem ph_st (h:Ph K i s nm l g):(s.status = 1 ∨ s.status = 2 ∨ s.status = 3) ∧ s.steps ≤ i ∧ (s.status = 2 → s.op ≠ 4 ∧ 1 ≤ s.op ∧ s.op ≤ 3) ∧ (atM s).2.2 ≤ 2:=by
 cases h <;> refine ⟨by simp [mkS],?_,by simp [mkS],by simp [atM,shownM,mkS]⟩ <;> first | assumption | (simp [mkS]; omega)
theorem Aqq (h:Ph K i s nm l g) (h3:s.status = 3):Ph K (i + 1) s nm l g ∧ s.frames = [] ∧ s.value = (1,0):=by
 cases h
 case d => exact ⟨.d _ _ (by omega) (by omega),rfl,rfl⟩
 all_goals simp [mkS] at h3
theorem A0x (hK:2 ≤ K ∧ K ≤ 601) (h:Ph K i s nm l g) (hi:15 + 13 * K ≤ (i:Int)):s.status = 3:=by
 cases h <;> first | rfl | (exfalso; omega)
end
section
variable {t:Ro} {T P A:Nat} {pr:PrM} {p:PgM} {s:MaM} {now:AV} {q:RestA} {m:Mem}
theorem u11d (h:has m T (tkC P s now q)) (h1:s.status ≠ 1):wph Tryz.prog ca (.func 11) [.ptr T 0] m fun r m' => r = int s.status ∧ m' = m:=by
 have q25:=w25 h
 obtain ⟨hT,w,g⟩:=h
 refine Aah Tryz.func11 rfl rfl (by simp [Tryz.f11]) (by simp [Tryz.f11]) fun Q hQ => ?_
 simp only [Tryz.f11,show ca.keepRes 11 = false from rfl,show ca.keepArgs 11 = false from rfl] at hQ ⊢
 simp [q25.go,g,tkC,h1]
 refine hQ _ _ _ ?_
 rw [Aa6]
 simp
end
end Go.Proofs.YtkoekdfimpcofaaGreat
