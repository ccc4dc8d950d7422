/- Part of a proof. -/
import Derived.Test.YtjgnfadoakonfaaGreatVP7
set_option maxHeartbeats 64000000
set_option linter.unusedSimpArgs false
set_option linter.unusedVariables false
set_option linter.unusedSectionVars false
namespace Go.Proofs.YtjgnfadoakonfaaGreat
set_option maxRecDepth 4000
open Go.V
attribute [local simp] Nat.add_assoc
abbrev Ro:=Nat → Option Nat
abbrev nilA:AV:=.sc (.pointer none)
def roF (h:Nat):Nat:=10 + 3 * h
def roP (h:Nat):Nat:=11 + 3 * h
def roS (h:Nat):Nat:=12 + 3 * h
structure Chg (R:Nat → Prop) (t t':Ro) (m m':Mem):Prop where
 kc:KpC (fun j => ∃ r,t j = some r ∧ R r) m m'
 same:∀ j r,¬ R r → (t' j = some r ↔ t j = some r)
 new:∀ j r,t' j = some r → R r → (∃ r',t j = some r' ∧ R r') ∨ m.next ≤ j
 bd:∀ j,t' j ≠ none → j < m'.next
structure Kt (R:Nat → Prop) (t t':Ro) (m m':Mem):Prop where
 kc:KpC (fun j => ∀ r,t j = some r → R r) m m'
 same:∀ j r,¬ R r → (t' j = some r ↔ t j = some r)
 bd:∀ j,t' j ≠ none → j < m'.next
section
variable {R R':Nat → Prop} {t t' t2 t3:Ro} {m m' m2 m3:Mem}
theorem Chg.kt (h:Chg R t t' m m'):Kt R t t' m m':=⟨h.kc.mono fun j ⟨r,a,b⟩ r' e => by rw [a] at e; cases e; exact b,h.same,h.bd⟩
theorem Chg.refl (hb:∀ j,t j ≠ none → j < m.next) (k:Kp m m'):Chg R t t m m':=⟨.of (.of k),fun _ _ _ => Iff.rfl,fun j r h hr => .inl ⟨r,h,hr⟩,fun j h => Nat.lt_of_lt_of_le (hb j h) k.next⟩
theorem Chg.trans (h:Chg R t t2 m m2) (k:Chg R t2 t3 m2 m3):Chg R t t3 m m3:=by
 refine ⟨KpC.cut ((h.kc.mono fun j q => .inl q).trans (k.kc.mono fun j q => ?_)),fun j r q => (k.same j r q).trans (h.same j r q),fun j r q hr => ?_,k.bd⟩
 ·obtain ⟨r,h1,h2⟩:=q
  exact h.new j r h1 h2
 ·rcases k.new j r q hr with ⟨r',h1,h2⟩ | q
  ·exact h.new j r' h1 h2
  ·exact .inr (Nat.le_trans h.kc.next q)
theorem Chg.mono (h:Chg R t t' m m') (k:∀ r,R r → R' r):Chg R' t t' m m':=by
 refine ⟨h.kc.mono fun j ⟨r,a,b⟩ => ⟨r,a,k r b⟩,fun j r q => h.same j r fun x => q (k r x),fun j r q hr => ?_,h.bd⟩
 by_cases e:R r
 ·rcases h.new j r q e with ⟨r',a,b⟩ | q
  ·exact .inl ⟨r',a,k r' b⟩
  ·exact .inr q
 ·exact .inl ⟨r,(h.same j r e).1 q,hr⟩
theorem Chg.ahead {m0:Mem} (hb:∀ j,t j ≠ none → j < m0.next) (k0:Kp m0 m) (h:Chg R t t' m m'):Chg R t t' m0 m':=(Chg.refl hb k0).trans h
theorem Chg.box (h:Chg R t t' m m') (hb:∀ j,t j ≠ none → j < m.next) {m0:Mem} (k0:Kp m0 m) (hb0:∀ j,t j ≠ none → j < m0.next) {B:Nat} (h0:m0.next ≤ B) (h1:B < m.next) (cs:List AV):Chg R t t' m0 (m'.set B cs):=by
 have k:=Chg.ahead hb0 k0 h
 refine ⟨KpC.cut ((k.kc.mono fun j q => .inl q).trans ((Aau B cs m').mono fun j q => .inr ?_)),k.same,k.new,fun j q => by simpa using k.bd j q⟩
 have:j = B:=q
 omega
theorem Kt.get (h:Kt R t t' m m') {id r:Nat} (hr:t id = some r) (hn:¬ R r) (hl:id < m.next):m'.get id = m.get id ∧ t' id = some r ∧ id < m'.next :=
 ⟨h.kc.get id hl fun q => hn (q r hr),(h.same id r hn).2 hr,Nat.lt_of_lt_of_le hl h.kc.next⟩
theorem Kt.has (h:Kt R t t' m m') {id r:Nat} {cs:List AV} (hr:t id = some r) (hn:¬ R r) (hh:has m id cs):has m' id cs:=by
 obtain ⟨a,_,b⟩:=h.get hr hn hh.1
 exact ⟨b,by rw [a]; exact hh.2⟩
theorem Chg.then (h:Chg R t t' m m') (k:KpC (fun j => m.next ≤ j ∧ t' j = none) m' m2):Chg R t t' m m2 ∧ Kt (fun _ => False) t' t' m' m2:=by
 refine ⟨⟨KpC.cut ((h.kc.mono fun j q => .inl q).trans (k.mono fun j q => .inr q.1)),h.same,h.new,fun j q => Nat.lt_of_lt_of_le (h.bd j q) k.next⟩,k.mono fun j q r e => ?_,fun _ _ _ => Iff.rfl,fun j q => Nat.lt_of_lt_of_le (h.bd j q) k.next⟩
 rw [q.2] at e
 cases e
end
def StA (t:Ro) (r:Nat) (m:Mem) (x:AV) (l:List Val):Prop:=(l = [] ∧ (x = .emp 0 ∨ x = .emp 1)) ∨ ∃ id e w,t id = some r ∧ id < m.next ∧ x = .sl id 0 l.length 2 true none ∧ m.get id = some (.cells (flat (vals (l ++ e))) false w)
def CapA (x:AV) (l:List Val):Prop:=x = .lst (vals l) ∨ (l = [] ∧ x = .emp 0)
theorem StA.keep {R:Nat → Prop} {t t':Ro} {m m':Mem} {r:Nat} {x:AV} {l:List Val} (h:StA t r m x l) (c:Kt R t t' m m') (hn:¬ R r):StA t' r m' x l:=by
 rcases h with h | ⟨id,e,w,h1,h2,h3,h4⟩
 ·exact .inl h
 ·obtain ⟨a,b,d⟩:=c.get h1 hn h2
  exact .inr ⟨id,e,w,b,d,h3,by rw [a]; exact h4⟩
def frC (f:FrM) (h:Nat) (px cx sx u:AV):List AV:=[int f.code,int f.pc,nilA,px,cx,sx,u,int ((h:Int) + 1)]
structure FrB (t:Ro) (h F:Nat) (f:FrM) (px cx sx u:AV) (m:Mem):Prop where
 tF:t F = some (roF h)
 get:has m F (frC f h px cx sx u)
 par:StA t (roP h) m px f.params
 cap:CapA cx f.caps
 stk:StA t (roS h) m sx f.stack
def FrA (t:Ro) (h F:Nat) (f:FrM) (u:AV) (m:Mem):Prop:=∃ px cx sx,FrB t h F f px cx sx u m
theorem FrB.keep {R:Nat → Prop} {t t':Ro} {m m':Mem} {h F:Nat} {f:FrM} {px cx sx u:AV} (k:FrB t h F f px cx sx u m) (c:Kt R t t' m m') (h1:¬ R (roF h)) (h2:¬ R (roP h)) (h3:¬ R (roS h)):FrB t' h F f px cx sx u m' :=
 ⟨(c.get k.tF h1 k.get.1).2.1,c.has k.tF h1 k.get,k.par.keep c h2,k.cap,k.stk.keep c h3⟩
def ChA (t:Ro) (m:Mem):List FrM → AV → Prop
 | [],u => u = nilA
 | f :: fs,u => ∃ F u',u = .ptr F 0 ∧ FrA t fs.length F f u' m ∧ ChA t m fs u'
theorem ChA.keep {R:Nat → Prop} {t t':Ro} {m m':Mem} (c:Kt R t t' m m'):∀ (fs:List FrM) (u:AV),(∀ r,R r → r < 10 ∨ 10 + 3 * fs.length ≤ r) → ChA t m fs u → ChA t' m' fs u
 | [],u,_,h => h
 | f :: fs,u,hr,⟨F,u',h1,⟨px,cx,sx,h2⟩,h3⟩ => by
  have no:∀ r,10 ≤ r → r < 10 + 3 * (fs.length + 1) → ¬ R r:=fun r a b q => by
   have:=hr r q
   simp only [List.length_cons] at this
   omega
  refine ⟨F,u',h1,⟨px,cx,sx,h2.keep c (no _ ?_ ?_) (no _ ?_ ?_) (no _ ?_ ?_)⟩,ChA.keep c fs u' (fun r q => ?_) h3⟩ <;> try (simp only [roF,roP,roS]; omega)
  have:=hr r q
  simp only [List.length_cons] at this
  omega
structure RestA where
 nm:List UInt8
 n:Int
 args:AV
 k:Int
 fv:Val
def tkC (P:Nat) (s:MaM) (now:AV) (q:RestA):List AV:=[.ptr P 0,int s.status,int s.steps,now,int s.op,strS q.nm,int q.n,q.args,int s.value.1,int s.value.2,int q.k,int q.fv.1,int q.fv.2]
def pgC (A:Nat) (pr:PrM) (cx:AV):List AV:=[.ptr A 0,.lst (cods pr.codes),.lst (encs pr.consts),.lst (strs pr.names),cx,.emp 0]
def ArR (t:Ro) (A:Nat) (a:ArM) (m:Mem):Prop:=Ar (fun j => t j = some 3) A a m
structure MaB (t:Ro) (T P A:Nat) (pr:PrM) (p:PgM) (a:ArM) (m:Mem):Prop where
 bd:∀ j,t j ≠ none → j < m.next
 tT:t T = some 0
 tP:t P = some 1
 pg:∃ cx,has m P (pgC A pr cx) ∧ StA t 2 m cx p.cv
 ar:ArR t A a m
 codes:p.codes = pr.codes
def ArgA (x:AV):Prop:=x = .emp 0 ∨ x = .emp 1 ∨ ∃ l,x = .lst (vals l)
structure TkA (t:Ro) (T P A:Nat) (pr:PrM) (p:PgM) (s:MaM) (now:AV) (q:RestA) (m:Mem):Prop where
 b:MaB t T P A pr p s.ar m
 tk:has m T (tkC P s now q)
 args:ArgA q.args
section
variable {R:Nat → Prop} {t t':Ro} {m m':Mem} {T P A:Nat} {pr:PrM} {p:PgM} {a a':ArM}
theorem ArR.keep (h:ArR t A a m) (c:Kt R t t' m m') (hn:¬ R 3):ArR t' A a m':=by
 unfold ArR at h ⊢
 have:=h.kc (Y:=fun j => ∀ r,t j = some r → R r) c.kc fun j hj q => absurd (q 3 hj) hn
 exact this.mono fun j _ hj => (c.same j 3 hn).2 hj
theorem MaB.keep (h:MaB t T P A pr p a m) (c:Kt R t t' m m') (h1:¬ R 0) (h2:¬ R 1) (h3:¬ R 2) (h4:¬ R 3):MaB t' T P A pr p a m':=by
 obtain ⟨bd,tT,tP,⟨cx,pg,cv⟩,ar,e⟩:=h
 exact ⟨c.bd,(c.same T 0 h1).2 tT,(c.same P 1 h2).2 tP,⟨cx,c.has tP h2 pg,cv.keep c h3⟩,ar.keep c h4,e⟩
theorem MaB.arena (h:MaB t T P A pr p a m) (u:Up (fun j => t j = some 3) A a' m m'):∃ t',MaB t' T P A pr p a' m' ∧ Chg (· = 3) t t' m m':=by
 obtain ⟨bd,tT,tP,⟨cx,pg,cv⟩,ar,e⟩:=h
 obtain ⟨X',h1,h2,h3⟩:=u
 obtain ⟨tt,M,cs,ns,xs,g1,g2⟩:=id h1
 have c:Chg (· = 3) t (fun j => if tt j ≠ none then some 3 else if t j = some 3 then none else t j) m m':=by
  refine ⟨h2.mono fun j hj => ⟨3,hj,rfl⟩,fun j r hr => ?_,fun j r q hr => ?_,fun j hj => ?_⟩
  ·have hr:r ≠ 3:=hr
   constructor
   ·intro q
    split at q
    ·cases q; exact absurd rfl hr
    ·split at q
     ·cases q
     ·exact q
   ·intro q
    split
    ·rename_i e
     have e2:=g2 j e
     rcases h3 j e2.1 with x | x
     ·rw [q] at x; cases x; exact absurd rfl hr
     ·have:=bd j (by rw [q]; simp); omega
    ·rw [if_neg (by rw [q]; simp; exact hr)]; exact q
  ·have hr:r = 3:=hr
   subst hr
   split at q
   ·rename_i e
    rcases h3 j (g2 j e).1 with x | x
    ·exact .inl ⟨3,x,rfl⟩
    ·exact .inr x
   ·split at q
    ·cases q
    ·rename_i e; exact absurd q e
  ·split at hj
   ·rename_i e; exact (g2 j e).2
   ·split at hj
    ·exact absurd rfl hj
    ·exact Nat.lt_of_lt_of_le (bd j hj) h2.next
 refine ⟨_,⟨c.bd,(c.same T 0 (by simp)).2 tT,(c.same P 1 (by simp)).2 tP,⟨cx,c.kt.has tP (by simp) pg,cv.keep c.kt (by simp)⟩,⟨tt,M,cs,ns,xs,g1,fun j hj => ⟨?_,(g2 j hj).2⟩⟩,e⟩,c⟩
 show (if tt j ≠ none then some 3 else _) = some 3
 rw [if_pos hj]
theorem TkA.keep {s:MaM} {now:AV} {q:RestA} (h:TkA t T P A pr p s now q m) (c:Kt R t t' m m') (h1:¬ R 0) (h2:¬ R 1) (h3:¬ R 2) (h4:¬ R 3):TkA t' T P A pr p s now q m':=⟨h.b.keep c h1 h2 h3 h4,c.has h.b.tT h1 h.tk,h.args⟩
theorem TkA.set {s s':MaM} {now now':AV} {q q':RestA} (h:TkA t T P A pr p s now q m) (ha:s'.ar = s.ar) (hq:ArgA q'.args):TkA t T P A pr p s' now' q' (m.set T (tkC P s' now' q')) ∧ Chg (· = 0) t t m (m.set T (tkC P s' now' q')):=by
 obtain ⟨b,⟨tl,w,tk⟩,args⟩:=h
 have c:Chg (· = 0) t t m (m.set T (tkC P s' now' q')):=by
  refine ⟨(Aau T _ m).mono fun j e => ?_,fun _ _ _ => Iff.rfl,fun j r q hr => .inl ⟨r,q,hr⟩,fun j q => by simpa using b.bd j q⟩
  have e:j = T:=e
  subst e
  exact ⟨0,b.tT,rfl⟩
 refine ⟨⟨?_,⟨by simpa using tl,m.clock + 1,by simp⟩,hq⟩,c⟩
 rw [ha]
 obtain ⟨bd,tT,tP,⟨cx,pg,cv⟩,ar,e⟩:=b
 exact ⟨c.bd,tT,tP,⟨cx,c.kt.has tP (by simp) pg,cv.keep c.kt (by simp)⟩,ar.keep c.kt (by simp),e⟩
end
def upd (t:Ro) (id r:Nat):Ro:=fun j => if j = id then some r else t j
@[simp] theorem Acg (t:Ro) (id r:Nat):upd t id r id = some r:=by simp [upd]
theorem Aq8 {t:Ro} {id r j:Nat} (h:j ≠ id):upd t id r j = t j:=by simp [upd,h]
theorem Chg.upd {R:Nat → Prop} {t:Ro} {m m':Mem} {id r:Nat} (hb:∀ j,t j ≠ none → j < m.next) (kc:KpC (fun j => ∃ r,t j = some r ∧ R r) m m') (hr:R r) (h1:m.next ≤ id) (h2:id < m'.next):Chg R t (upd t id r) m m':=by
 refine ⟨kc,fun j r' hn => ?_,fun j r' q hr' => ?_,fun j q => ?_⟩
 ·by_cases e:j = id
  ·subst e
   have:t j = none:=by
    cases hj:t j with
    | none => rfl
    | some x => have:=hb j (by rw [hj]; simp); omega
   rw [Acg,this]
   constructor
   ·intro q; cases q; exact absurd hr hn
   ·intro q; cases q
  ·rw [Aq8 e]
 ·by_cases e:j = id
  ·subst e; exact .inr h1
  ·rw [Aq8 e] at q; exact .inl ⟨r',q,hr'⟩
 ·by_cases e:j = id
  ·subst e; exact h2
  ·rw [Aq8 e] at q; exact Nat.lt_of_lt_of_le (hb j q) kc.next
theorem Chg.same' {R:Nat → Prop} {t:Ro} {m m':Mem} (hb:∀ j,t j ≠ none → j < m.next) (kc:KpC (fun j => ∃ r,t j = some r ∧ R r) m m'):Chg R t t m m':=⟨kc,fun _ _ _ => Iff.rfl,fun j r q hr => .inl ⟨r,q,hr⟩,fun j q => Nat.lt_of_lt_of_le (hb j q) kc.next⟩
theorem Chg.set {R:Nat → Prop} {t:Ro} {m:Mem} {id r:Nat} (hb:∀ j,t j ≠ none → j < m.next) (hi:t id = some r) (hr:R r) (cs:List AV):Chg R t t m (m.set id cs):=Chg.same' hb ((Aau id cs m).mono fun j e => by
 have e:j = id:=e
 subst e
 exact ⟨r,hi,hr⟩)
theorem StA.okc {t:Ro} {r:Nat} {m:Mem} {x:AV} {l:List Val} (h:StA t r m x l):x.okc = true ∧ x.cells = [x]:=by
 rcases h with ⟨_,rfl | rfl⟩ | ⟨id,e,w,_,_,rfl,_⟩ <;> exact ⟨rfl,rfl⟩
@[simp] theorem A5x (m:Mem):fzr m (oneOf []) = (.tup [],m):=rfl
theorem Chg.noRole {R:Nat → Prop} {t t':Ro} {m M1 m':Mem} (h:Chg R t t' M1 m') (hb:∀ j,t j ≠ none → j < m.next) {B:Nat} (h0:m.next ≤ B) (h1:B < M1.next):t' B = none:=by
 have tB:t B = Option.none:=by
  cases hj:t B with
  | none => rfl
  | some r => have:=hb B (by rw [hj]; simp); omega
 cases hj:t' B with
 | none => rfl
 | some r =>
  by_cases e:R r
  ·rcases h.new B r hj e with ⟨r',a,_⟩ | a
   ·rw [tB] at a; cases a
   ·omega
  ·have:=(h.same B r e).1 hj
   rw [tB] at this; cases this
theorem Chg.box0 {R:Nat → Prop} {t t':Ro} {m M1 m':Mem} (h:Chg R t t' M1 m') (hb:∀ j,t j ≠ none → j < m.next) {B:Nat} (h0:m.next ≤ B) (h1:B < M1.next):m'.get B = M1.get B :=
 h.kc.get B h1 fun ⟨r,e,_⟩ => by have:=hb B (by rw [e]; simp); omega
theorem Chg.boxk {R:Nat → Prop} {t t':Ro} {m M1 m':Mem} (h:Chg R t t' M1 m') (hb:∀ j,t j ≠ none → j < m.next) (k1:Kp m M1) {B:Nat} (h0:m.next ≤ B) (h1:B < M1.next) (cs:List AV):Chg R t t' m (m'.set B cs) ∧ Kt (fun _ => False) t' t' m' (m'.set B cs) :=
 ((Chg.refl hb k1).trans h).then ((Aau B cs m').mono fun j e => by
   have e:j = B:=e
   subst e
   exact ⟨h0,h.noRole hb h0 h1⟩)
theorem roHi (h:Nat):10 ≤ roF h ∧ 10 ≤ roP h ∧ 10 ≤ roS h:=by simp only [roF,roP,roS]; omega
theorem TkA.keepR {R:Nat → Prop} {t t':Ro} {m m':Mem} {T P A:Nat} {pr:PrM} {p:PgM} {s:MaM} {now:AV} {q:RestA} (h:TkA t T P A pr p s now q m) (c:Kt R t t' m m') (hR:∀ r,R r → 4 ≤ r):TkA t' T P A pr p s now q m' :=
 h.keep c (fun r => by have:=hR 0 r; omega) (fun r => by have:=hR 1 r; omega) (fun r => by have:=hR 2 r; omega) (fun r => by have:=hR 3 r; omega)
theorem Ak2 (l:List Val) (v:Val):vals (l ++ [v]) = vals l ++ [valA v]:=by simp [vals]
theorem StA.put {t:Ro} {r:Nat} {m:Mem} {x:AV} {l:List Val} (hb:∀ j,t j ≠ none → j < m.next) (h:StA t r m x l) (hl:l.length ≤ 4096) (v:Val):∃ x' m' t',aappend Tryz.prog 48 x none (some [valA v]) m = some (x',m') ∧ StA t' r m' x' (l ++ [v]) ∧ Chg (· = r) t t' m m':=by
 have hf:fzx Tryz.prog 48 m [valA v] = ([valA v],m):=by simp
 have ho:okAll 2 [valA v] = true:=by simp [Aal,Abi]
 have hv:([valA v]:List AV) ≠ []:=by simp
 rcases h with ⟨rfl,hx⟩ | ⟨id,e,w,h1,h2,rfl,h4⟩
 ·have key:∀ n,n ≤ 1 → x = .emp n → ∃ x' m' t',aappend Tryz.prog 48 x none (some [valA v]) m = some (x',m') ∧ StA t' r m' x' ([] ++ [v]) ∧ Chg (· = r) t t' m m':=by
   rintro n hn rfl
   refine ⟨_,_,_,Agw hn el48 hv ho hf (by simp),.inr ⟨m.next,[],m.clock + 1,Acg t m.next r,by simp,by simp,by simp [vals]⟩,Chg.upd hb (.of (.of (.new _ _ _))) rfl (Nat.le_refl _) (by simp)⟩
  rcases hx with hx | hx
  ·exact key 0 (by omega) hx
  ·exact key 1 (by omega) hx
 ·cases e with
  | nil =>
   rw [List.append_nil] at h4
   refine ⟨_,_,_,Agv (len:=l.length) el48 hv ho hf h4 (by rw [Aaz (Aa5 l),Aav]) (by simp; omega),.inr ⟨m.next,[],(m.kill id).clock + 1,Acg t m.next r,by simp,by simp,?_⟩,Chg.upd hb ⟨by simp,fun j hj hn => ?_,fun j hj hn => by simp⟩ rfl (Nat.le_refl _) (by simp)⟩
   ·simp [Ak2,Abr]
   ·have a1:j ≠ id:=fun e => hn ⟨r,by rw [e]; exact h1,rfl⟩
    have a2:j ≠ m.next:=by omega
    simp [a1,a2,Ne.symm a1]
  | cons y e =>
   refine ⟨_,_,_,A16 (len:=l.length) el48 hv ho hf h4 (by rw [Aaz (Aa5 _),Aav]; simp; omega) (by simp; omega),.inr ⟨id,e,m.clock + 1,h1,by simpa using h2,by simp,?_⟩,Chg.set (R:=(· = r)) hb h1 rfl _⟩
   have e1:=Acn (l ++ y :: e) l.length v (by simp)
   have e0:flat [valA v] = [int v.1,int v.2]:=by simp [flat,valA]
   rw [e0,e1]
   simp
theorem Ael:∀ (l:List Val) (k:Nat),(flat (vals l)).drop (k * 2) = flat (vals (l.drop k))
 | l,0 => by simp
 | [],k + 1 => by simp [vals,flat]
 | x :: l,k + 1 => by
  have e:(k + 1) * 2 = k * 2 + 1 + 1:=by omega
  rw [Aa2,Aa4,e]
  simpa [valA] using Ael l k
theorem chunkV:∀ (l:List Val) (r:List AV),chunk 2 true l.length (flat (vals l) ++ r) = vals l
 | [],r => rfl
 | x :: l,r => by
  have ih:=chunkV l r
  simp [Aa2,Aa4,chunk,valA,ih]
theorem Auu (l r:List Val):vals (l ++ r) = vals l ++ vals r:=by simp [vals]
section
variable {m:Mem} {id k n w:Nat} {fz:Bool} {L:List Val}
theorem Aix (hg:m.get id = some (.cells (flat (vals L)) fz w)) (hk:k + n ≤ L.length):elemsOf m (.sl id (k * 2) n 2 true none) = some (vals ((L.drop k).take n)):=by
 have hn:((L.drop k).take n).length = n:=by simp; omega
 have e:L.drop k = (L.drop k).take n ++ (L.drop k).drop n:=(List.take_append_drop _ _).symm
 have q:=chunkV ((L.drop k).take n) (flat (vals ((L.drop k).drop n)))
 rw [← Abr,← Auu,← e,hn] at q
 simp only [elemsOf,hg]
 rw [if_pos ⟨by rw [Aaz (Aa5 L),Aav]; omega,rfl⟩,Ael,q]
theorem runP {v:Val} {l:List Val} (hg:m.get id = some (.cells (flat (vals L)) fz w)) (hid:id < m.next) (hk:k + n ≤ L.length) (hl:(L.drop k).take n = v :: l) (hb:l.length < 4096):EH Tryz.prog cf0 (.func 49) [.sl id (k * 2) n 2 true none] m (.sl (m.next + 1) 0 (l.length + 1) 2 true none) ((m.new [] false).new (flat (vals (v :: l))) false):=by
 refine eh_of ?_
 have e0:n = l.length + 1:=by
  have:=congrArg List.length hl
  simp at this
  omega
 have hs:srcOf (m.new [] false) (.sl id (k * 2) n 2 true none) = some (vals (v :: l)):=by
  have hg1:(m.new [] false).get id = some (.cells (flat (vals L)) fz w):=by
   have:id ≠ m.next:=by omega
   simp [this,hg]
  rw [← hl,← Aix hg1 hk]
  rfl
 have q:=Acu (P:=Tryz.prog) (T:=48) (k:=2) (ag:=true) (ag':=true) (id:=m.next) (ys:=vals (v :: l)) (ys':=vals (v :: l)) (m:=m.new [] false) (m':=m.new [] false) (v:=m.clock + 1) el48 (by simp [Aa2]) (Aa5 _) (by simp) (by simp) (by simp; omega)
 have nn:∀ {xo yo:Operand},abin Tryz.prog .eql 48 xo yo (.sl id (k * 2) n 2 true none) (.emp 0) = some (.sc (.bool false)):=by
  intro xo yo
  have h1:nilTest Tryz.prog 48 (.sl id (k * 2) n 2 true none) (.emp 0) = some false:=by simp [nilTest,Tryz.underlying48]
  simp [abin,h1,plain]
 refine Aah Tryz.func49 rfl rfl (by simp [Tryz.f49]) (by simp [Tryz.f49]) fun Q hQ => ?_
 simp only [Tryz.f49,show cf0.keepRes 49 = true from rfl,show cf0.keepArgs 49 = true from rfl] at hQ ⊢
 simp [nn,abuildSlice,fillAt,zeros,hs,q]
 refine hQ _ _ _ ⟨.inr rfl,_,rfl,?_⟩
 simp [oneOf]
theorem w49 (hg:m.get id = some (.cells (flat (vals L)) fz w)) (hid:id < m.next) (hk:k + n ≤ L.length) (hb:n ≤ 4096):wph Tryz.prog ca (.func 49) [.sl id (k * 2) n 2 true none] m fun v m' => Kp m m' ∧ Fresh m m' v ((L.drop k).take n):=by
 have he:=Aix hg hk
 cases hl:(L.drop k).take n with
 | nil =>
  have e:cloneL Tryz.prog 49 [.sl id (k * 2) n 2 true none] m = some (.emp 1,m.skip):=by
   simp only [cloneL,he,hl,Ajq]
  exact ⟨_,_,Abp rfl e,Aj3 (.refl m),.inl ⟨rfl,rfl⟩⟩
 | cons v l =>
  have hb2:l.length < 4096:=by
   have:=congrArg List.length hl
   simp at this
   omega
  have e:cloneL Tryz.prog 49 [.sl id (k * 2) n 2 true none] m = some (.sl (m.next + 1) 0 (l.length + 1) 2 true none,(m.new [] false).new (flat (vals (v :: l))) false):=by
   simp only [cloneL,he,hl,Aa2]
   exact Adx (runP hg hid hk hl hb2)
  exact ⟨_,_,Abp rfl e,by simp,.inr ⟨by simp,_,_,rfl,by omega,by simp,by simp; rfl⟩⟩
end
theorem Fresh.fzc {m m':Mem} {x:AV} {l:List Val} (h:Fresh m m' x l):∃ m2,fzr m' x = (.lst (vals l),m2) ∧ KpC (fun j => m.next ≤ j) m' m2:=by
 rcases h with ⟨rfl,rfl⟩ | ⟨h,id,v,rfl,h1,h2,h3⟩
 ·exact ⟨m',rfl,.refl _ _⟩
 ·have e:=Ado (k:=2) (ag:=true) (cap:=none) (ys:=vals l) rfl h3 (Add l) (Aa5 l)
  rw [Aav] at e
  refine ⟨_,e,by simp,fun j hj hn => ?_,fun j hj hn => by simp⟩
  have:j ≠ id:=fun e => hn (by rw [e]; exact h1)
  simp [this]
theorem w49e {m:Mem} {b:Nat} (hb:b ≤ 1):wph Tryz.prog ca (.func 49) [.emp b] m fun v m' => Kp m m' ∧ Fresh m m' v []:=by
 have e:cloneL Tryz.prog 49 [.emp b] m = some (.emp 1,m.skip):=by simp only [cloneL,elemsOf]
 exact ⟨_,_,Abp rfl e,Aj3 (.refl m),.inl ⟨rfl,rfl⟩⟩
theorem noRo {h:Nat}:roF h ≠ roS h ∧ roF h ≠ roP h ∧ roP h ≠ roS h ∧ roS h ≠ roF h ∧ roP h ≠ roF h ∧ roS h ≠ roP h:=by simp only [roF,roP,roS]; omega
theorem Akd {t:Ro} {h F:Nat} {g:FrM} {px cx sx u:AV} {m:Mem} (tF:t F = some (roF h)) (hl:F < m.next) (par:StA t (roP h) m px g.params) (cap:CapA cx g.caps) (stk:StA t (roS h) m sx g.stack) (hb:∀ j,t j ≠ none → j < m.next):FrB t h F g px cx sx u (m.set F (frC g h px cx sx u)) ∧ Chg (· = roF h) t t m (m.set F (frC g h px cx sx u)):=by
 have c:Chg (· = roF h) t t m (m.set F (frC g h px cx sx u)):=Chg.set (R:=(· = roF h)) hb tF rfl _
 exact ⟨⟨tF,⟨by simpa using hl,m.clock + 1,by simp⟩,par.keep c.kt (noRo.2.2.2.2.1),cap,stk.keep c.kt (noRo.2.2.2.1)⟩,c⟩
theorem Ag5 {m:Mem} {v:Val} {c:Option Nat}:srcOf (m.new [int v.1,int v.2] false) (.sl m.next 0 1 2 true c) = some [valA v]:=by
 simp [srcOf,elemsOf,chunk,valA]
section
variable {t:Ro} {h F:Nat} {f:FrM} {px cx sx u:AV} {m:Mem}
theorem w64 (hb:∀ j,t j ≠ none → j < m.next) (hf:FrB t h F f px cx sx u m) (hl:f.stack.length ≤ 4096) (v:Val):wph Tryz.prog ca (.func 64) [.ptr F 0,valA v] m fun r m' => r = .tup [] ∧ ∃ t' sx',FrB t' h F (f.put v) px cx sx' u m' ∧ Chg (fun r => r = roF h ∨ r = roS h) t t' m m':=by
 obtain ⟨M1,hM1⟩:∃ M1,M1 = m.new [int v.1,int v.2] false:=⟨_,rfl⟩
 obtain ⟨M2,hM2⟩:∃ M2,M2 = M1.new [int v.1,int v.2] false:=⟨_,rfl⟩
 have k1:Kp m M1:=by rw [hM1]; simp
 have k2:Kp M1 M2:=by rw [hM2]; simp
 have n1:M1.next = m.next + 1:=by rw [hM1]; simp
 have b0:M1.get m.next = some (.cells [int v.1,int v.2] false (m.clock + 1)):=by rw [hM1]; simp
 have hsrc:srcOf M2 (.sl M1.next 0 1 2 true (some 1)) = some [valA v]:=by rw [hM2]; exact Ag5
 have c1:Chg (fun _ => False) t t m M1:=Chg.refl hb k1
 have c2:Chg (fun _ => False) t t m M2:=Chg.refl hb (k1.trans k2)
 have f1:=hf.keep c1.kt (by simp) (by simp) (by simp)
 have f2:=hf.keep c2.kt (by simp) (by simp) (by simp)
 obtain ⟨x',m3,t',a1,a2,a3⟩:=f2.stk.put c2.bd hl v
 obtain ⟨_,w1,g1⟩:=f1.get
 obtain ⟨_,w2,g2⟩:=f2.get
 obtain ⟨hF3,w3,g3⟩:=a3.kt.has f2.tF noRo.1 f2.get
 obtain ⟨z1,z2⟩:=Akd (u:=u) (g:=f.put v) ((a3.same F (roF h) noRo.1).2 f2.tF) hF3 (f2.par.keep a3.kt noRo.2.2.1) f2.cap a2 a3.bd
 have nF:F ≠ m.next:=by have:=hf.get.1; omega
 refine Aah Tryz.func64 rfl rfl (by simp [Tryz.f64]) (by simp [Tryz.f64]) fun Q hQ => ?_
 simp only [Tryz.f64,show ca.keepRes 64 = false from rfl,show ca.keepArgs 64 = false from rfl] at hQ ⊢
 simp
 rw [← hM1]
 clear hM1
 refine Aaq (by kernel_rfl) ?_
 simp [g1,b0,frC,abuildSlice,zeros,fillAt,Aad,abuiltin]
 rw [← hM2,hsrc]
 obtain ⟨o1,o2⟩:=a2.okc
 simp [a1,g3,frC,o1,o2]
 have g12:=k2.get F f1.get.1
 refine Aa0 (l:=[(4,6)]) (by kernel_rfl) (?_:List.all _ _ = true) ?_
 ·simp [metAtD,metOkD,rank,verKeptD,Region.wanted,Mem.ver,g1,g12]
 simp
 exact hQ _ _ _ ⟨.inl rfl,[],rfl,rfl,t',x',z1,((c2.mono fun _ q => q.elim).trans (a3.mono fun _ q => .inr q)).trans (z2.mono fun _ q => .inl q)⟩
theorem len48 (x:AV) (l:List Val) (h:StA t (roS 0) m x l ∨ StA t (roS h) m x l ∨ x = .lst (vals l)) (R:TypeId) (m':Mem):abuiltin Tryz.prog .len #[48] R [x] m' = some (int l.length,m'):=by
 rcases h with (⟨rfl,rfl | rfl⟩ | ⟨id,e,w,_,_,rfl,_⟩) | (⟨rfl,rfl | rfl⟩ | ⟨id,e,w,_,_,rfl,_⟩) | rfl
 all_goals first
  | (rw [Ach Tryz.underlying48]; rfl)
  | rw [Ab6 Tryz.underlying48]
  | (rw [Abn Tryz.underlying48]; simp)
theorem w67 (hf:FrB t h F f px cx sx u m) {id:Nat} (hsx:sx = .sl id 0 f.stack.length 2 true none) (hid:id < m.next) (hne:1 ≤ f.stack.length) (hl:f.stack.length ≤ 4096):EH Tryz.prog ca (.func 67) [.ptr F 0] m (.ptr id ((f.stack.length - 1) * 2)) m:=by
 obtain ⟨_,w,g⟩:=hf.get
 have hw:IntKind.i64.wrap ((f.stack.length:Int) - 1) = ((f.stack.length - 1:Nat):Int):=by rw [IntWalk.i64_in _ (by omega)]; omega
 have hix:=Aar (P:=Tryz.prog) (q:=.i64) (ag:=true) (c:=none) (id:=id) (off:=0) (len:=f.stack.length) (i:=f.stack.length - 1) Tryz.underlying48 Aba (by omega)
 refine Aa1 Tryz.func67 rfl rfl rfl rfl (args1:=[.ptr F 0]) (m1:=m) (by simp) (by simp [AV.bel,hid]) (by simp [Tryz.f67]) (by simp [Tryz.f67]) ?_
 simp [Tryz.f67,show ca.keepRes 67 = false from rfl]
 refine Aat (by kernel_rfl) (by kernel_rfl) ?_
 subst hsx
 simp [g,frC,Ab6 Tryz.underlying48,hw,hix]
theorem StA.cut {r:Nat} {x:AV} {l:List Val} (hs:StA t r m x l) {n:Nat} (hn:n ≤ l.length):∃ x',aslice Tryz.prog 48 x none (some (int ((l.length - n:Nat):Int))) none = some x' ∧ StA t r m x' (l.take (l.length - n)):=by
 rcases hs with ⟨rfl,hx⟩ | ⟨id,e,w,h1,h2,rfl,h4⟩
 ·have h0:n = 0:=by simpa using hn
  subst h0
  rcases hx with rfl | rfl
  ·exact ⟨_,Aeh (b:=0) Tryz.underlying48 Aba Aa3 (Abg (n:=0)) (by simp) (by simp) (by omega),.inl ⟨rfl,.inl rfl⟩⟩
  ·exact ⟨_,Aeh (b:=1) Tryz.underlying48 Aba Aa3 (Abg (n:=0)) (by simp) (by simp) (by omega),.inl ⟨rfl,.inr rfl⟩⟩
 ·have e1:=Afj (P:=Tryz.prog) (T:=48) (c:=0) (id:=id) (off:=0) (len:=l.length) (k:=2) (ag:=true) (cap:=none) (lo:=none) (hi:=some (int ((l.length - n:Nat):Int))) (l:=none) (h:=some (l.length - n)) Tryz.underlying48 Aba Aa3 (Abg (n:=l.length - n)) (by simp) (by simp)
  refine ⟨_,e1,.inr ⟨id,l.drop (l.length - n) ++ e,w,h1,h2,by simp,?_⟩⟩
  rw [← List.append_assoc,List.take_append_drop]
  exact h4
theorem StA.part {r:Nat} {x:AV} {l:List Val} (hs:StA t r m x l) {n:Nat} (hn:n ≤ l.length) (hl:l.length ≤ 4096) {m':Mem} (k:Kp m m'):∃ y,aslice Tryz.prog 48 x (some (int ((l.length - n:Nat):Int))) none none = some y ∧ wph Tryz.prog ca (.func 49) [y] m' fun v m2 => Kp m' m2 ∧ Fresh m' m2 v (l.drop (l.length - n)):=by
 rcases hs with ⟨rfl,hx⟩ | ⟨id,e,w,h1,h2,rfl,h4⟩
 ·have h0:n = 0:=by simpa using hn
  subst h0
  rcases hx with rfl | rfl
  ·exact ⟨_,Aeh (b:=0) Tryz.underlying48 Aba (Abg (n:=0)) Aa3 (by simp) (by simp) (by omega),w49e (by omega)⟩
  ·exact ⟨_,Aeh (b:=1) Tryz.underlying48 Aba (Abg (n:=0)) Aa3 (by simp) (by simp) (by omega),w49e (by omega)⟩
 ·have e1:=Afj (P:=Tryz.prog) (T:=48) (c:=0) (id:=id) (off:=0) (len:=l.length) (k:=2) (ag:=true) (cap:=none) (lo:=some (int ((l.length - n:Nat):Int))) (hi:=none) (l:=some (l.length - n)) (h:=none) Tryz.underlying48 Aba (Abg (n:=l.length - n)) Aa3 (by simp) (by simp)
  refine ⟨_,e1,?_⟩
  have hg:m'.get id = some (.cells (flat (vals (l ++ e))) false w):=by rw [k.get id h2]; exact h4
  have hl2:((l ++ e).drop (l.length - n)).take n = l.drop (l.length - n):=by
   rw [List.drop_append_of_le_length (by omega)]
   rw [List.take_append_of_le_length (by simp; omega),List.take_of_length_le (by simp; omega)]
  have q:=w49 (k:=l.length - n) (n:=n) hg (Nat.lt_of_lt_of_le h2 k.next) (by simp; omega) (by omega)
  rw [hl2] at q
  have e2:l.length - (l.length - n) = n:=by omega
  simpa [e2] using q
theorem w68 (hb:∀ j,t j ≠ none → j < m.next) (hf:FrB t h F f px cx sx u m) (hl:f.stack.length ≤ 4096) {n:Nat} (hn:n ≤ f.stack.length):wph Tryz.prog ca (.func 68) [.ptr F 0,int n] m fun r m' => r = .lst (vals (f.last n)) ∧ ∃ sx',FrB t h F (f.cut n) px cx sx' u m' ∧ Chg (fun r => r = roF h) t t m m':=by
 obtain ⟨hFl,w,g⟩:=hf.get
 obtain ⟨x',c1,c2⟩:=hf.stk.cut hn
 obtain ⟨y,p1,p2⟩:=hf.stk.part hn hl (.refl m)
 have hlen:=len48 (h:=h) sx f.stack (.inr (.inl hf.stk))
 have hw:IntKind.i64.wrap ((f.stack.length:Int) - n) = ((f.stack.length - n:Nat):Int):=by rw [IntWalk.i64_in _ (by omega)]; omega
 refine Aah Tryz.func68 rfl rfl (by simp [Tryz.f68]) (by simp [Tryz.f68]) fun Q hQ => ?_
 simp only [Tryz.f68,show ca.keepRes 68 = false from rfl,show ca.keepArgs 68 = false from rfl] at hQ ⊢
 simp [g,frC,hlen,hw,p1]
 refine Aac p2 ?_
 rintro v m2 ⟨k2,fr⟩
 have g2:=(k2.get F hFl).trans g
 have hb2:∀ j,t j ≠ none → j < m2.next:=fun j hj => Nat.lt_of_lt_of_le (hb j hj) k2.next
 have hc:Chg (fun _ => False) t t m m2:=Chg.refl hb k2
 obtain ⟨z1,z2⟩:=Akd (u:=u) (g:=f.cut n) hf.tF (Nat.lt_of_lt_of_le hFl k2.next) (hf.par.keep hc.kt (by simp)) hf.cap (c2.keep hc.kt (by simp)) hb2
 obtain ⟨o1,o2⟩:=fr.okc
 obtain ⟨o3,o4⟩:=c2.okc
 simp [o1,o2,o3,o4,g2,frC,c1]
 obtain ⟨m4,y1,y2⟩:=(fr.keep (m2:=m2.set F (frC (f.cut n) h px cx x' u)) (Nat.le_refl _) (by simp) fun j h1 h2 => by simp [show j ≠ F by omega]).fzc
 refine hQ _ _ _ ?_
 rw [Abm]
 have hno:∀ j,m.next ≤ j → t j = none:=fun j hj => by
  cases hj':t j with
  | none => rfl
  | some r => have:=hb j (by rw [hj']; simp); omega
 obtain ⟨w1,w2⟩:=((hc.mono fun _ q => q.elim).trans z2).then (y2.mono fun j hj => ⟨hj,hno j hj⟩)
 simp only [frC,FrM.cut] at y1
 simp [y1]
 exact ⟨rfl,⟨_,z1.keep w2 (by simp) (by simp) (by simp)⟩,w1⟩
end
theorem w110 (m:Mem):EH Tryz.prog ca (.func 110) [] m (valA (4,0)) m:=by
 refine Aa1 Tryz.func110 rfl rfl rfl rfl (args1:=[]) (m1:=m) (by simp [fzvs]) (by simp) (by simp [Tryz.f110]) (by simp [Tryz.f110]) ?_
 simp [Tryz.f110,show ca.keepRes 110 = false from rfl,abuild,placesOf,fillAt,valA]
theorem w70 (m:Mem):EH Tryz.prog ca (.func 70) [] m (valA (2,0)) m:=by
 refine Aa1 Tryz.func70 rfl rfl rfl rfl (args1:=[]) (m1:=m) (by simp [fzvs]) (by simp) (by simp [Tryz.f70]) (by simp [Tryz.f70]) ?_
 simp [Tryz.f70,show ca.keepRes 70 = false from rfl,abuild,placesOf,fillAt,valA]
section
variable {t:Ro} {T P A:Nat} {pr:PrM} {p:PgM} {s:MaM} {now:AV} {q:RestA} {m:Mem}
theorem w89 (h:TkA t T P A pr p s now q m) (k:Int):wph Tryz.prog ca (.func 89) [.ptr T 0,int k] m fun r m' => r = .tup [] ∧ ∃ q',TkA t T P A pr p (failM s) nilA q' m' ∧ Chg (· = 0) t t m m':=by
 obtain ⟨hT,w,g⟩:=h.tk
 obtain ⟨z1,y1⟩:=h.set (s':={ s with status:=4 }) (now':=now) (q':=q) rfl h.args
 obtain ⟨z2,y2⟩:=z1.set (s':={ s with status:=4 }) (now':=nilA) (q':=q) rfl h.args
 obtain ⟨z3,y3⟩:=z2.set (s':=failM s) (now':=nilA) (q':=⟨q.nm,q.n,q.args,k,(4,0)⟩) rfl h.args
 refine Aah Tryz.func89 rfl rfl (by simp [Tryz.f89]) (by simp [Tryz.f89]) fun Q hQ => ?_
 simp only [Tryz.f89,show ca.keepRes 89 = false from rfl,show ca.keepArgs 89 = false from rfl] at hQ ⊢
 simp [g,tkC,(w110 _).go,abuild,placesOf,fillAt]
 exact hQ _ _ _ ⟨.inl rfl,[],rfl,rfl,_,z3,(y1.trans y2).trans y3⟩
theorem w71 (h:TkA t T P A pr p s now q m) {o:Int} {i:Nat} {nm:List UInt8} (hn:pr.names[i]? = some nm) {x:AV} (hx:x = .emp 0 ∨ ∃ l,x = .lst (vals l)):wph Tryz.prog ca (.func 71) [.ptr T 0,int o,int i,x] m fun r m' => r = .tup [] ∧ ∃ q',TkA t T P A pr p { s with status:=2,op:=o } now q' m' ∧ Chg (· = 0) t t m m':=by
 obtain ⟨hT,w,g⟩:=h.tk
 obtain ⟨bd,tT,tP,⟨cx,pg,cv⟩,ar,e⟩:=id h.b
 obtain ⟨hP,wP,gP⟩:=pg
 obtain ⟨l,hz⟩:∃ l,fzvs m [.ptr T 0,int o,int i,x] = ([.ptr T 0,int o,int i,.lst (vals l)],m):=by
  rcases hx with rfl | ⟨l,rfl⟩
  ·exact ⟨[],rfl⟩
  ·exact ⟨l,rfl⟩
 have nTP:P ≠ T:=by
  rintro rfl
  rw [tP] at tT
  cases tT
 obtain ⟨z1,y1⟩:=h.set (s':={ s with status:=2 }) (now':=now) (q':=q) rfl h.args
 obtain ⟨z2,y2⟩:=z1.set (s':={ s with status:=2,op:=o }) (now':=now) (q':=⟨nm,0,.lst (vals l),q.k,q.fv⟩) rfl (.inr (.inr ⟨l,rfl⟩))
 refine Aah Tryz.func71 rfl rfl (by simp [Tryz.f71]) (by simp [Tryz.f71]) fun Q hQ => ?_
 simp only [Tryz.f71,show ca.keepRes 71 = false from rfl,show ca.keepArgs 71 = false from rfl,hz,Bool.false_eq_true,if_false] at hQ ⊢
 simp [g,tkC,gP,pgC,nTP,Ajr hn,abuild,placesOf,fillAt]
 exact hQ _ _ _ ⟨.inl rfl,[],rfl,rfl,_,z2,y1.trans y2⟩
theorem TkA.arena {a':ArM} {m':Mem} (h:TkA t T P A pr p s now q m) (u:Up (fun j => t j = some 3) A a' m m'):∃ t',TkA t' T P A pr p { s with ar:=a' } now q m' ∧ Chg (· = 3) t t' m m':=by
 obtain ⟨b,tk,args⟩:=h
 obtain ⟨t',b',c⟩:=b.arena u
 exact ⟨t',⟨b',c.kt.has b.tT (by simp) tk,args⟩,c⟩
theorem w65 (h:TkA t T P A pr p s now q m) (c:CeM) (h1:c.a.length < 2 ^ 21) (h2:c.s.length < 2 ^ 21) {W w0 off r:Nat} {cs:List AV} (hW:t W = some r) (hr:4 ≤ r) (hg:m.get W = some (.cells cs false w0)) (hl:W < m.next) (hoff:off + 2 ≤ cs.length) :
  wph Tryz.prog ca (.func 65) [.ptr T 0,ceA c,.ptr W off] m fun v m' => v = .tup [] ∧ ∃ t' now' q',Chg (fun r' => r' = 0 ∨ r' = 3 ∨ r' = r) t t' m m' ∧
   (if (allocM s.ar c).2.2 ≠ 0 then now' = nilA ∧ TkA t' T P A pr p (failM { s with ar:=(allocM s.ar c).1 }) now' q' m'
   else now' = now ∧ TkA t' T P A pr p { s with ar:=(allocM s.ar c).1 } now' q' m' ∧ Chg (fun r' => r' = 3 ∨ r' = r) t t' m m' ∧ t' W = some r ∧ ∃ w,m'.get W = some (.cells (splice cs off [int (allocM s.ar c).2.1.1,int (allocM s.ar c).2.1.2]) false w)):=by
 obtain ⟨hT,w,gT⟩:=h.tk
 obtain ⟨bd,tT,tP,⟨cx,⟨hP,wP,gP⟩,cv⟩,ar,e⟩:=id h.b
 refine Aah Tryz.func65 rfl rfl (by simp [Tryz.f65]) (by simp [Tryz.f65]) fun Q hQ => ?_
 simp only [Tryz.f65,show ca.keepRes 65 = false from rfl,show ca.keepArgs 65 = false from rfl] at hQ ⊢
 obtain ⟨M1,hM1⟩:∃ M1,M1 = m.new (ceA c).cells false:=⟨_,rfl⟩
 have k1:Kp m M1:=by rw [hM1]; simp
 have nM:M1.next = m.next + 1:=by rw [hM1]; simp
 have gc:M1.get m.next = some (.cells [int c.k,int c.n,.lst (vals c.a),.lst (byts c.s)] false (m.clock + 1)):=by rw [hM1]; simp
 have gT1:=(k1.get T hT).trans gT
 have gP1:=(k1.get P hP).trans gP
 have ecA:AV.agg [int c.k,int c.n,.lst (vals c.a),.lst (byts c.s)] = ceA c:=rfl
 have k0:Chg (fun _ => False) t t m M1:=Chg.refl bd k1
 have hT1:=h.keep k0.kt (by simp) (by simp) (by simp) (by simp)
 simp
 simp at hM1
 rw [← hM1]
 clear hM1
 refine Aaq (by kernel_rfl) ?_
 simp [gT1,gP1,tkC,pgC,gc,ecA]
 refine Aac (q60 hT1.b.ar c h1 h2) ?_
 rintro _ m5 ⟨rfl,hup⟩
 obtain ⟨t5,hT5,c5⟩:=hT1.arena hup
 have n5:=c5.kc.next
 have no3:∀ {j:Nat} {r:Nat},t j = some r → r ≠ 3 → j < M1.next → m5.get j = M1.get j:=fun hj hr hl => (c5.kt.get hj (by simpa using hr) hl).1
 have g5T:=(no3 tT (by omega) (by omega)).trans gT1
 have g5P:=(no3 tP (by omega) (by omega)).trans gP1
 have g5c:m5.get m.next = _:=(c5.kc.get m.next (by omega) (fun ⟨r,a,_⟩ => by have:=bd m.next (by rw [a]; simp); omega)).trans gc
 have g5W:=(no3 hW (by omega) (by omega)).trans ((k1.get W hl).trans hg)
 have nT:T ≠ m5.next:=by omega
 have nP:P ≠ m5.next:=by omega
 have nc:m.next ≠ m5.next:=by omega
 have nW:W ≠ m5.next:=by omega
 simp
 refine Aa0 (l:=[(3,12),(6,12),(7,12)]) (by kernel_rfl) (?_:List.all _ _ = true) ?_
 ·simp [metAtD,metOkD,rank,verKeptD,Region.wanted,Mem.ver,gT1,gP1,gc,g5T,g5P,g5c,nT,nP,nc]
 obtain ⟨M6,hM6⟩:∃ M6,M6 = (m5.new [int 0,int 0] false).set m5.next [int (allocM s.ar c).2.1.1,int (allocM s.ar c).2.1.2]:=⟨_,rfl⟩
 have k6:Kp m5 M6:=by rw [hM6]; simp
 have g6:∃ w,M6.get m5.next = some (.cells [int (allocM s.ar c).2.1.1,int (allocM s.ar c).2.1.2] false w):=by rw [hM6]; exact ⟨_,by simp; rfl⟩
 obtain ⟨w6,g6⟩:=g6
 have g6W:=(k6.get W (by omega)).trans g5W
 have c6:Chg (fun _ => False) t5 t5 m5 M6:=Chg.refl c5.bd k6
 have hT6:=hT5.keep c6.kt (by simp) (by simp) (by simp) (by simp)
 have call:Chg (fun r' => r' = 3) t t5 m M6:=(Chg.ahead bd k1 c5).trans (c6.mono fun _ q => q.elim)
 by_cases he:(allocM s.ar c).2.2 = 0
 ·have t5W:t5 W = some r:=(c5.same W r (by show ¬ r = 3; omega)).2 hW
  have cW:Chg (· = r) t5 t5 M6 (M6.set W (splice cs off [int (allocM s.ar c).2.1.1,int (allocM s.ar c).2.1.2])):=Chg.set (R:=(· = r)) c6.bd t5W rfl _
  have hs:splice cs off [int (allocM s.ar c).2.1.1,int (allocM s.ar c).2.1.2] = cs.take off ++ int (allocM s.ar c).2.1.1 :: int (allocM s.ar c).2.1.2 :: cs.drop (off + 2):=by simp [splice]
  rw [hs] at cW
  simp [he,g5W,nW,hoff]
  rw [← hM6]
  refine hQ _ _ _ ⟨.inl rfl,[],rfl,rfl,t5,now,q,(call.mono fun _ q => .inr (.inl q)).trans (Chg.mono cW fun _ q => Or.inr (Or.inr q)),?_⟩
  rw [if_neg (by rw [he]; simp)]
  exact ⟨rfl,hT6.keep cW.kt (by omega) (by omega) (by omega) (by omega),(call.mono fun _ q => .inl q).trans (Chg.mono cW fun _ q => Or.inr q),t5W,M6.clock + 1,by rw [hs]; simp⟩
 ·simp [he]
  rw [← hM6]
  refine Aac (w89 hT6 8) ?_
  rintro _ m7 ⟨rfl,q7,hT7,c7⟩
  simp
  refine hQ _ _ _ ⟨.inr rfl,[],rfl,rfl,t5,nilA,q7,(call.mono fun _ q => .inr (.inl q)).trans (c7.mono fun _ q => .inl q),?_⟩
  rw [if_pos he]
  exact ⟨rfl,hT7⟩
theorem w66 (h:TkA t T P A pr p s now q m) (hsm:Small s.ar) (hb4:∀ v:Val,(getM s.ar v).2 = 0 → (getM s.ar v).1.k = 4 → 1 ≤ (getM s.ar v).1.a.length) (v:Val) :
  wph Tryz.prog ca (.func 66) [.ptr T 0,valA v] m fun r m' => ∃ q',Chg (· = 0) t t m m' ∧
   (match unboxM s.ar v with
   | some x => r = .tup [valA x,.sc (.bool true)] ∧ TkA t T P A pr p s now q' m' ∧ Kp m m'
   | none => r = .tup [valA v,.sc (.bool false)] ∧ TkA t T P A pr p (failM s) nilA q' m'):=by
 obtain ⟨hT,w,gT⟩:=h.tk
 obtain ⟨bd,tT,tP,⟨cx,⟨hP,wP,gP⟩,cv⟩,ar,e⟩:=id h.b
 obtain ⟨M1,hM1⟩:∃ M1,M1 = (m.new [int v.1,int v.2] false).new [int 0,int 0] false:=⟨_,rfl⟩
 have k1:Kp m M1:=by rw [hM1]; simp
 have nM:M1.next = m.next + 2:=by rw [hM1]; simp
 have b0:M1.get m.next = some (.cells [int v.1,int v.2] false (m.clock + 1)):=by rw [hM1]; simp
 have b1:M1.get (m.next + 1) = some (.cells [int 0,int 0] false (m.clock + 2)):=by rw [hM1]; simp
 have gT1:=(k1.get T hT).trans gT
 have gP1:=(k1.get P hP).trans gP
 have k0:Chg (fun _ => False) t t m M1:=Chg.refl bd k1
 have hT1:=h.keep k0.kt (by simp) (by simp) (by simp) (by simp)
 have qg:=q57 hT1.b.ar hsm v
 obtain ⟨c,hc⟩:∃ c,c = (getM s.ar v).1:=⟨_,rfl⟩
 refine Aah Tryz.func66 rfl rfl (by simp [Tryz.f66]) (by simp [Tryz.f66]) fun Q hQ => ?_
 simp only [Tryz.f66,show ca.keepRes 66 = false from rfl,show ca.keepArgs 66 = false from rfl] at hQ ⊢
 simp
 rw [← hM1]
 clear hM1
 have nT:T ≠ M1.next:=by omega
 have nP:P ≠ M1.next:=by omega
 have n0:m.next ≠ M1.next:=by omega
 have n1:m.next + 1 ≠ M1.next:=by omega
 refine Aaq (by kernel_rfl) ?_
 simp [gT1,gP1,tkC,pgC,b0,Aad,qg.go]
 refine Aa0 (l:=[(3,12),(6,12),(7,12)]) (by kernel_rfl) (?_:List.all _ _ = true) ?_
 ·simp [metAtD,metOkD,rank,verKeptD,Region.wanted,Mem.ver,gT1,gP1,b0,nT,nP,n0]
 obtain ⟨M2,hM2⟩:∃ M2,M2 = (M1.new [int 0,int 0,.emp 0,.emp 0] false).set M1.next [int (getM s.ar v).1.k,int (getM s.ar v).1.n,.lst (vals (getM s.ar v).1.a),.lst (byts (getM s.ar v).1.s)]:=⟨_,rfl⟩
 have k2:Kp M1 M2:=by rw [hM2]; simp
 have g2:∃ w,M2.get M1.next = some (.cells [int (getM s.ar v).1.k,int (getM s.ar v).1.n,.lst (vals (getM s.ar v).1.a),.lst (byts (getM s.ar v).1.s)] false w):=by rw [hM2]; exact ⟨_,by simp; rfl⟩
 obtain ⟨w2,g2⟩:=g2
 have b20:=(k2.get m.next (by omega)).trans b0
 have b21:=(k2.get (m.next + 1) (by omega)).trans b1
 have c2:Chg (fun _ => False) t t m M2:=Chg.refl bd (k1.trans k2)
 have hT2:=h.keep c2.kt (by simp) (by simp) (by simp) (by simp)
 rw [← hM2]
 clear hM2
 have fin:∀ (s':Sl) (x:Val) (b:Bool) (m7:Mem),s'.at 4 = .ptr (m.next + 1) 0 → s'.at 5 = .sc (.bool b) → (∃ cs w,m7.get (m.next + 1) = some (.cells cs false w)) → (∃ q',Chg (· = 0) t t m (m7.set (m.next + 1) [int x.1,int x.2]) ∧
   (match unboxM s.ar v with
   | some y => y = x ∧ b = true ∧ TkA t T P A pr p s now q' (m7.set (m.next + 1) [int x.1,int x.2]) ∧ Kp m (m7.set (m.next + 1) [int x.1,int x.2])
   | none => x = v ∧ b = false ∧ TkA t T P A pr p (failM s) nilA q' (m7.set (m.next + 1) [int x.1,int x.2]))) → Q .ret s' (m7.set (m.next + 1) [int x.1,int x.2]):=by
  rintro s' x b m7 h4 h5 _ ⟨q',hc,hm⟩
  refine hQ _ _ _ ?_
  rw [Aao]
  refine ⟨[valA x,.sc (.bool b)],by simp [aresult,h4,h5,aload,partOf,valA],?_⟩
  have e:∀ M:Mem,fzr M (oneOf [valA x,.sc (.bool b)]) = (.tup [valA x,.sc (.bool b)],M):=fun M => by simp [oneOf,Adn,fzvs]
  simp only [Bool.false_eq_true,if_false,e]
  refine ⟨q',hc,?_⟩
  revert hm
  cases unboxM s.ar v with
  | none => rintro ⟨rfl,rfl,a⟩; exact ⟨rfl,a⟩
  | some y => rintro ⟨rfl,rfl,a,b⟩; exact ⟨rfl,a,b⟩
 have fails:∀ m7 q7,TkA t T P A pr p (failM s) nilA q7 m7 → Chg (· = 0) t t M2 m7 → m7.get m.next = some (.cells [int v.1,int v.2] false (m.clock + 1)) ∧ m7.get (m.next + 1) = some (.cells [int 0,int 0] false (m.clock + 2)) ∧ Chg (· = 0) t t m (m7.set (m.next + 1) [int v.1,int v.2]) ∧ TkA t T P A pr p (failM s) nilA q7 (m7.set (m.next + 1) [int v.1,int v.2]):=by
  intro m7 q7 a b
  have n2:=k2.next
  obtain ⟨u1,u2⟩:=b.boxk bd (k1.trans k2) (B:=m.next + 1) (by omega) (by omega) [int v.1,int v.2]
  have fr:∀ j,m.next ≤ j → j < M2.next → m7.get j = M2.get j:=fun j h0 h1 => b.kc.get j h1 fun ⟨r,e,_⟩ => by have:=bd j (by rw [e]; simp); omega
  exact ⟨(fr _ (by omega) (by omega)).trans b20,(fr _ (by omega) (by omega)).trans b21,u1,a.keep u2 (by simp) (by simp) (by simp) (by simp)⟩
 by_cases he:(getM s.ar v).2 = 0
 ·by_cases hk:(getM s.ar v).1.k = 4
  ·obtain ⟨x,l,hx⟩:∃ x l,(getM s.ar v).1.a = x :: l:=by
    have:=hb4 v he hk
    cases hl:(getM s.ar v).1.a with
    | nil => rw [hl] at this; simp at this
    | cons x l => exact ⟨x,l,rfl⟩
   have hu:unboxM s.ar v = some x:=by rw [unboxM,if_pos ⟨he,hk⟩,hx]; rfl
   have hix:aindexAddr Tryz.prog 48 (.lst (vals (x :: l))) (int 0) = some ((valA x).cptr 0):=Abw (i:=0) (by simp)
   simp [he,hk,g2,undefV,undef,hx,hix,b21]
   have n2:=k2.next
   obtain ⟨u1,u2⟩:=(Chg.refl (R:=(· = 0)) c2.bd (.refl M2)).boxk bd (k1.trans k2) (B:=m.next + 1) (by omega) (by omega) [int x.1,int x.2]
   refine fin _ x true M2 (by simp) (by simp) ⟨_,_,b21⟩ ⟨q,u1,?_⟩
   rw [hu]
   refine ⟨rfl,rfl,hT2.keep u2 (by simp) (by simp) (by simp) (by simp),?_⟩
   exact Aek (Aau _ _ _) (k1.trans k2) fun j e => by
    have e:j = m.next + 1:=e
    omega
  ·have hu:unboxM s.ar v = none:=by rw [unboxM,if_neg (by simp [hk])]
   simp [he,hk,g2,undefV,undef]
   refine Aac (w89 hT2 1) ?_
   rintro _ m7 ⟨rfl,q7,hT7,c7⟩
   obtain ⟨a1,a2,a3,a4⟩:=fails m7 q7 hT7 c7
   simp [a1,a2]
   refine fin _ v false m7 (by simp) (by simp) ⟨_,_,a2⟩ ⟨q7,a3,?_⟩
   rw [hu]
   exact ⟨rfl,rfl,a4⟩
 ·have hu:unboxM s.ar v = none:=by rw [unboxM,if_neg (by simp [he])]
  simp [he,undefV,undef]
  refine Aac (w89 hT2 1) ?_
  rintro _ m7 ⟨rfl,q7,hT7,c7⟩
  obtain ⟨a1,a2,a3,a4⟩:=fails m7 q7 hT7 c7
  simp [a1,a2]
  refine fin _ v false m7 (by simp) (by simp) ⟨_,_,a2⟩ ⟨q7,a3,?_⟩
  rw [hu]
  exact ⟨rfl,rfl,a4⟩
end
theorem Asm {cfg:Cfg} {N:Nat} {Q:Ex → Sl → Mem → Prop} {k:List It} {s:Sl} {m:Mem} {b:Code} (hb:∀ Q':Ex → Sl → Mem → Prop,(∀ e s m,e ≠ .normal → goE Tryz.prog cfg N Q k e s m → Q' e s m) → go Tryz.prog cfg N Q' [.code b] s m):go Tryz.prog cfg N Q (.code (.loop b) :: k) s m :=
 Abo (fun _ s' m' => s' = s ∧ m' = m) 0 ⟨rfl,rfl⟩ (by rintro n _ _ ⟨rfl,rfl⟩ Q' _ he; exact hb Q' he)
def RM (r:Nat):Prop:=r = 0 ∨ r = 3 ∨ 10 ≤ r
theorem ptr74 {x y:Operand} {i j:Nat}:abin Tryz.prog .neq 74 x y (.ptr i j) (.sc (.pointer none)) = some (.sc (.bool true)):=by
 have:nilTest Tryz.prog 74 (.ptr i j) (.sc (.pointer none)) = some false:=by
  unfold nilTest
  rw [Tryz.underlying74]
 simp [abin,this,plain]
theorem Aop {x y:Operand} {i j:Nat}:abin Tryz.prog .eql 74 x y (.ptr i j) (.sc (.pointer none)) = some (.sc (.bool false)):=by
 have:nilTest Tryz.prog 74 (.ptr i j) (.sc (.pointer none)) = some false:=by
  unfold nilTest
  rw [Tryz.underlying74]
 simp [abin,this,plain]
theorem nil74 {x y:Operand}:abin Tryz.prog .neq 74 x y nilA (.sc (.pointer none)) = some (.sc (.bool false)):=by kernel_rfl
theorem Aov {x y:Operand}:abin Tryz.prog .eql 74 x y nilA (.sc (.pointer none)) = some (.sc (.bool true)):=by kernel_rfl
theorem nil75 {x y:Operand}:abin Tryz.prog .neq 75 x y nilA (.sc (.pointer none)) = some (.sc (.bool false)):=by kernel_rfl
section
variable {t:Ro} {T P A:Nat} {pr:PrM} {p:PgM} {s:MaM} {now:AV} {q:RestA} {m:Mem} {fs:List FrM} {u:AV}
theorem w117 (h:ChA t m fs u):EH Tryz.prog ca (.func 117) [u] m (int (fs.length:Nat)) m:=by
 cases fs with
 | nil =>
  have h:u = nilA:=h
  subst h
  refine Aa1 Tryz.func117 rfl rfl rfl rfl (args1:=[nilA]) (m1:=m) (by simp [fzvs]) (by simp) (by simp [Tryz.f117]) (by simp [Tryz.f117]) ?_
  simp [Tryz.f117,show ca.keepRes 117 = false from rfl,Aov]
 | cons f fs =>
  obtain ⟨F,u',rfl,⟨px,cx,sx,hf⟩,_⟩:=h
  obtain ⟨_,w,g⟩:=hf.get
  refine Aa1 Tryz.func117 rfl rfl rfl rfl (args1:=[.ptr F 0]) (m1:=m) (by simp [fzvs]) (by simp) (by simp [Tryz.f117]) (by simp [Tryz.f117]) ?_
  simp [Tryz.f117,show ca.keepRes 117 = false from rfl,Aop,g,frC]
theorem w73 (h:TkA t T P A pr p s now q m) (hc:ChA t m fs u) (hl:∀ f ∈ fs,f.stack.length ≤ 4096) (v:Val):wph Tryz.prog ca (.func 73) [.ptr T 0,valA v,u] m fun r m' => r = .tup [] ∧ ∃ t' now' q',TkA t' T P A pr p (answerM v fs s) now' q' m' ∧ ChA t' m' (answerM v fs s).frames now' ∧ Chg RM t t' m m':=by
 have bd:=h.b.bd
 obtain ⟨M1,hM1⟩:∃ M1,M1 = m.new [int v.1,int v.2] false:=⟨_,rfl⟩
 have k1:Kp m M1:=by rw [hM1]; simp
 have nM:M1.next = m.next + 1:=by rw [hM1]; simp
 have b0:M1.get m.next = some (.cells [int v.1,int v.2] false (m.clock + 1)):=by rw [hM1]; simp
 have c1:Chg (fun _ => False) t t m M1:=Chg.refl bd k1
 have h1:=h.keep c1.kt (by simp) (by simp) (by simp) (by simp)
 obtain ⟨hT1,w1,g1⟩:=h1.tk
 have nT:T ≠ m.next:=by have:=h.tk.1; omega
 have nT':m.next ≠ T:=Ne.symm nT
 cases fs with
 | nil =>
  have hc:u = nilA:=hc
  subst hc
  obtain ⟨z1,y1⟩:=h1.set (s':=s) (now':=nilA) (q':=q) rfl h.args
  obtain ⟨z2,y2⟩:=z1.set (s':={ s with status:=3 }) (now':=nilA) (q':=q) rfl h.args
  obtain ⟨z3,y3⟩:=z2.set (s':=answerM v [] s) (now':=nilA) (q':=q) rfl h.args
  refine Aah Tryz.func73 rfl rfl (by simp [Tryz.f73]) (by simp [Tryz.f73]) fun Q hQ => ?_
  simp only [Tryz.f73,show ca.keepRes 73 = false from rfl,show ca.keepArgs 73 = false from rfl] at hQ ⊢
  simp
  rw [← hM1]
  clear hM1
  refine Asm fun Q' he => ?_
  simp [nil74]
  refine he _ _ _ (by simp) ?_
  simp [g1,tkC,Aov]
  refine Aaq (by kernel_rfl) ?_
  simp [b0,nT,nT']
  refine Aa0 (l:=[(2,5)]) (by kernel_rfl) (?_:List.all _ _ = true) ?_
  ·simp [metAtD,metOkD,rank,verKeptD,Region.wanted,Mem.ver,b0,nT,nT']
  simp
  exact hQ _ _ _ ⟨.inr rfl,[],rfl,rfl,t,nilA,q,z3,rfl,((c1.mono fun _ q => q.elim).trans ((y1.trans y2).trans y3)).mono fun _ q => .inl q⟩
 | cons f fs =>
  obtain ⟨F,u',rfl,⟨px,cx,sx,hf⟩,hc'⟩:=hc
  have hT0:=h.tk.1
  obtain ⟨z1,y1⟩:=h1.set (s':=s) (now':=.ptr F 0) (q':=q) rfl h.args
  obtain ⟨z2,y2⟩:=z1.set (s':={ s with status:=1 }) (now':=.ptr F 0) (q':=q) rfl h.args
  obtain ⟨M3,hM3⟩:∃ M3,M3 = (M1.set T (tkC P s (.ptr F 0) q)).set T (tkC P { s with status:=1 } (.ptr F 0) q):=⟨_,rfl⟩
  rw [← hM3] at z2 y2
  have c3:Chg (· = 0) t t m M3:=(c1.mono fun _ q => q.elim).trans (y1.trans y2)
  obtain ⟨M4,hM4⟩:∃ M4,M4 = M3.new [int v.1,int v.2] false:=⟨_,rfl⟩
  have k4:Kp M3 M4:=by rw [hM4]; simp
  have n3:M3.next = m.next + 1:=by rw [hM3]; simp [nM]
  have e4:Chg (fun _ => False) t t M3 M4:=Chg.refl c3.bd k4
  have c4:Chg (· = 0) t t m M4:=c3.trans (e4.mono fun _ q => q.elim)
  have b3:M3.get m.next = some (.cells [int v.1,int v.2] false (m.clock + 1)):=by rw [hM3]; simp [nT',b0]
  have hsrc:srcOf M4 (.sl M3.next 0 1 2 true (some 1)) = some [valA v]:=by rw [hM4]; exact Ag5
  have f1:=hf.keep c1.kt (by simp) (by simp) (by simp)
  have f3:=hf.keep c3.kt (by simp [roF]) (by simp [roP]) (by simp [roS])
  have f4:=f3.keep e4.kt (by simp) (by simp) (by simp)
  have hl':=hl f (by simp)
  obtain ⟨x',m5,t',a1,a2,a3⟩:=f4.stk.put c4.bd hl' v
  obtain ⟨_,v1,g1F⟩:=f1.get
  obtain ⟨_,v3,g3F⟩:=f3.get
  obtain ⟨_,v4,g4F⟩:=f4.get
  obtain ⟨hF5,v5,g5F⟩:=a3.kt.has f4.tF noRo.1 f4.get
  obtain ⟨zz1,zz2⟩:=Akd (u:=u') (g:={ f with stack:=f.stack ++ [v] }) ((a3.same F (roF fs.length) noRo.1).2 f4.tF) hF5 (f4.par.keep a3.kt noRo.2.2.1) f4.cap a2 a3.bd
  have nTF:T ≠ F:=by
   rintro rfl
   have:=h.b.tT
   rw [hf.tF] at this
   simp [roF] at this
  have nF:F ≠ m.next:=by have:=hf.get.1; omega
  obtain ⟨o1,o2⟩:=a2.okc
  refine Aah Tryz.func73 rfl rfl (by simp [Tryz.f73]) (by simp [Tryz.f73]) fun Q hQ => ?_
  simp only [Tryz.f73,show ca.keepRes 73 = false from rfl,show ca.keepArgs 73 = false from rfl] at hQ ⊢
  simp
  rw [← hM1]
  clear hM1
  refine Asm fun Q' he => ?_
  simp [ptr74,g1F,frC,nil75]
  refine he _ _ _ (by simp) ?_
  simp [g1,tkC,Aop]
  simp only [tkC] at hM3
  rw [← hM3]
  refine Aaq (by kernel_rfl) ?_
  simp [g3F,b3,frC,abuildSlice,zeros,fillAt,Aad,abuiltin]
  rw [← hM4,hsrc]
  have g34:=k4.get F f3.get.1
  simp [a1,g5F,frC,o1,o2]
  refine Aa0 (l:=[(4,6)]) (by kernel_rfl) (?_:List.all _ _ = true) ?_
  ·simp [metAtD,metOkD,rank,verKeptD,Region.wanted,Mem.ver,g3F,g34]
  simp
  refine hQ _ _ _ ⟨.inl rfl,[],rfl,rfl,t',.ptr F 0,q,?_,⟨F,u',rfl,⟨px,cx,x',zz1⟩,?_⟩,?_⟩
  ·have z4:=z2.keep e4.kt (by simp) (by simp) (by simp) (by simp)
   have z5:=z4.keepR a3.kt (fun r e => by have e:r = roS fs.length:=e; have:=roHi fs.length; omega)
   have z6:=z5.keepR zz2.kt (fun r e => by have e:r = roF fs.length:=e; have:=roHi fs.length; omega)
   exact ⟨z6.b,z6.tk,z6.args⟩
  ·have w4:=ChA.keep c4.kt fs u' (fun r e => .inl (by have e:r = 0:=e; omega)) hc'
   have w5:=ChA.keep a3.kt fs u' (fun r e => .inr (by have e:r = roS fs.length:=e; simp only [roS] at e; omega)) w4
   exact ChA.keep zz2.kt fs u' (fun r e => .inr (by have e:r = roF fs.length:=e; simp only [roF] at e; omega)) w5
  ·have:=roHi fs.length
   exact ((c4.mono fun r e => .inl e).trans (a3.mono fun r e => .inr (.inr (by have e:r = roS fs.length:=e; omega)))).trans (zz2.mono fun r e => .inr (.inr (by have e:r = roF fs.length:=e; omega)))
end
theorem Fresh.sta {t:Ro} {m m':Mem} {x:AV} {l:List Val} {r:Nat} (h:Fresh m m' x l) (bd:∀ j,t j ≠ none → j < m.next) (k:Kp m m'):∃ t',StA t' r m' x l ∧ Chg (· = r) t t' m m':=by
 rcases h with ⟨rfl,rfl⟩ | ⟨h,id,v,rfl,h1,h2,h3⟩
 ·exact ⟨t,.inl ⟨rfl,.inr rfl⟩,Chg.refl bd k⟩
 ·exact ⟨upd t id r,.inr ⟨id,[],v,Acg t id r,h2,rfl,by simpa using h3⟩,Chg.upd (R:=(· = r)) bd (.of (.of k)) rfl h1 h2⟩
theorem ChA.fz {t:Ro} {m m':Mem}:∀ {fs:List FrM} {u:AV},ChA t m fs u → fzv m' u = (u,m')
 | [],u,h => by
  have h:u = nilA:=h
  subst h
  rfl
 | f :: fs,u,⟨F,u',h,_⟩ => by
  subst h
  rfl
theorem ChA.okc {t:Ro} {m:Mem}:∀ {fs:List FrM} {u:AV},ChA t m fs u → u.okc = true ∧ u.cells = [u]
 | [],u,h => by
  have h:u = nilA:=h
  subst h
  exact ⟨rfl,rfl⟩
 | f :: fs,u,⟨F,u',h,_⟩ => by
  subst h
  exact ⟨rfl,rfl⟩
section
variable {t:Ro} {T P A:Nat} {pr:PrM} {p:PgM} {s:MaM} {now:AV} {q:RestA} {m:Mem} {fs:List FrM} {u:AV}
theorem w111 {a:ArM} (ha:ArR t A a m) (bd:∀ j,t j ≠ none → j < m.next) (hsm:Small a) (hp:Pairs a) {l:List Val} (hl:l.length ≤ 4096):wph Tryz.prog ca (.func 111) [.ptr A 0,int 22,.lst (vals l)] m fun v m' => v = .tup [valA (restM a l).1,int (restM a l).2.2] ∧ Up (fun j => t j = some 3) A (restM a l).2.1 m m':=by
 refine q22 ha (fun j hj => bd j (by rw [hj]; simp)) hsm hl fun _ _ _ _ _ m1 C h1 h2 h3 h4 => ?_
 refine A2k h1 h2 h3 h4 rfl fun m2 g1 g2 g3 => ?_
 exact A2j g1 g2 hsm hp h3 g3 hl rfl
theorem A1t {l:List CoM} {n:Int} {c:CoM} (h:l[n.toNat]? = some c) (hn:0 ≤ n):aindexAddr Tryz.prog 22 (.lst (cods l)) (int n) = some ((codA c).cptr 0):=by
 have:=Aet h
 rwa [show ((n.toNat:Nat):Int) = n by omega] at this
theorem w96 (h:TkA t T P A pr p s now q m) (hc:ChA t m fs u) {c:CeM} {x:CoM} (hx:pr.codes[c.n.toNat]? = some x) (hn:0 ≤ c.n) (hp:0 ≤ x.params ∧ x.params ≤ 32) (hr:0 ≤ x.rest ∧ x.rest ≤ 1 ∧ x.rest ≤ x.params) {l:List Val} (hl:l.length ≤ 64) (hsm:Small s.ar) (hps:Pairs s.ar) (hfl:fs.length ≤ 512) :
  wph Tryz.prog ca (.func 96) [.ptr T 0,ceA c,.lst (vals l),u] m fun r m' => r = .tup [] ∧ ∃ t' now' q',TkA t' T P A pr p (enterM p c l fs s) now' q' m' ∧ ChA t' m' (enterM p c l fs s).frames now' ∧ Chg RM t t' m m':=by
 have bd:=h.b.bd
 obtain ⟨M1,hM1⟩:∃ M1,M1 = m.new [int c.k,int c.n,.lst (vals c.a),.lst (byts c.s)] false:=⟨_,rfl⟩
 have k1:Kp m M1:=by rw [hM1]; simp
 have nM:M1.next = m.next + 1:=by rw [hM1]; simp
 have b0:M1.get m.next = some (.cells [int c.k,int c.n,.lst (vals c.a),.lst (byts c.s)] false (m.clock + 1)):=by rw [hM1]; simp
 have c1:Chg (fun _ => False) t t m M1:=Chg.refl bd k1
 have h1:=h.keep c1.kt (by simp) (by simp) (by simp) (by simp)
 obtain ⟨hT1,w1,g1⟩:=h1.tk
 obtain ⟨cx,⟨hP1,wP,gP⟩,_⟩:=h1.b.pg
 have hix:=A1t hx hn
 have nT:T ≠ M1.next:=by omega
 have nP:P ≠ M1.next:=by omega
 have n0:m.next ≠ M1.next:=by omega
 refine Aah Tryz.func96 rfl rfl (by simp [Tryz.f96]) (by simp [Tryz.f96]) fun Q hQ => ?_
 simp only [Tryz.f96,show ca.keepRes 96 = false from rfl,show ca.keepArgs 96 = false from rfl] at hQ ⊢
 have hu:=hc.fz (m':=m)
 simp [hu]
 rw [← hM1]
 clear hM1
 refine Aaq (by kernel_rfl) ?_
 simp [g1,gP,tkC,pgC,b0,hix]
 refine Aa0 (l:=[(3,12),(7,12),(9,12),(11,12)]) (by kernel_rfl) (?_:List.all _ _ = true) ?_
 ·simp [metAtD,metOkD,rank,verKeptD,Region.wanted,Mem.ver,g1,gP,b0,nT,nP,n0,objV]
 obtain ⟨M2,hM2⟩:∃ M2,M2 = (M1.new [int 0,int 0,int 0,int 0,.emp 0] false).set M1.next [int x.params,int x.rest,int x.caps,int x.max,.lst (inss x.ins)]:=⟨_,rfl⟩
 have k2:Kp M1 M2:=by rw [hM2]; simp
 have n2:M2.next = m.next + 2:=by rw [hM2]; simp [nM]
 have b1:M2.get M1.next = some (.cells [int x.params,int x.rest,int x.caps,int x.max,.lst (inss x.ins)] false (M1.clock + 2)):=by rw [hM2]; simp
 have b20:=(k2.get m.next (by omega)).trans b0
 rw [← hM2]
 clear hM2
 have c2:Chg (fun _ => False) t t m M2:=Chg.refl bd (k1.trans k2)
 have h2:=h.keep c2.kt (by simp) (by simp) (by simp) (by simp)
 have hc2:=ChA.keep c2.kt fs u (by simp) hc
 obtain ⟨fx,hfx⟩:∃ fx:Nat,x.params - x.rest = fx:=⟨(x.params - x.rest).toNat,by omega⟩
 have hw:IntKind.i64.wrap (x.params - x.rest) = (fx:Int):=by rw [IntWalk.i64_in _ (by omega),hfx]
 have ln:∀ (R:TypeId) (m:Mem),abuiltin Tryz.prog .len #[48] R [.lst (vals l)] m = some (int l.length,m):=fun R m => by rw [Abn Tryz.underlying48,Aav]
 simp [b1,hw,ln]
 have hent:enterM p c l fs s = (if (l.length:Int) < fx ∨ (x.rest = 0 ∧ (fx:Int) < l.length) then failM s else
  if (parsM s.ar x l).1 ≠ 0 ∨ 512 ≤ fs.length then failM { s with ar:=(parsM s.ar x l).2.2 }
  else { s with ar:=(parsM s.ar x l).2.2,status:=1,frames:=⟨c.n.toNat,0,(parsM s.ar x l).2.1,c.a,[]⟩ :: fs }):=by
  unfold enterM
  rw [h.b.codes,hx]
  dsimp only
  rw [hfx]
 have bad:∀ (k:Int),enterM p c l fs s = failM s → ∀ {t2:Ro} {m2:Mem} {q2:RestA},TkA t2 T P A pr p (failM s) nilA q2 m2 → Chg RM t t2 m m2 → ∃ t' now' q',TkA t' T P A pr p (enterM p c l fs s) now' q' m2 ∧ ChA t' m2 (enterM p c l fs s).frames now' ∧ Chg RM t t' m m2:=by
  intro k e t2 m2 q2 a b
  rw [e]
  exact ⟨t2,nilA,q2,a,rfl,b⟩
 by_cases hA:l.length < fx
 ·simp [hA,undefV,undef]
  refine Aac (w89 h2 2) ?_
  rintro _ m7 ⟨rfl,q7,hT7,c7⟩
  simp
  exact hQ _ _ _ ⟨.inr rfl,[],rfl,rfl,bad 2 (by rw [hent,if_pos (.inl (by omega))]) hT7 ((c2.mono fun _ q => q.elim).trans (c7.mono fun _ q => .inl q))⟩
 by_cases hB:x.rest = 0 ∧ fx < l.length
 ·simp [hA,hB.1,hB.2,undefV,undef,b1,ln]
  refine Aac (w89 h2 2) ?_
  rintro _ m7 ⟨rfl,q7,hT7,c7⟩
  simp
  exact hQ _ _ _ ⟨.inr rfl,[],rfl,rfl,bad 2 (by rw [hent,if_pos (.inr ⟨hB.1,by omega⟩)]) hT7 ((c2.mono fun _ q => q.elim).trans (c7.mono fun _ q => .inl q))⟩
 rw [if_neg (by omega)] at hent
 have hcl:aslice Tryz.prog 48 (.lst (vals l)) none (some (int fx)) none = some (.lst (vals (l.take fx))):=by
  have:=Acl (P:=Tryz.prog) (T:=48) (xs:=vals l) (k:=2) (lo:=none) (hi:=some (int (fx:Int))) (l:=none) (h:=some fx) Tryz.underlying48 Aba Aa3 (Abg (n:=fx)) (by simp) (by simp; omega) (Aa5 l)
  rw [this]
  simp [vals,List.map_take]
 have hdr:aslice Tryz.prog 48 (.lst (vals l)) (some (int fx)) none none = some (.lst (vals (l.drop fx))):=by
  have:=Acl (P:=Tryz.prog) (T:=48) (xs:=vals l) (k:=2) (lo:=some (int (fx:Int))) (hi:=none) (l:=some fx) (h:=none) Tryz.underlying48 Aba (Abg (n:=fx)) Aa3 (by simp; omega) (by simp) (Aa5 l)
  rw [this]
  simp [vals,List.map_drop,← List.map_take]
 have hRP:∀ r,r = roP fs.length → RM r:=fun r e => .inr (.inr (by have:=roHi fs.length; omega))
 have hc0:Chg RM t t m M2:=c2.mono fun _ q => q.elim
 refine (fun (tail:∀ (s5:Sl) (m5:Mem),s5.at 0 = .ptr T 0 → s5.at 5 = .ptr m.next 0 → s5.at 3 = u → m.next + 1 ≤ m5.next → (parsM s.ar x l).1 = 0 → (∃ t5,StA t5 (roP fs.length) m5 (s5.at 10) (parsM s.ar x l).2.1 ∧ TkA t5 T P A pr p { s with ar:=(parsM s.ar x l).2.2 } now q m5 ∧ ChA t5 m5 fs u ∧ m5.get m.next = some (.cells [int c.k,int c.n,.lst (vals c.a),.lst (byts c.s)] false (m.clock + 1)) ∧ Chg RM t t5 m m5) → goH Tryz.prog ca 99 Q (.func 117) [u] (some 78) ?k s5 m5) => ?main) ?tail
 case main =>
  by_cases hr0:x.rest = 0
  ·simp [hA,hr0,show ¬ fx < l.length by omega,undefV,undef,b1,ln,hcl]
   refine Aac (q110 (.inl rfl) (by simp; omega)) ?_
   rintro y m3 ⟨k3,fr⟩
   obtain ⟨t3,st3,c3⟩:=fr.sta (r:=roP fs.length) c2.bd k3
   have b13:=(k3.get M1.next (by omega)).trans b1
   have hpar:parsM s.ar x l = (0,l.take fx,s.ar):=by rw [parsM,if_neg (by omega),hfx]; rfl
   simp [b13,hr0]
   refine tail _ _ ?_ ?_ ?_ ?_ (by rw [hpar]) ⟨t3,?_,?_,?_,?_,?_⟩
   ·simp
   ·simp
   ·simp
   ·have:=k3.next; omega
   ·rw [hpar]; simpa using st3
   ·rw [hpar]
    have:=h2.keepR c3.kt (fun r e => by have e:r = _:=e; have:=roHi fs.length; omega)
    exact ⟨this.b,this.tk,this.args⟩
   ·exact ChA.keep c3.kt fs u (fun r e => .inr (by have e:r = _:=e; simp only [roP] at e; omega)) hc2
   ·rw [k3.get m.next (by omega)]; exact b20
   ·exact hc0.trans (c3.mono fun r e => hRP r e)
  ·have hr1:x.rest = 1:=by omega
   simp [hA,hr1,undefV,undef,b1,ln,hcl]
   refine Aac (q110 (.inl rfl) (by simp; omega)) ?_
   rintro y m3 ⟨k3,fr⟩
   obtain ⟨t3,st3,c3⟩:=fr.sta (r:=roP fs.length) c2.bd k3
   have b13:=(k3.get M1.next (by omega)).trans b1
   have h3:=h2.keepR c3.kt (fun r e => by have e:r = _:=e; have:=roHi fs.length; omega)
   have hc3:=ChA.keep c3.kt fs u (fun r e => .inr (by have e:r = _:=e; simp only [roP] at e; omega)) hc2
   obtain ⟨hT3,wT3,gT3⟩:=h3.tk
   obtain ⟨cx3,⟨hP3,wP3,gP3⟩,_⟩:=h3.b.pg
   have b03:=(k3.get m.next (by omega)).trans b20
   have n3:=k3.next
   simp [b13,hr1]
   refine Aaq (by kernel_rfl) ?_
   simp [gT3,gP3,tkC,pgC,hdr]
   refine Aac (w111 h3.b.ar c3.bd hsm hps (l:=l.drop fx) (by simp; omega)) ?_
   rintro _ m4 ⟨rfl,hup⟩
   obtain ⟨t4,h4,c4⟩:=h3.arena hup
   have n4:=c4.kc.next
   have c34:Chg RM t t4 M2 m4:=(c3.mono fun r e => hRP r e).trans (c4.mono fun r e => .inr (.inl e))
   have b04:=(c34.box0 bd (B:=m.next) (by omega) (by omega)).trans b20
   have gT4:=(c4.kt.get h3.b.tT (by simp) hT3).1.trans gT3
   have gP4:=(c4.kt.get h3.b.tP (by simp) hP3).1.trans gP3
   have nT4:T ≠ m4.next:=by omega
   have nP4:P ≠ m4.next:=by omega
   simp
   refine Aa0 (l:=[(3,14),(6,14)]) (by kernel_rfl) (?_:List.all _ _ = true) ?_
   ·simp [metAtD,metOkD,rank,verKeptD,Region.wanted,Mem.ver,gT3,gP3,gT4,gP4,nT4,nP4]
   obtain ⟨res,hres⟩:∃ res,res = restM s.ar (l.drop fx):=⟨_,rfl⟩
   have hpar:parsM s.ar x l = (res.2.2,l.take fx ++ [res.1],res.2.1):=by rw [parsM,if_pos hr1,hfx,hres]; rfl
   rw [← hres] at h4 ⊢
   obtain ⟨M5,hM5⟩:∃ M5,M5 = (m4.new [int 0,int 0] false).set m4.next [int res.1.1,int res.1.2]:=⟨_,rfl⟩
   have k5:Kp m4 M5:=by rw [hM5]; simp
   have n5:M5.next = m4.next + 1:=by rw [hM5]; simp
   have g5:M5.get m4.next = some (.cells [int res.1.1,int res.1.2] false (m4.clock + 2)):=by rw [hM5]; simp
   have c5:Chg (fun _ => False) t4 t4 m4 M5:=Chg.refl c4.bd k5
   have h5:=h4.keepR c5.kt (by simp)
   have call5:Chg RM t t4 m M5:=hc0.trans (c34.trans (c5.mono fun _ q => q.elim))
   rw [← hM5]
   clear hM5
   by_cases hk:res.2.2 = 0
   ·have st5:=(st3.keep c4.kt (by have:=roHi fs.length; simp; omega)).keep c5.kt (by simp)
    have hc5:=ChA.keep c5.kt fs u (by simp) (ChA.keep c4.kt fs u (fun r e => .inl (by have e:r = 3:=e; omega)) hc3)
    obtain ⟨M6,hM6⟩:∃ M6,M6 = M5.new [int res.1.1,int res.1.2] false:=⟨_,rfl⟩
    have k6:Kp M5 M6:=by rw [hM6]; simp
    have hsrc:srcOf M6 (.sl M5.next 0 1 2 true (some 1)) = some [valA res.1]:=by rw [hM6]; exact Ag5
    have c6:Chg (fun _ => False) t4 t4 M5 M6:=Chg.refl c5.bd k6
    obtain ⟨x',m7,t7,a1,a2,a3⟩:=(st5.keep c6.kt (by simp)).put c6.bd (by simp; omega) res.1
    simp [hk,g5,abuildSlice,zeros,fillAt,Aad,abuiltin]
    rw [← hM6,hsrc]
    simp [a1]
    have n7:=a3.kc.next
    have n6:=k6.next
    refine tail _ _ ?_ ?_ ?_ ?_ (by rw [hpar]; exact hk) ⟨t7,?_,?_,?_,?_,?_⟩
    ·simp
    ·simp
    ·simp
    ·omega
    ·rw [hpar]; simpa using a2
    ·rw [hpar]
     exact (h5.keepR c6.kt (by simp)).keepR a3.kt (fun r e => by have e:r = _:=e; have:=roHi fs.length; omega)
    ·exact ChA.keep a3.kt fs u (fun r e => .inr (by have e:r = _:=e; simp only [roP] at e; omega)) (ChA.keep c6.kt fs u (by simp) hc5)
    ·have c47:Chg RM t4 t7 m4 m7:=(c5.mono fun _ q => q.elim).trans ((c6.mono fun _ q => q.elim).trans (a3.mono fun r e => hRP r e))
     rw [(c34.trans c47).box0 bd (by omega) (by omega)]
     exact b20
    ·exact call5.trans ((c6.mono fun _ q => q.elim).trans (a3.mono fun r e => hRP r e))
   ·have hfail:enterM p c l fs s = failM { s with ar:=res.2.1 }:=by rw [hent,hpar]; exact if_pos (Or.inl hk)
    simp [hk]
    refine Aac (w89 h5 res.2.2) ?_
    rintro _ m7 ⟨rfl,q7,hT7,c7⟩
    simp
    refine hQ _ _ _ ⟨.inr rfl,[],rfl,rfl,t4,nilA,q7,?_,?_,call5.trans (c7.mono fun _ q => .inl q)⟩
    ·rw [hfail]; exact hT7
    ·rw [hfail]; rfl
 case tail =>
  rintro s5 m5 e0 e5 e3 hlt hk ⟨t5,st5,h5,hc5,b5,call5⟩
  have n5:=call5.kc.next
  obtain ⟨hT5,wT5,gT5⟩:=h5.tk
  have n0T:m.next ≠ T:=by have:=h.tk.1; omega
  by_cases hd:512 ≤ fs.length
  ·have hfail:enterM p c l fs s = failM { s with ar:=(parsM s.ar x l).2.2 }:=by rw [hent]; exact if_pos (Or.inr hd)
   simp [(w117 hc5).go,show (512:Int) ≤ fs.length by omega,e0]
   refine Aac (w89 h5 14) ?_
   rintro _ m7 ⟨rfl,q7,hT7,c7⟩
   simp
   refine hQ _ _ _ ⟨.inr rfl,[],rfl,rfl,t5,nilA,q7,?_,?_,call5.trans (c7.mono fun _ q => .inl q)⟩
   ·rw [hfail]; exact hT7
   ·rw [hfail]; rfl
  ·have hok:enterM p c l fs s = { s with ar:=(parsM s.ar x l).2.2,status:=1,frames:=⟨c.n.toNat,0,(parsM s.ar x l).2.1,c.a,[]⟩ :: fs }:=by rw [hent]; exact if_neg (by rintro (a | a); exact a hk; exact hd a)
   obtain ⟨z1,y1⟩:=h5.set (s':={ s with ar:=(parsM s.ar x l).2.2,status:=1 }) (now':=now) (q':=q) rfl h.args
   obtain ⟨M6,hM6⟩:∃ M6,M6 = m5.set T (tkC P { s with ar:=(parsM s.ar x l).2.2,status:=1 } now q):=⟨_,rfl⟩
   have n6:M6.next = m5.next:=by rw [hM6]; simp
   have b6:M6.get m.next = some (.cells [int c.k,int c.n,.lst (vals c.a),.lst (byts c.s)] false (m.clock + 1)):=by rw [hM6]; simp [n0T,b5]
   rw [← hM6] at z1 y1
   have hc6:=ChA.keep y1.kt fs u (fun r e => .inl (by have e:r = 0:=e; omega)) hc5
   simp [(w117 hc5).go,show ¬ (512:Int) ≤ fs.length by omega,e0,gT5,tkC]
   simp only [tkC] at hM6
   rw [← hM6]
   refine Aaq (by kernel_rfl) ?_
   obtain ⟨o1,o2⟩:=st5.okc
   obtain ⟨o3,o4⟩:=hc5.okc
   obtain ⟨hT6,wT6,gT6⟩:=z1.tk
   simp only [tkC] at gT6
   have hw2:IntKind.i64.wrap ((fs.length:Int) + 1) = (fs.length:Int) + 1:=IntWalk.i64_in _ (by omega)
   have nT6:T ≠ M6.next:=by omega
   have n06:m.next ≠ M6.next:=by omega
   have ecn:((c.n.toNat:Nat):Int) = c.n:=by omega
   obtain ⟨M7,hM7⟩:∃ M7,M7 = M6.new (frC ⟨c.n.toNat,0,(parsM s.ar x l).2.1,c.a,[]⟩ fs.length (s5.at 10) (.lst (vals c.a)) (.emp 0) u) false:=⟨_,rfl⟩
   have k7:Kp M6 M7:=by rw [hM7]; simp
   have c7:Chg (· = roF fs.length) t5 (upd t5 M6.next (roF fs.length)) M6 M7:=Chg.upd (R:=(· = roF fs.length)) y1.bd (.of (.of k7)) rfl (Nat.le_refl _) (by rw [hM7]; simp)
   have z7:=z1.keepR c7.kt (fun r e => by have e:r = _:=e; have:=roHi fs.length; omega)
   obtain ⟨z8,y8⟩:=z7.set (s':={ s with ar:=(parsM s.ar x l).2.2,status:=1 }) (now':=.ptr M6.next 0) (q':=q) rfl h.args
   have hF:FrB (upd t5 M6.next (roF fs.length)) fs.length M6.next ⟨c.n.toNat,0,(parsM s.ar x l).2.1,c.a,[]⟩ (s5.at 10) (.lst (vals c.a)) (.emp 0) u M7 :=
    ⟨Acg _ _ _,⟨by rw [hM7]; simp,M6.clock + 1,by rw [hM7]; simp⟩,(st5.keep y1.kt (show ¬ roP fs.length = 0 by have:=roHi fs.length; omega)).keep c7.kt noRo.2.2.2.2.1,.inl rfl,.inl ⟨rfl,.inl rfl⟩⟩
   simp [e0,e3,e5,b6,(w117 hc6).go,abuild,placesOf,fillAt,o1,o2,o3,o4,hw2,nT6,gT6]
   refine Aa0 (l:=[(2,8),(5,8)]) (by kernel_rfl) (?_:List.all _ _ = true) ?_
   ·simp [metAtD,metOkD,rank,verKeptD,Region.wanted,Mem.ver,b6,n06]
   simp
   have hM7':M7 = M6.new [int c.n,int 0,nilA,s5.at 10,.lst (vals c.a),.emp 0,u,int ((fs.length:Int) + 1)] false:=by
    rw [hM7,frC,ecn]
    rfl
   rw [← hM7']
   refine hQ _ _ _ ⟨.inl rfl,[],rfl,rfl,upd t5 M6.next (roF fs.length),.ptr M6.next 0,q,?_,?_,?_⟩
   ·rw [hok]
    exact ⟨z8.b,z8.tk,z8.args⟩
   ·rw [hok]
    refine ⟨M6.next,u,rfl,⟨_,_,_,hF.keep y8.kt ?_ ?_ ?_⟩,ChA.keep y8.kt fs u (fun r e => .inl (by have e:r = 0:=e; omega)) (ChA.keep c7.kt fs u (fun r e => .inr (by have e:r = _:=e; simp only [roF] at e; omega)) hc6)⟩
    ·show ¬ roF fs.length = 0
     have:=roHi fs.length; omega
    ·show ¬ roP fs.length = 0
     have:=roHi fs.length; omega
    ·show ¬ roS fs.length = 0
     have:=roHi fs.length; omega
   ·refine call5.trans ((y1.mono fun _ e => .inl e).trans ((c7.mono fun r e => .inr (.inr ?_)).trans (y8.mono fun _ e => .inl e)))
    have e:r = _:=e
    have:=roHi fs.length
    omega
end
section
variable {t:Ro} {T P A:Nat} {pr:PrM} {p:PgM} {s:MaM} {now:AV} {q:RestA} {m:Mem} {fs:List FrM} {u:AV}
theorem w72 (h:TkA t T P A pr p s now q m) (hc:ChA t m fs u) (hpg:OkPg p) (hn:Nice p.codes s.ar) {f:Val} (hf:f.1 ≠ 6) {l:List Val} (hl:l.length ≤ 64) (hfl:fs.length ≤ 512) :
  wph Tryz.prog ca (.func 72) [.ptr T 0,valA f,.lst (vals l),u] m fun r m' => r = .tup [] ∧ ∃ t' now' q',TkA t' T P A pr p (callM p f l fs s) now' q' m' ∧ ChA t' m' (callM p f l fs s).frames now' ∧ Chg RM t t' m m':=by
 have bd:=h.b.bd
 obtain ⟨M1,hM1⟩:∃ M1,M1 = m.new [int f.1,int f.2] false:=⟨_,rfl⟩
 have k1:Kp m M1:=by rw [hM1]; simp
 have nM:M1.next = m.next + 1:=by rw [hM1]; simp
 have b0:M1.get m.next = some (.cells [int f.1,int f.2] false (m.clock + 1)):=by rw [hM1]; simp
 have c1:Chg (fun _ => False) t t m M1:=Chg.refl bd k1
 have h1:=h.keep c1.kt (by simp) (by simp) (by simp) (by simp)
 obtain ⟨hT1,w1,g1⟩:=h1.tk
 obtain ⟨cx,⟨hP1,wP,gP⟩,_⟩:=h1.b.pg
 have qg:=q57 h1.b.ar hn.small f
 obtain ⟨c,hcc⟩:∃ c,c = (getM s.ar f).1:=⟨_,rfl⟩
 have nT:T ≠ M1.next:=by omega
 have nP:P ≠ M1.next:=by omega
 have n0:m.next ≠ M1.next:=by omega
 have hu:=hc.fz (m':=m)
 refine Aah Tryz.func72 rfl rfl (by simp [Tryz.f72]) (by simp [Tryz.f72]) fun Q hQ => ?_
 simp only [Tryz.f72,show ca.keepRes 72 = false from rfl,show ca.keepArgs 72 = false from rfl] at hQ ⊢
 simp [hu,hf]
 rw [← hM1]
 clear hM1
 refine Aaq (by kernel_rfl) ?_
 simp [g1,gP,tkC,pgC,b0,Aad,qg.go]
 refine Aa0 (l:=[(3,12),(6,12),(7,12)]) (by kernel_rfl) (?_:List.all _ _ = true) ?_
 ·simp [metAtD,metOkD,rank,verKeptD,Region.wanted,Mem.ver,g1,gP,b0,nT,nP,n0]
 rw [← hcc]
 obtain ⟨M2,hM2⟩:∃ M2,M2 = (M1.new [int 0,int 0,.emp 0,.emp 0] false).set M1.next [int c.k,int c.n,.lst (vals c.a),.lst (byts c.s)]:=⟨_,rfl⟩
 have k2:Kp M1 M2:=by rw [hM2]; simp
 have n2:M2.next = m.next + 2:=by rw [hM2]; simp [nM]
 have b1:M2.get M1.next = some (.cells [int c.k,int c.n,.lst (vals c.a),.lst (byts c.s)] false (M1.clock + 2)):=by rw [hM2]; simp
 have b20:=(k2.get m.next (by omega)).trans b0
 rw [← hM2]
 clear hM2
 have c2:Chg (fun _ => False) t t m M2:=Chg.refl bd (k1.trans k2)
 have hc0:Chg RM t t m M2:=c2.mono fun _ q => q.elim
 have h2:=h.keep c2.kt (by simp) (by simp) (by simp) (by simp)
 have hc2:=ChA.keep c2.kt fs u (by simp) hc
 obtain ⟨hT2,w2,g2⟩:=h2.tk
 obtain ⟨cx2,⟨hP2,wP2,gP2⟩,_⟩:=h2.b.pg
 have bad:callM p f l fs s = failM s → ∀ {q2:RestA} {m2:Mem},TkA t T P A pr p (failM s) nilA q2 m2 → Chg (· = 0) t t M2 m2 → ∃ t' now' q',TkA t' T P A pr p (callM p f l fs s) now' q' m2 ∧ ChA t' m2 (callM p f l fs s).frames now' ∧ Chg RM t t' m m2:=by
  intro e q2 m2 a b
  rw [e]
  exact ⟨t,nilA,q2,a,rfl,hc0.trans (b.mono fun _ q => .inl q)⟩
 by_cases he:(getM s.ar f).2 = 0
 rotate_left
 ·have hb:callM p f l fs s = failM s:=by rw [callM,if_neg (by simp [he])]
  simp [he]
  refine Aac (w89 h2 7) ?_
  rintro _ m7 ⟨rfl,q7,hT7,c7⟩
  simp
  exact hQ _ _ _ ⟨.inl rfl,[],rfl,rfl,bad hb hT7 c7⟩
 by_cases hk:c.k = 5
 rotate_left
 ·have hb:callM p f l fs s = failM s:=by rw [callM,if_neg (by rw [← hcc]; simp [hk])]
  have hk6:c.k ≠ 6:=by
   by_cases h0:c.k = 0
   ·omega
   ·obtain ⟨i,_,hi,ok⟩:=Aj1 hn (v:=f) (by rw [← hcc]; exact h0)
    rw [← hcc] at ok
    have:=ok.low
    omega
  simp [he]
  refine Aat (by kernel_rfl) (by kernel_rfl) ?_
  simp [b1,hk,hk6,undefV,undef]
  refine Aac (w89 h2 7) ?_
  rintro _ m7 ⟨rfl,q7,hT7,c7⟩
  simp
  exact hQ _ _ _ ⟨.inl rfl,[],rfl,rfl,bad hb hT7 c7⟩
 by_cases hlt:c.n < pr.codes.length
 rotate_left
 ·have hb:callM p f l fs s = failM s:=by rw [callM,if_neg (by rw [← hcc,h.b.codes]; simp; omega)]
  simp [he]
  refine Aat (by kernel_rfl) (by kernel_rfl) ?_
  simp [b1,hk,g2,gP2,tkC,pgC,len22,hlt]
  refine Aac (w89 h2 7) ?_
  rintro _ m7 ⟨rfl,q7,hT7,c7⟩
  simp
  exact hQ _ _ _ ⟨.inl rfl,[],rfl,rfl,bad hb hT7 c7⟩
 ·obtain ⟨i,_,hi,ok⟩:=Aj1 hn (v:=f) (by rw [← hcc]; omega)
  rw [← hcc] at ok
  obtain ⟨x,hx,hn0,hcap⟩:=ok.proc hk
  have okc:=hpg.codes x (List.mem_of_getElem? hx)
  have hcall:callM p f l fs s = enterM p c l fs s:=by rw [callM,if_pos (by rw [← hcc,h.b.codes]; exact ⟨he,hk,hlt⟩),hcc]
  rw [h.b.codes] at hx
  simp [he]
  refine Aat (by kernel_rfl) (by kernel_rfl) ?_
  have ecA:AV.agg [int 5,int c.n,.lst (vals c.a),.lst (byts c.s)] = ceA c:=by rw [ceA,hk]
  simp [b1,hk,g2,gP2,tkC,pgC,len22,hlt]
  rw [ecA]
  refine Aac (w96 h2 hc2 hx hn0 okc.params okc.rest hl hn.small hn.pairs hfl) ?_
  rintro _ m7 ⟨rfl,t7,now7,q7,hT7,hC7,c7⟩
  simp
  refine hQ _ _ _ ⟨.inl rfl,[],rfl,rfl,t7,now7,q7,?_,?_,hc0.trans c7⟩
  ·rw [hcall]; exact hT7
  ·rw [hcall]; exact hC7
end
section
variable {X:Nat → Prop} {A:Nat} {a:ArM} {m:Mem}
theorem q128f (hA:Ar X A a m) {p:Nat} {c:CeM} (hc:a.cells[p]? = some c) (hk:c.k = 4) {i:Nat} (hi:i < c.a.length) {x:Val} (hg:goodM a x = false):wph Tryz.prog ca (.func 69) [.ptr A 0,valA (7,(p:Int)),int i,valA x] m fun v m' => v = int 110 ∧ Up X A a m m':=by
 refine Aah Tryz.func69 rfl rfl (by simp [Tryz.f69]) (by simp [Tryz.f69]) fun Q hQ => ?_
 simp only [Tryz.f69,show ca.keepRes 69 = false from rfl,show ca.keepArgs 69 = false from rfl] at hQ ⊢
 obtain ⟨M1,hM1⟩:∃ M1,M1 = (m.new [int 7,int p] false).new [int x.1,int x.2] false:=⟨_,rfl⟩
 have k1:Kp m M1:=by rw [hM1]; simp
 have n1:M1.next = m.next + 2:=by rw [hM1]; simp
 have b0:M1.get m.next = some (.cells [int 7,int p] false (m.clock + 1)):=by rw [hM1]; simp
 have b1:M1.get (m.next + 1) = some (.cells [int x.1,int x.2] false (m.clock + 2)):=by rw [hM1]; simp
 have hA1:=hA.kp k1
 have q1:=q34 hA1
 have q2:=q41 hA1 x
 rw [hg] at q2
 obtain ⟨t,M,cs,ns,xs,h,hx'⟩:=id hA1
 have q3:=q77 h hx' (7,(p:Int))
 obtain ⟨C,vc,y,rfl,hC,htC,hgC,hy,hz,hrow⟩:=h.at hc
 have c1:cellP a (.sl C 0 a.cells.length 4 true none) (7,(p:Int)) = .ptr C (p * 4):=by simp [cellP,Ase hc,blk]
 rw [c1] at q3
 obtain ⟨f1,f2⟩:=Adp (Agb a.cells xs) hz
 have part:∀ {k:Nat} {r:AV} (q:Nat) (w:AV),((flat (List.zipWith rowA a.cells xs)).drop (k * 4)).take 4 = r.cells → r.cells[q]? = some w → (flat (List.zipWith rowA a.cells xs))[k * 4 + q]? = some w:=by
  intro k r q w h2 h3
  have hq:q < 4:=by
   have:=(List.getElem?_eq_some_iff.1 h3).1
   rw [← h2] at this
   simp at this
   omega
  rw [← h2,List.getElem?_take_of_lt hq,List.getElem?_drop] at h3
  exact h3
 have px0:=part 0 (int c.k) f2 rfl
 have px2:=part 2 y f2 rfl
 rw [Nat.add_zero] at px0
 obtain ⟨e,_⟩ | ⟨hne,id,w,rfl,hid,htid,hgid⟩:=hrow
 ·have:=congrArg List.length e
  simp at this
  rw [this] at hi
  simp at hi
 have hb:below (i:Int) c.a.length = true:=by simp [below]; omega
 have ln:∀ (R:TypeId) (m:Mem),abuiltin Tryz.prog .len #[48] R [.sl id 0 (vals c.a).length 2 true none] m = some (int c.a.length,m):=fun R m => by rw [Ab6 Tryz.underlying48]; simp
 have hix:=Aar (P:=Tryz.prog) (q:=.i64) (ag:=true) (c:=none) (id:=id) (off:=0) (len:=(vals c.a).length) (i:=i) Tryz.underlying48 Aba (by simpa using hi)
 simp only [Aav] at hix ln
 have hag:AV.agg [int 7,int p] = valA (7,(p:Int)):=rfl
 simp
 rw [← hM1]
 clear hM1
 simp [q1.go,b0,hag,q3.go]
 simp [eq135,hgC,px0,px2,hk,undefV,undef,ln,(q75 (i:Int) c.a.length).go,hb,b1,Aad,q2.go]
 refine hQ _ _ _ ?_
 rw [Aao]
 exact ⟨[int 110],by simp [aresult],by simp [oneOf]; exact ⟨X,hA1,.of (.of k1),fun j h => .inl h⟩⟩
end
structure In3 (t:Ro) (T P A:Nat) (pr:PrM) (p:PgM) (s:MaM) (q:RestA) (F:Nat) (g:FrM) (fs:List FrM) (px cx sx u:AV) (m:Mem):Prop where
 tk:TkA t T P A pr p s (.ptr F 0) q m
 fr:FrB t fs.length F g px cx sx u m
 ch:ChA t m fs u
def ResI (t:Ro) (T P A:Nat) (pr:PrM) (p:PgM) (s':MaM) (m m':Mem):Prop:=∃ t' now' q',TkA t' T P A pr p s' now' q' m' ∧ ChA t' m' s'.frames now' ∧ Chg RM t t' m m'
section
variable {t:Ro} {T P A:Nat} {pr:PrM} {p:PgM} {s:MaM} {q:RestA} {F:Nat} {g:FrM} {fs:List FrM} {px cx sx u:AV} {m:Mem}
theorem In3.bd (h:In3 t T P A pr p s q F g fs px cx sx u m):∀ j,t j ≠ none → j < m.next:=h.tk.b.bd
theorem In3.kp {m':Mem} (h:In3 t T P A pr p s q F g fs px cx sx u m) (k:Kp m m'):In3 t T P A pr p s q F g fs px cx sx u m':=by
 have c:Chg (fun _ => False) t t m m':=Chg.refl h.bd k
 exact ⟨h.tk.keepR c.kt (by simp),h.fr.keep c.kt (by simp) (by simp) (by simp),ChA.keep c.kt fs u (by simp) h.ch⟩
theorem In3.hi {R:Nat → Prop} {t':Ro} {m':Mem} {g':FrM} {px' sx':AV} (h:In3 t T P A pr p s q F g fs px cx sx u m) (c:Chg R t t' m m') (hR:∀ r,R r → roF fs.length ≤ r) (f:FrB t' fs.length F g' px' cx sx' u m'):In3 t' T P A pr p s q F g' fs px' cx sx' u m' :=
 ⟨h.tk.keepR c.kt (fun r e => by have:=hR r e; have:=roHi fs.length; omega),f,ChA.keep c.kt fs u (fun r e => .inr (by have:=hR r e; simp only [roF] at this; omega)) h.ch⟩
theorem roLe (h:Nat):∀ r,r = roF h ∨ r = roS h → roF h ≤ r:=by simp only [roF,roS]; omega
theorem RM_hi {h r:Nat} (e:roF h ≤ r):RM r:=.inr (.inr (by have:=roHi h; omega))
theorem put3 (h:In3 t T P A pr p s q F g fs px cx sx u m) (hl:g.stack.length ≤ 4096) (v:Val):wph Tryz.prog ca (.func 64) [.ptr F 0,valA v] m fun r m' => r = .tup [] ∧ ∃ t' sx',In3 t' T P A pr p s q F (g.put v) fs px cx sx' u m' ∧ Chg RM t t' m m':=by
 refine Abv (w64 h.bd h.fr hl v) ?_
 rintro r m' ⟨rfl,t',sx',hf,c⟩
 exact ⟨rfl,t',sx',h.hi c (roLe _) hf,c.mono fun r e => RM_hi (roLe _ r e)⟩
theorem take3 (h:In3 t T P A pr p s q F g fs px cx sx u m) (hl:g.stack.length ≤ 4096) {n:Nat} (hn:n ≤ g.stack.length):wph Tryz.prog ca (.func 68) [.ptr F 0,int n] m fun r m' => r = .lst (vals (g.last n)) ∧ ∃ sx',In3 t T P A pr p s q F (g.cut n) fs px cx sx' u m' ∧ Chg RM t t m m':=by
 refine Abv (w68 h.bd h.fr hl hn) ?_
 rintro r m' ⟨rfl,sx',hf,c⟩
 exact ⟨rfl,sx',h.hi c (fun r e => Nat.le_of_eq e.symm) hf,c.mono fun r e => RM_hi (Nat.le_of_eq e.symm)⟩
theorem In3.fin {t0:Ro} {m0:Mem} (h:In3 t T P A pr p s q F g fs px cx sx u m) (c:Chg RM t0 t m0 m):ResI t0 T P A pr p (setT s g fs) m0 m :=
 ⟨t,.ptr F 0,q,⟨h.tk.b,h.tk.tk,h.tk.args⟩,⟨F,u,rfl,⟨px,cx,sx,h.fr⟩,h.ch⟩,c⟩
theorem Agg {l:List Val} {i:Int} (h0:0 ≤ i) (h:i < l.length):l[i.toNat]? = some (atV l i.toNat):=by
 have:i.toNat < l.length:=by omega
 rw [List.getElem?_eq_getElem this,atV,List.getD_eq_getElem?_getD,List.getElem?_eq_getElem this]
 rfl
theorem StA.at {t:Ro} {r:Nat} {x:AV} {l:List Val} (hs:StA t r m x l) {i:Int} (h0:0 ≤ i) (h1:i < l.length):∃ id w e,t id = some r ∧ id < m.next ∧ x = .sl id 0 l.length 2 true none ∧ m.get id = some (.cells (flat (vals (l ++ e))) false w) ∧ aindexAddr Tryz.prog 48 x (int i) = some (.ptr id (i.toNat * 2)) ∧ i.toNat * 2 + 2 ≤ (flat (vals (l ++ e))).length ∧ ((flat (vals (l ++ e))).drop (i.toNat * 2)).take 2 = [int (atV l i.toNat).1,int (atV l i.toNat).2]:=by
 rcases hs with ⟨rfl,_⟩ | ⟨id,e,w,h1',h2,rfl,h4⟩
 ·simp at h1; omega
 ·have hix:=Aar (P:=Tryz.prog) (q:=.i64) (ag:=true) (c:=none) (id:=id) (off:=0) (len:=l.length) (i:=i.toNat) Tryz.underlying48 Aba (by omega)
  rw [show ((i.toNat:Nat):Int) = i by omega,Nat.zero_add] at hix
  have hg:(l ++ e)[i.toNat]? = some (atV l i.toNat):=by rw [List.getElem?_append_left (by omega)]; exact Agg h0 h1
  obtain ⟨f1,f2⟩:=Adp (k:=2) (Aa5 (l ++ e)) (by rw [Agl,hg]; rfl)
  exact ⟨id,w,e,h1',h2,rfl,h4,hix,f1,by rw [f2]; simp [valA]⟩
end
section
variable {t:Ro} {T P A:Nat} {pr:PrM} {p:PgM} {s:MaM} {q:RestA} {F:Nat} {g:FrM} {fs:List FrM} {px cx sx u:AV} {m:Mem} {x:InsM}
theorem ins1 (h:In3 t T P A pr p s q F g fs px cx sx u m) (hx:x.1 = 1) (h0:0 ≤ x.2.1) (h1:x.2.1 < p.cv.length) (hl:g.stack.length ≤ 256):wph Tryz.prog ca (.func 45) [.ptr T 0,.ptr F 0,insA x] m fun r m' => r = .tup [] ∧ ResI t T P A pr p (insM p g fs x s) m m':=by
 obtain ⟨M1,hM1⟩:∃ M1,M1 = m.new [int x.1,int x.2.1,int x.2.2] false:=⟨_,rfl⟩
 have k1:Kp m M1:=by rw [hM1]; simp
 have nM:M1.next = m.next + 1:=by rw [hM1]; simp
 have b0:M1.get m.next = some (.cells [int x.1,int x.2.1,int x.2.2] false (m.clock + 1)):=by rw [hM1]; simp
 have hI:=h.kp k1
 have c1:Chg RM t t m M1:=Chg.refl h.bd k1
 obtain ⟨hT,w,gT⟩:=hI.tk.tk
 obtain ⟨cx',⟨hP,wP,gP⟩,cv⟩:=hI.tk.b.pg
 obtain ⟨id,wv,e,e1,e2,rfl,e4,e5,e6,e7⟩:=cv.at h0 h1
 refine Aah Tryz.func45 rfl rfl (by simp [Tryz.f45]) (by simp [Tryz.f45]) fun Q hQ => ?_
 simp only [Tryz.f45,show ca.keepRes 45 = false from rfl,show ca.keepArgs 45 = false from rfl] at hQ ⊢
 simp
 rw [← hM1]
 clear hM1
 simp [b0,hx]
 refine Aat (by kernel_rfl) (by kernel_rfl) ?_
 simp [gT,gP,tkC,pgC,b0,e4,e5,e6,e7,Aad]
 refine Aac (put3 hI (by omega) _) ?_
 rintro _ m7 ⟨rfl,t7,sx7,h7,c7⟩
 simp
 refine hQ _ _ _ ⟨.inl rfl,[],rfl,rfl,?_⟩
 have:=h7.fin (c1.trans c7)
 simpa [insM,hx] using this
end
section
variable {t:Ro} {T P A:Nat} {pr:PrM} {p:PgM} {s:MaM} {q:RestA} {F:Nat} {g:FrM} {fs:List FrM} {px cx sx u:AV} {m:Mem} {x:InsM}
theorem saI (a b:Int):sameA (int a) (int b) = decide (a = b):=by simp [sameA]
theorem In3.asks {t0:Ro} {m0 m':Mem} {s':MaM} {q':RestA} (h:In3 t T P A pr p s q F g fs px cx sx u m) (c0:Chg RM t0 t m0 m) (tk:TkA t T P A pr p s' (.ptr F 0) q' m') (c:Chg (· = 0) t t m m'):ResI t0 T P A pr p (setT s' g fs) m0 m':=by
 refine ⟨t,.ptr F 0,q',⟨tk.b,tk.tk,tk.args⟩,⟨F,u,rfl,⟨px,cx,sx,h.fr.keep c.kt ?_ ?_ ?_⟩,ChA.keep c.kt fs u (fun r e => .inl (by have e:r = 0:=e; omega)) h.ch⟩,c0.trans (c.mono fun _ e => .inl e)⟩
 ·show ¬ roF fs.length = 0
  have:=roHi fs.length; omega
 ·show ¬ roP fs.length = 0
  have:=roHi fs.length; omega
 ·show ¬ roS fs.length = 0
  have:=roHi fs.length; omega
theorem In3.set {g':FrM} (h:In3 t T P A pr p s q F g fs px cx sx u m) (e1:g'.params = g.params) (e2:g'.caps = g.caps) (e3:g'.stack = g.stack):In3 t T P A pr p s q F g' fs px cx sx u (m.set F (frC g' fs.length px cx sx u)) ∧ Chg RM t t m (m.set F (frC g' fs.length px cx sx u)):=by
 obtain ⟨a,b⟩:=Akd (g:=g') (u:=u) h.fr.tF h.fr.get.1 (by rw [e1]; exact h.fr.par) (by rw [e2]; exact h.fr.cap) (by rw [e3]; exact h.fr.stk) h.bd
 exact ⟨h.hi b (fun r e => Nat.le_of_eq e.symm) a,b.mono fun r e => RM_hi (Nat.le_of_eq e.symm)⟩
theorem ResI.trans {t1:Ro} {m1 m2:Mem} {s':MaM} (c:Chg RM t t1 m m1) (h:ResI t1 T P A pr p s' m1 m2):ResI t T P A pr p s' m m2:=by
 obtain ⟨t',now',q',a,b,d⟩:=h
 exact ⟨t',now',q',a,b,c.trans d⟩
theorem ResI.fail {t1:Ro} {q7:RestA} {m2:Mem} (h:TkA t1 T P A pr p (failM s) nilA q7 m2) (c:Chg RM t t1 m m2):ResI t T P A pr p (failM s) m m2:=⟨t1,nilA,q7,h,rfl,c⟩
theorem ins2 (h:In3 t T P A pr p s q F g fs px cx sx u m) (hx:x.1 = 2) (h0:0 ≤ x.2.1) (h1:x.2.1 < g.params.length) (hl:g.stack.length ≤ 256):wph Tryz.prog ca (.func 45) [.ptr T 0,.ptr F 0,insA x] m fun r m' => r = .tup [] ∧ ResI t T P A pr p (insM p g fs x s) m m':=by
 obtain ⟨M1,hM1⟩:∃ M1,M1 = m.new [int x.1,int x.2.1,int x.2.2] false:=⟨_,rfl⟩
 have k1:Kp m M1:=by rw [hM1]; simp
 have nM:M1.next = m.next + 1:=by rw [hM1]; simp
 have b0:M1.get m.next = some (.cells [int x.1,int x.2.1,int x.2.2] false (m.clock + 1)):=by rw [hM1]; simp
 have hI:=h.kp k1
 have bd:=h.bd
 have c1:Chg RM t t m M1:=Chg.refl h.bd k1
 obtain ⟨hT,w,gT⟩:=hI.tk.tk
 obtain ⟨cx',⟨hP,wP,gP⟩,cv⟩:=hI.tk.b.pg
 obtain ⟨hF,wF,gF⟩:=hI.fr.get
 obtain ⟨id,wv,e,e1,e2,rfl,e4,e5,e6,e7⟩:=hI.fr.par.at h0 h1
 refine Aah Tryz.func45 rfl rfl (by simp [Tryz.f45]) (by simp [Tryz.f45]) fun Q hQ => ?_
 simp only [Tryz.f45,show ca.keepRes 45 = false from rfl,show ca.keepArgs 45 = false from rfl] at hQ ⊢
 simp
 rw [← hM1]
 clear hM1
 simp [b0,hx]
 refine Aat (by kernel_rfl) (by kernel_rfl) ?_
 simp [gF,frC,b0,e4,e5,e6,e7,Aad]
 refine Aac (put3 hI (by omega) _) ?_
 rintro _ m7 ⟨rfl,t7,sx7,h7,c7⟩
 simp
 refine hQ _ _ _ ⟨.inl rfl,[],rfl,rfl,?_⟩
 have:=h7.fin (c1.trans c7)
 simpa [insM,hx] using this
theorem ins3 (h:In3 t T P A pr p s q F g fs px cx sx u m) (hx:x.1 = 3) (h0:0 ≤ x.2.1) (h1:x.2.1 < g.caps.length) (hl:g.stack.length ≤ 256):wph Tryz.prog ca (.func 45) [.ptr T 0,.ptr F 0,insA x] m fun r m' => r = .tup [] ∧ ResI t T P A pr p (insM p g fs x s) m m':=by
 obtain ⟨M1,hM1⟩:∃ M1,M1 = m.new [int x.1,int x.2.1,int x.2.2] false:=⟨_,rfl⟩
 have k1:Kp m M1:=by rw [hM1]; simp
 have nM:M1.next = m.next + 1:=by rw [hM1]; simp
 have b0:M1.get m.next = some (.cells [int x.1,int x.2.1,int x.2.2] false (m.clock + 1)):=by rw [hM1]; simp
 have hI:=h.kp k1
 have bd:=h.bd
 have c1:Chg RM t t m M1:=Chg.refl h.bd k1
 obtain ⟨hT,w,gT⟩:=hI.tk.tk
 obtain ⟨cx',⟨hP,wP,gP⟩,cv⟩:=hI.tk.b.pg
 obtain ⟨hF,wF,gF⟩:=hI.fr.get
 have hcx:cx = .lst (vals g.caps):=by
  rcases hI.fr.cap with e | ⟨e,_⟩
  ·exact e
  ·rw [e] at h1; simp at h1; omega
 subst hcx
 have hix:=Abw (Agg h0 h1)
 rw [show ((x.2.1.toNat:Nat):Int) = x.2.1 by omega] at hix
 refine Aah Tryz.func45 rfl rfl (by simp [Tryz.f45]) (by simp [Tryz.f45]) fun Q hQ => ?_
 simp only [Tryz.f45,show ca.keepRes 45 = false from rfl,show ca.keepArgs 45 = false from rfl] at hQ ⊢
 simp
 rw [← hM1]
 clear hM1
 simp [b0,hx]
 refine Aat (by kernel_rfl) (by kernel_rfl) ?_
 simp [gF,frC,b0,hix]
 refine Aac (put3 hI (by omega) _) ?_
 rintro _ m7 ⟨rfl,t7,sx7,h7,c7⟩
 simp
 refine hQ _ _ _ ⟨.inl rfl,[],rfl,rfl,?_⟩
 have:=h7.fin (c1.trans c7)
 simpa [insM,hx] using this
theorem ins10 (h:In3 t T P A pr p s q F g fs px cx sx u m) (hx:x.1 = 10) (h0:0 ≤ x.2.1) (hl:g.stack.length ≤ 256):wph Tryz.prog ca (.func 45) [.ptr T 0,.ptr F 0,insA x] m fun r m' => r = .tup [] ∧ ResI t T P A pr p (insM p g fs x s) m m':=by
 obtain ⟨M1,hM1⟩:∃ M1,M1 = m.new [int x.1,int x.2.1,int x.2.2] false:=⟨_,rfl⟩
 have k1:Kp m M1:=by rw [hM1]; simp
 have nM:M1.next = m.next + 1:=by rw [hM1]; simp
 have b0:M1.get m.next = some (.cells [int x.1,int x.2.1,int x.2.2] false (m.clock + 1)):=by rw [hM1]; simp
 have hI:=h.kp k1
 have bd:=h.bd
 have c1:Chg RM t t m M1:=Chg.refl h.bd k1
 obtain ⟨hT,w,gT⟩:=hI.tk.tk
 obtain ⟨cx',⟨hP,wP,gP⟩,cv⟩:=hI.tk.b.pg
 obtain ⟨hF,wF,gF⟩:=hI.fr.get
 have ecn:((x.2.1.toNat:Nat):Int) = x.2.1:=by omega
 refine Aah Tryz.func45 rfl rfl (by simp [Tryz.f45]) (by simp [Tryz.f45]) fun Q hQ => ?_
 simp only [Tryz.f45,show ca.keepRes 45 = false from rfl,show ca.keepArgs 45 = false from rfl] at hQ ⊢
 simp
 rw [← hM1]
 clear hM1
 obtain ⟨z1,z2⟩:=hI.set (g':={ g with pc:=x.2.1.toNat }) rfl rfl rfl
 simp only [frC,ecn] at z1 z2
 simp [b0,hx,gF,frC]
 refine hQ _ _ _ ⟨.inl rfl,[],rfl,rfl,?_⟩
 have:=z1.fin (c1.trans z2)
 simpa [insM,hx] using this
theorem ins16 (h:In3 t T P A pr p s q F g fs px cx sx u m) (hx:x.1 = 16) (h1:1 ≤ g.stack.length) (hl:g.stack.length ≤ 256):wph Tryz.prog ca (.func 45) [.ptr T 0,.ptr F 0,insA x] m fun r m' => r = .tup [] ∧ ResI t T P A pr p (insM p g fs x s) m m':=by
 obtain ⟨M1,hM1⟩:∃ M1,M1 = m.new [int x.1,int x.2.1,int x.2.2] false:=⟨_,rfl⟩
 have k1:Kp m M1:=by rw [hM1]; simp
 have nM:M1.next = m.next + 1:=by rw [hM1]; simp
 have b0:M1.get m.next = some (.cells [int x.1,int x.2.1,int x.2.2] false (m.clock + 1)):=by rw [hM1]; simp
 have hI:=h.kp k1
 have bd:=h.bd
 have c1:Chg RM t t m M1:=Chg.refl h.bd k1
 obtain ⟨hT,w,gT⟩:=hI.tk.tk
 obtain ⟨cx',⟨hP,wP,gP⟩,cv⟩:=hI.tk.b.pg
 obtain ⟨hF,wF,gF⟩:=hI.fr.get
 refine Aah Tryz.func45 rfl rfl (by simp [Tryz.f45]) (by simp [Tryz.f45]) fun Q hQ => ?_
 simp only [Tryz.f45,show ca.keepRes 45 = false from rfl,show ca.keepArgs 45 = false from rfl] at hQ ⊢
 simp
 rw [← hM1]
 clear hM1
 simp [b0,hx]
 refine Aac (take3 hI (by omega) (n:=1) h1) ?_
 rintro _ m7 ⟨rfl,sx7,h7,c7⟩
 simp
 refine hQ _ _ _ ⟨.inl rfl,[],rfl,rfl,?_⟩
 have:=h7.fin (c1.trans c7)
 simpa [insM,hx] using this
theorem ins4 (h:In3 t T P A pr p s q F g fs px cx sx u m) (hx:x.1 = 4) (h0:0 ≤ x.2.1) (h1:x.2.1 < pr.names.length) (hl:g.stack.length ≤ 256):wph Tryz.prog ca (.func 45) [.ptr T 0,.ptr F 0,insA x] m fun r m' => r = .tup [] ∧ ResI t T P A pr p (insM p g fs x s) m m':=by
 obtain ⟨M1,hM1⟩:∃ M1,M1 = m.new [int x.1,int x.2.1,int x.2.2] false:=⟨_,rfl⟩
 have k1:Kp m M1:=by rw [hM1]; simp
 have nM:M1.next = m.next + 1:=by rw [hM1]; simp
 have b0:M1.get m.next = some (.cells [int x.1,int x.2.1,int x.2.2] false (m.clock + 1)):=by rw [hM1]; simp
 have hI:=h.kp k1
 have bd:=h.bd
 have c1:Chg RM t t m M1:=Chg.refl h.bd k1
 obtain ⟨hT,w,gT⟩:=hI.tk.tk
 obtain ⟨cx',⟨hP,wP,gP⟩,cv⟩:=hI.tk.b.pg
 obtain ⟨hF,wF,gF⟩:=hI.fr.get
 obtain ⟨nm,hnm⟩:∃ nm,pr.names[x.2.1.toNat]? = some nm:=⟨_,List.getElem?_eq_getElem (by omega)⟩
 have ecn:((x.2.1.toNat:Nat):Int) = x.2.1:=by omega
 refine Aah Tryz.func45 rfl rfl (by simp [Tryz.f45]) (by simp [Tryz.f45]) fun Q hQ => ?_
 simp only [Tryz.f45,show ca.keepRes 45 = false from rfl,show ca.keepArgs 45 = false from rfl] at hQ ⊢
 simp
 rw [← hM1]
 clear hM1
 simp [b0,hx]
 have w:=w71 (o:=1) hI.tk hnm (.inl rfl)
 rw [ecn] at w
 refine Aac w ?_
 rintro _ m7 ⟨rfl,q7,h7,c7⟩
 simp
 refine hQ _ _ _ ⟨.inl rfl,[],rfl,rfl,?_⟩
 have:=hI.asks c1 h7 c7
 simpa [insM,hx] using this
theorem ins8 (h:In3 t T P A pr p s q F g fs px cx sx u m) (hx:x.1 = 8) (h0:0 ≤ x.2.1) (h1:x.2.1 < pr.names.length) (h2:1 ≤ g.stack.length) (hl:g.stack.length ≤ 256):wph Tryz.prog ca (.func 45) [.ptr T 0,.ptr F 0,insA x] m fun r m' => r = .tup [] ∧ ResI t T P A pr p (insM p g fs x s) m m':=by
 obtain ⟨M1,hM1⟩:∃ M1,M1 = m.new [int x.1,int x.2.1,int x.2.2] false:=⟨_,rfl⟩
 have k1:Kp m M1:=by rw [hM1]; simp
 have nM:M1.next = m.next + 1:=by rw [hM1]; simp
 have b0:M1.get m.next = some (.cells [int x.1,int x.2.1,int x.2.2] false (m.clock + 1)):=by rw [hM1]; simp
 have hI:=h.kp k1
 have bd:=h.bd
 have c1:Chg RM t t m M1:=Chg.refl h.bd k1
 obtain ⟨hT,w,gT⟩:=hI.tk.tk
 obtain ⟨cx',⟨hP,wP,gP⟩,cv⟩:=hI.tk.b.pg
 obtain ⟨hF,wF,gF⟩:=hI.fr.get
 obtain ⟨nm,hnm⟩:∃ nm,pr.names[x.2.1.toNat]? = some nm:=⟨_,List.getElem?_eq_getElem (by omega)⟩
 have ecn:((x.2.1.toNat:Nat):Int) = x.2.1:=by omega
 refine Aah Tryz.func45 rfl rfl (by simp [Tryz.f45]) (by simp [Tryz.f45]) fun Q hQ => ?_
 simp only [Tryz.f45,show ca.keepRes 45 = false from rfl,show ca.keepArgs 45 = false from rfl] at hQ ⊢
 simp
 rw [← hM1]
 clear hM1
 simp [b0,hx]
 refine Aaq (by kernel_rfl) ?_
 simp [b0]
 refine Aac (take3 hI (by omega) (n:=1) h2) ?_
 rintro _ m7 ⟨rfl,sx7,h7,c7⟩
 have b7:=(c7.box0 bd (Nat.le_refl _) (by omega)).trans b0
 simp
 have w:=w71 (o:=2) h7.tk hnm (.inr ⟨g.last 1,rfl⟩)
 rw [ecn] at w
 refine Aac w ?_
 rintro _ m8 ⟨rfl,q8,h8,c8⟩
 have b8:=(c8.kc.get m.next (by have:=c7.kc.next; omega) (fun ⟨r,e,_⟩ => by have:=bd m.next (by rw [e]; simp); omega)).trans b7
 simp
 refine Aa0 (l:=[(2,4)]) (by kernel_rfl) (?_:List.all _ _ = true) ?_
 ·simp [metAtD,metOkD,rank,verKeptD,Region.wanted,Mem.ver,b0,b7,b8]
 simp
 refine hQ _ _ _ ⟨.inl rfl,[],rfl,rfl,?_⟩
 have:=h7.asks (c1.trans c7) h8 c8
 simpa [insM,hx] using this
theorem ins9 (h:In3 t T P A pr p s q F g fs px cx sx u m) (hx:x.1 = 9) (h0:0 ≤ x.2.1) (h1:x.2.1 < pr.names.length) (h2:1 ≤ g.stack.length) (hl:g.stack.length ≤ 256):wph Tryz.prog ca (.func 45) [.ptr T 0,.ptr F 0,insA x] m fun r m' => r = .tup [] ∧ ResI t T P A pr p (insM p g fs x s) m m':=by
 obtain ⟨M1,hM1⟩:∃ M1,M1 = m.new [int x.1,int x.2.1,int x.2.2] false:=⟨_,rfl⟩
 have k1:Kp m M1:=by rw [hM1]; simp
 have nM:M1.next = m.next + 1:=by rw [hM1]; simp
 have b0:M1.get m.next = some (.cells [int x.1,int x.2.1,int x.2.2] false (m.clock + 1)):=by rw [hM1]; simp
 have hI:=h.kp k1
 have bd:=h.bd
 have c1:Chg RM t t m M1:=Chg.refl h.bd k1
 obtain ⟨hT,w,gT⟩:=hI.tk.tk
 obtain ⟨cx',⟨hP,wP,gP⟩,cv⟩:=hI.tk.b.pg
 obtain ⟨hF,wF,gF⟩:=hI.fr.get
 obtain ⟨nm,hnm⟩:∃ nm,pr.names[x.2.1.toNat]? = some nm:=⟨_,List.getElem?_eq_getElem (by omega)⟩
 have ecn:((x.2.1.toNat:Nat):Int) = x.2.1:=by omega
 refine Aah Tryz.func45 rfl rfl (by simp [Tryz.f45]) (by simp [Tryz.f45]) fun Q hQ => ?_
 simp only [Tryz.f45,show ca.keepRes 45 = false from rfl,show ca.keepArgs 45 = false from rfl] at hQ ⊢
 simp
 rw [← hM1]
 clear hM1
 simp [b0,hx]
 refine Aaq (by kernel_rfl) ?_
 simp [b0]
 refine Aac (take3 hI (by omega) (n:=1) h2) ?_
 rintro _ m7 ⟨rfl,sx7,h7,c7⟩
 have b7:=(c7.box0 bd (Nat.le_refl _) (by omega)).trans b0
 simp
 have w:=w71 (o:=3) h7.tk hnm (.inr ⟨g.last 1,rfl⟩)
 rw [ecn] at w
 refine Aac w ?_
 rintro _ m8 ⟨rfl,q8,h8,c8⟩
 have b8:=(c8.kc.get m.next (by have:=c7.kc.next; omega) (fun ⟨r,e,_⟩ => by have:=bd m.next (by rw [e]; simp); omega)).trans b7
 simp
 refine Aa0 (l:=[(2,4)]) (by kernel_rfl) (?_:List.all _ _ = true) ?_
 ·simp [metAtD,metOkD,rank,verKeptD,Region.wanted,Mem.ver,b0,b7,b8]
 simp
 refine hQ _ _ _ ⟨.inl rfl,[],rfl,rfl,?_⟩
 have:=h7.asks (c1.trans c7) h8 c8
 simpa [insM,hx] using this
theorem ins11 (h:In3 t T P A pr p s q F g fs px cx sx u m) (hx:x.1 = 11) (h0:0 ≤ x.2.1) (h2:1 ≤ g.stack.length) (hl:g.stack.length ≤ 256):wph Tryz.prog ca (.func 45) [.ptr T 0,.ptr F 0,insA x] m fun r m' => r = .tup [] ∧ ResI t T P A pr p (insM p g fs x s) m m':=by
 obtain ⟨M1,hM1⟩:∃ M1,M1 = m.new [int x.1,int x.2.1,int x.2.2] false:=⟨_,rfl⟩
 have k1:Kp m M1:=by rw [hM1]; simp
 have nM:M1.next = m.next + 1:=by rw [hM1]; simp
 have b0:M1.get m.next = some (.cells [int x.1,int x.2.1,int x.2.2] false (m.clock + 1)):=by rw [hM1]; simp
 have hI:=h.kp k1
 have bd:=h.bd
 have c1:Chg RM t t m M1:=Chg.refl h.bd k1
 obtain ⟨hT,w,gT⟩:=hI.tk.tk
 obtain ⟨cx',⟨hP,wP,gP⟩,cv⟩:=hI.tk.b.pg
 obtain ⟨hF,wF,gF⟩:=hI.fr.get
 have ecn:((x.2.1.toNat:Nat):Int) = x.2.1:=by omega
 have hix:aindexAddr Tryz.prog 48 (.lst (vals (g.last 1))) (int 0) = some ((valA (atV (g.last 1) 0)).cptr 0):=Abw (i:=0) (Agg (i:=0) (Int.le_refl _) (by rw [Adi g h2]; omega))
 refine Aah Tryz.func45 rfl rfl (by simp [Tryz.f45]) (by simp [Tryz.f45]) fun Q hQ => ?_
 simp only [Tryz.f45,show ca.keepRes 45 = false from rfl,show ca.keepArgs 45 = false from rfl] at hQ ⊢
 simp
 rw [← hM1]
 clear hM1
 simp [b0,hx]
 refine Aaq (by kernel_rfl) ?_
 simp
 refine Aac (take3 hI (by omega) (n:=1) h2) ?_
 rintro _ m7 ⟨rfl,sx7,h7,c7⟩
 have b7:=(c7.box0 bd (Nat.le_refl _) (by omega)).trans b0
 obtain ⟨hF7,wF7,gF7⟩:=h7.fr.get
 simp [hix,Aad,(w70 _).go,Aq7]
 refine Aa0 (l:=[(3,4)]) (by kernel_rfl) (?_:List.all _ _ = true) ?_
 ·simp [metAtD,metOkD,rank,verKeptD,Region.wanted,Mem.ver,objV]
 by_cases hv:atV (g.last 1) 0 = (2,0)
 ·obtain ⟨z1,z2⟩:=h7.set (g':={ g.cut 1 with pc:=x.2.1.toNat }) rfl rfl rfl
  simp only [frC,ecn] at z1 z2
  simp [hv,b7,gF7,frC]
  refine hQ _ _ _ ⟨.inl rfl,[],rfl,rfl,?_⟩
  have:=z1.fin (c1.trans (c7.trans z2))
  simpa [insM,hx,hv] using this
 ·simp [hv]
  refine hQ _ _ _ ⟨.inl rfl,[],rfl,rfl,?_⟩
  have e:insM p g fs x s = setT s (g.cut 1) fs:=by simp [insM,hx,hv]; rfl
  rw [e]
  exact h7.fin (c1.trans c7)
theorem ins15 (h:In3 t T P A pr p s q F g fs px cx sx u m) (hx:x.1 = 15) (h2:1 ≤ g.stack.length) (hfs:∀ f ∈ fs,f.stack.length ≤ 4096) (hl:g.stack.length ≤ 256):wph Tryz.prog ca (.func 45) [.ptr T 0,.ptr F 0,insA x] m fun r m' => r = .tup [] ∧ ResI t T P A pr p (insM p g fs x s) m m':=by
 obtain ⟨M1,hM1⟩:∃ M1,M1 = m.new [int x.1,int x.2.1,int x.2.2] false:=⟨_,rfl⟩
 have k1:Kp m M1:=by rw [hM1]; simp
 have nM:M1.next = m.next + 1:=by rw [hM1]; simp
 have b0:M1.get m.next = some (.cells [int x.1,int x.2.1,int x.2.2] false (m.clock + 1)):=by rw [hM1]; simp
 have hI:=h.kp k1
 have bd:=h.bd
 have c1:Chg RM t t m M1:=Chg.refl h.bd k1
 obtain ⟨hT,w,gT⟩:=hI.tk.tk
 obtain ⟨cx',⟨hP,wP,gP⟩,cv⟩:=hI.tk.b.pg
 obtain ⟨hF,wF,gF⟩:=hI.fr.get
 have husame:sameA u u = true:=by
  have hc:=h.ch
  cases fs with
  | nil => have e:u = nilA:=hc; rw [e]; rfl
  | cons f fs => obtain ⟨F',u',e,_⟩:=hc; rw [e]; simp [sameA]
 have hix:aindexAddr Tryz.prog 48 (.lst (vals (g.last 1))) (int 0) = some ((valA (atV (g.last 1) 0)).cptr 0):=Abw (i:=0) (Agg (i:=0) (Int.le_refl _) (by rw [Adi g h2]; omega))
 refine Aah Tryz.func45 rfl rfl (by simp [Tryz.f45]) (by simp [Tryz.f45]) fun Q hQ => ?_
 simp only [Tryz.f45,show ca.keepRes 45 = false from rfl,show ca.keepArgs 45 = false from rfl] at hQ ⊢
 simp
 rw [← hM1]
 clear hM1
 simp [b0,hx]
 refine Abj (by kernel_rfl) ?_
 simp
 refine Aac (take3 hI (by omega) (n:=1) h2) ?_
 rintro _ m7 ⟨rfl,sx7,h7,c7⟩
 obtain ⟨hF7,wF7,gF7⟩:=h7.fr.get
 simp [hix,Aad,gF7,frC]
 refine Aac (w73 h7.tk h7.ch hfs (atV (g.last 1) 0)) ?_
 rintro _ m8 ⟨rfl,t8,now8,q8,h8,hc8,c8⟩
 simp only [frC] at gF gF7
 simp
 refine Aa0 (l:=[(2,8)]) (by kernel_rfl) (?_:List.all _ _ = true) ?_
 ·simp [metAt,metOk,rank,objOf,verKept,Region.wanted,Mem.ver,gF,gF7,tailKept,sameCs,saI,offOf,husame]
 simp
 refine hQ _ _ _ ⟨.inl rfl,[],rfl,rfl,?_⟩
 have e:insM p g fs x s = answerM (atV (g.last 1) 0) fs s:=by simp [insM,hx]
 rw [e]
 exact ⟨t8,now8,q8,h8,hc8,c1.trans (c7.trans c8)⟩
theorem ins13 (h:In3 t T P A pr p s q F g fs px cx sx u m) (hx:x.1 = 13) (h0:0 ≤ x.2.1) (h1:x.2.1 ≤ 32) (h2:x.2.1 + 1 ≤ g.stack.length) (hpg:OkPg p) (hn:Nice p.codes s.ar) (hns:NoPrim g.stack) (hfs:fs.length < 512) (hl:g.stack.length ≤ 256):wph Tryz.prog ca (.func 45) [.ptr T 0,.ptr F 0,insA x] m fun r m' => r = .tup [] ∧ ResI t T P A pr p (insM p g fs x s) m m':=by
 obtain ⟨M1,hM1⟩:∃ M1,M1 = m.new [int x.1,int x.2.1,int x.2.2] false:=⟨_,rfl⟩
 have k1:Kp m M1:=by rw [hM1]; simp
 have nM:M1.next = m.next + 1:=by rw [hM1]; simp
 have b0:M1.get m.next = some (.cells [int x.1,int x.2.1,int x.2.2] false (m.clock + 1)):=by rw [hM1]; simp
 have hI:=h.kp k1
 have bd:=h.bd
 have c1:Chg RM t t m M1:=Chg.refl h.bd k1
 obtain ⟨hT,w,gT⟩:=hI.tk.tk
 obtain ⟨cx',⟨hP,wP,gP⟩,cv⟩:=hI.tk.b.pg
 obtain ⟨hF,wF,gF⟩:=hI.fr.get
 have ecn:((x.2.1.toNat + 1:Nat):Int) = x.2.1 + 1:=by omega
 have hw:IntKind.i64.wrap (x.2.1 + 1) = x.2.1 + 1:=IntWalk.i64_in _ (by omega)
 obtain ⟨L,hL⟩:∃ L,L = g.last (x.2.1.toNat + 1):=⟨_,rfl⟩
 have hLl:L.length = x.2.1.toNat + 1:=by rw [hL]; exact Adi g (by omega)
 have hix:aindexAddr Tryz.prog 48 (.lst (vals L)) (int 0) = some ((valA (atV L 0)).cptr 0):=Abw (i:=0) (Agg (i:=0) (Int.le_refl _) (by omega))
 have hsl:aslice Tryz.prog 48 (.lst (vals L)) (some (int 1)) none none = some (.lst (vals (L.drop 1))):=by
  have:=Acl (P:=Tryz.prog) (T:=48) (xs:=vals L) (k:=2) (lo:=some (int ((1:Nat):Int))) (hi:=none) (l:=some 1) (h:=none) Tryz.underlying48 Aba (Abg (n:=1)) Aa3 (by simp; omega) (by simp) (Aa5 L)
  refine this.trans ?_
  simp [vals,List.map_drop,← List.map_take]
 refine Aah Tryz.func45 rfl rfl (by simp [Tryz.f45]) (by simp [Tryz.f45]) fun Q hQ => ?_
 simp only [Tryz.f45,show ca.keepRes 45 = false from rfl,show ca.keepArgs 45 = false from rfl] at hQ ⊢
 simp
 rw [← hM1]
 clear hM1
 simp [b0,hx,hw]
 have w:=take3 hI (by omega) (n:=x.2.1.toNat + 1) (by omega)
 rw [ecn,← hL] at w
 refine Aac w ?_
 rintro _ m7 ⟨rfl,sx7,h7,c7⟩
 have b7:=(c7.box0 bd (Nat.le_refl _) (by omega)).trans b0
 obtain ⟨hF7,wF7,gF7⟩:=h7.fr.get
 simp [b7,hx,gF7,frC]
 refine Aat (by kernel_rfl) (by kernel_rfl) ?_
 simp [hix,Aad,hsl]
 refine Aac (w72 h7.tk (fs:=g.cut (x.2.1.toNat + 1) :: fs) ⟨F,u,rfl,⟨px,cx,sx7,h7.fr⟩,h7.ch⟩ hpg hn (f:=atV L 0) (by rw [hL]; exact NoPrim.at (hns.drop _) 0) (l:=L.tail) (by simp; omega) (by simp; omega)) ?_
 rintro _ m8 ⟨rfl,t8,now8,q8,h8,hc8,c8⟩
 simp
 refine hQ _ _ _ ⟨.inl rfl,[],rfl,rfl,?_⟩
 have e:insM p g fs x s = callM p (atV L 0) L.tail (g.cut (x.2.1.toNat + 1) :: fs) s:=by rw [hL]; simp [insM,hx]
 rw [e]
 exact ⟨t8,now8,q8,h8,hc8,c1.trans (c7.trans c8)⟩
theorem ins14 (h:In3 t T P A pr p s q F g fs px cx sx u m) (hx:x.1 = 14) (h0:0 ≤ x.2.1) (h1:x.2.1 ≤ 32) (h2:x.2.1 + 1 ≤ g.stack.length) (hpg:OkPg p) (hn:Nice p.codes s.ar) (hns:NoPrim g.stack) (hfs:fs.length < 512) (hl:g.stack.length ≤ 256):wph Tryz.prog ca (.func 45) [.ptr T 0,.ptr F 0,insA x] m fun r m' => r = .tup [] ∧ ResI t T P A pr p (insM p g fs x s) m m':=by
 obtain ⟨M1,hM1⟩:∃ M1,M1 = m.new [int x.1,int x.2.1,int x.2.2] false:=⟨_,rfl⟩
 have k1:Kp m M1:=by rw [hM1]; simp
 have nM:M1.next = m.next + 1:=by rw [hM1]; simp
 have b0:M1.get m.next = some (.cells [int x.1,int x.2.1,int x.2.2] false (m.clock + 1)):=by rw [hM1]; simp
 have hI:=h.kp k1
 have bd:=h.bd
 have c1:Chg RM t t m M1:=Chg.refl h.bd k1
 obtain ⟨hT,w,gT⟩:=hI.tk.tk
 obtain ⟨cx',⟨hP,wP,gP⟩,cv⟩:=hI.tk.b.pg
 obtain ⟨hF,wF,gF⟩:=hI.fr.get
 have ecn:((x.2.1.toNat + 1:Nat):Int) = x.2.1 + 1:=by omega
 have hw:IntKind.i64.wrap (x.2.1 + 1) = x.2.1 + 1:=IntWalk.i64_in _ (by omega)
 obtain ⟨L,hL⟩:∃ L,L = g.last (x.2.1.toNat + 1):=⟨_,rfl⟩
 have hLl:L.length = x.2.1.toNat + 1:=by rw [hL]; exact Adi g (by omega)
 have hix:aindexAddr Tryz.prog 48 (.lst (vals L)) (int 0) = some ((valA (atV L 0)).cptr 0):=Abw (i:=0) (Agg (i:=0) (Int.le_refl _) (by omega))
 have hsl:aslice Tryz.prog 48 (.lst (vals L)) (some (int 1)) none none = some (.lst (vals (L.drop 1))):=by
  have:=Acl (P:=Tryz.prog) (T:=48) (xs:=vals L) (k:=2) (lo:=some (int ((1:Nat):Int))) (hi:=none) (l:=some 1) (h:=none) Tryz.underlying48 Aba (Abg (n:=1)) Aa3 (by simp; omega) (by simp) (Aa5 L)
  refine this.trans ?_
  simp [vals,List.map_drop,← List.map_take]
 refine Aah Tryz.func45 rfl rfl (by simp [Tryz.f45]) (by simp [Tryz.f45]) fun Q hQ => ?_
 simp only [Tryz.f45,show ca.keepRes 45 = false from rfl,show ca.keepArgs 45 = false from rfl] at hQ ⊢
 simp
 rw [← hM1]
 clear hM1
 simp [b0,hx,hw]
 have w:=take3 hI (by omega) (n:=x.2.1.toNat + 1) (by omega)
 rw [ecn,← hL] at w
 refine Aac w ?_
 rintro _ m7 ⟨rfl,sx7,h7,c7⟩
 have b7:=(c7.box0 bd (Nat.le_refl _) (by omega)).trans b0
 obtain ⟨hF7,wF7,gF7⟩:=h7.fr.get
 simp [b7,hx,gF7,frC]
 refine Aat (by kernel_rfl) (by kernel_rfl) ?_
 simp [hix,Aad,hsl]
 refine Aac (w72 h7.tk h7.ch hpg hn (f:=atV L 0) (by rw [hL]; exact NoPrim.at (hns.drop _) 0) (l:=L.tail) (by simp; omega) (by omega)) ?_
 rintro _ m8 ⟨rfl,t8,now8,q8,h8,hc8,c8⟩
 simp
 refine hQ _ _ _ ⟨.inl rfl,[],rfl,rfl,?_⟩
 have e:insM p g fs x s = callM p (atV L 0) L.tail fs s:=by rw [hL]; simp [insM,hx]
 rw [e]
 exact ⟨t8,now8,q8,h8,hc8,c1.trans (c7.trans c8)⟩
end
section
variable {t:Ro} {T P A:Nat} {pr:PrM} {p:PgM} {s:MaM} {q:RestA} {F:Nat} {g:FrM} {fs:List FrM} {px cx sx u:AV} {m:Mem} {x:InsM}
theorem Az6 (l e:List Val) (y:Val) (h:1 ≤ l.length):(l ++ e).set (l.length - 1) y = l.take (l.length - 1) ++ [y] ++ e:=by
 have e1:l = l.take (l.length - 1) ++ l.drop (l.length - 1):=(List.take_append_drop _ _).symm
 obtain ⟨z,hz⟩:∃ z,l.drop (l.length - 1) = [z]:=List.length_eq_one_iff.1 (by simp; omega)
 have e2:(l.take (l.length - 1)).length = l.length - 1:=by simp
 rw [hz] at e1
 generalize l.take (l.length - 1) = k at e1 e2 ⊢
 rw [← e2,e1]
 simp
theorem Ail (l e:List Val) (y:Val) (h:1 ≤ l.length):splice (flat (vals (l ++ e))) ((l.length - 1) * 2) [int y.1,int y.2] = flat (vals (l.take (l.length - 1) ++ [y] ++ e)):=by
 rw [Acn _ _ _ (by simp; omega),Az6 l e y h]
theorem In3.top (h:In3 t T P A pr p s q F g fs px cx sx u m) {id:Nat} {e:List Val} (e1:t id = some (roS fs.length)) (hid:id < m.next) (hsx:sx = .sl id 0 g.stack.length 2 true none) (hl:1 ≤ g.stack.length) (y:Val):In3 t T P A pr p s q F ((g.cut 1).put y) fs px cx sx u (m.set id (flat (vals (g.stack.take (g.stack.length - 1) ++ [y] ++ e)))) ∧ Chg RM t t m (m.set id (flat (vals (g.stack.take (g.stack.length - 1) ++ [y] ++ e)))):=by
 have c:Chg (· = roS fs.length) t t m (m.set id (flat (vals (g.stack.take (g.stack.length - 1) ++ [y] ++ e)))):=Chg.set (R:=(· = roS fs.length)) h.bd e1 rfl _
 refine ⟨h.hi c (fun r e => roLe _ r (.inr e)) ⟨h.fr.tF,c.kt.has h.fr.tF noRo.1 h.fr.get,h.fr.par.keep c.kt noRo.2.2.1,h.fr.cap,.inr ⟨id,e,m.clock + 1,e1,by simpa using hid,?_,?_⟩⟩,c.mono fun r e => RM_hi (roLe _ r (.inr e))⟩
 ·rw [hsx]
  have:((g.cut 1).put y).stack.length = g.stack.length:=by simp [FrM.put,FrM.cut]; omega
  rw [this]
 ·simp [FrM.put,FrM.cut]
theorem Any {a:ArM} (hn:Nice p.codes a) (v:Val) (_:(getM a v).2 = 0) (hk:(getM a v).1.k = 4):1 ≤ (getM a v).1.a.length:=by
 obtain ⟨i,x,_,_,e,_⟩:=Aow hn hk
 rw [e]
 simp
theorem ins5 (h:In3 t T P A pr p s q F g fs px cx sx u m) (hx:x.1 = 5) (h0:0 ≤ x.2.1) (h1:x.2.1 < g.params.length) (hl:g.stack.length ≤ 256):wph Tryz.prog ca (.func 45) [.ptr T 0,.ptr F 0,insA x] m fun r m' => r = .tup [] ∧ ResI t T P A pr p (insM p g fs x s) m m':=by
 obtain ⟨M1,hM1⟩:∃ M1,M1 = m.new [int x.1,int x.2.1,int x.2.2] false:=⟨_,rfl⟩
 have k1:Kp m M1:=by rw [hM1]; simp
 have nM:M1.next = m.next + 1:=by rw [hM1]; simp
 have b0:M1.get m.next = some (.cells [int x.1,int x.2.1,int x.2.2] false (m.clock + 1)):=by rw [hM1]; simp
 have hI:=h.kp k1
 have bd:=h.bd
 have c1:Chg RM t t m M1:=Chg.refl h.bd k1
 obtain ⟨hT,w,gT⟩:=hI.tk.tk
 obtain ⟨cx',⟨hP,wP,gP⟩,cv⟩:=hI.tk.b.pg
 obtain ⟨hF,wF,gF⟩:=hI.fr.get
 obtain ⟨id,wv,e,e1,e2,hpx,e4,e5,e6,e7⟩:=hI.fr.par.at h0 h1
 obtain ⟨v,hv⟩:∃ v,v = atV g.params x.2.1.toNat:=⟨_,rfl⟩
 rw [← hv] at e7
 obtain ⟨c,hc⟩:∃ c:CeM,c = ⟨4,0,[v],[]⟩:=⟨_,rfl⟩
 obtain ⟨M4,hM4⟩:∃ M4,M4 = M1.new [int v.1,int v.2] false:=⟨_,rfl⟩
 have g4:M4.get M1.next = some (.cells (flat (vals [v])) false (M1.clock + 1)):=by rw [hM4]; simp [vals,flat,valA]
 have ez:=Ado (k:=2) (ag:=true) (cap:=some 1) (ys:=vals [v]) rfl g4 (Add [v]) (Aa5 [v])
 obtain ⟨M5,hM5⟩:∃ M5,M5 = M4.mark M1.next (flat (vals [v])) (M1.clock + 1):=⟨_,rfl⟩
 rw [← hM5] at ez
 have k5:Kp M1 M5:=by
  have:Kp M1 M4:=by rw [hM4]; simp
  rw [hM5]
  exact this.mark (Nat.le_refl _) _ _
 have n5:=k5.next
 have g5:=(k5.get id e2).trans e4
 have h5:=hI.kp k5
 have c15:Chg RM t t m M5:=c1.trans (Chg.refl hI.bd k5)
 have hz0:fzvs M4 [.ptr T 0,.agg [int 4,int 0,.sl M1.next 0 1 2 true (some 1),.emp 0],.ptr id (x.2.1.toNat * 2)] = ([.ptr T 0,ceA c,.ptr id (x.2.1.toNat * 2)],M5):=by
  have ez':fz1 M4 (.sl M1.next 0 1 2 true (some 1)) = (.lst (vals [v]),M5):=ez
  have fe:∀ M:Mem,fz1 M (.emp 0) = (.lst [],M):=fun _ => rfl
  have fi:∀ (M:Mem) (n:Int),fz1 M (int n) = (int n,M):=fun _ _ => rfl
  have fp:∀ (M:Mem) (i o:Nat),fz1 M (.ptr i o) = (.ptr i o,M):=fun _ _ _ => rfl
  simp [fzvs,fzv,fzs,ez',hc,ceA,fe,fi,fp,byts]
 have hz1:fzvs M5 [.ptr T 0,ceA c,.ptr id (x.2.1.toNat * 2)] = ([.ptr T 0,ceA c,.ptr id (x.2.1.toNat * 2)],M5):=by simp [fzvs]
 refine Aah Tryz.func45 rfl rfl (by simp [Tryz.f45]) (by simp [Tryz.f45]) fun Q hQ => ?_
 simp only [Tryz.f45,show ca.keepRes 45 = false from rfl,show ca.keepArgs 45 = false from rfl] at hQ ⊢
 simp
 rw [← hM1]
 clear hM1
 simp [b0,hx]
 refine Aat (by kernel_rfl) (by kernel_rfl) ?_
 simp [gF,frC,b0,e5]
 simp [e4,e6,e7,abuildSlice,zeros,fillAt,abuild,placesOf,Aad]
 rw [← hM4]
 refine Aac (Agy Tryz.func65 rfl rfl rfl hz0 hz1 (w65 h5.tk c (by simp [hc]) (by simp [hc]) (W:=id) (r:=roP fs.length) e1 (by have:=roHi fs.length; omega) g5 (by omega) (by omega))) ?_
 rintro _ m7 ⟨rfl,t7,now7,q7,c7,h7⟩
 simp
 refine hQ _ _ _ ⟨.inl rfl,[],rfl,rfl,(?_:ResI t T P A pr p _ m m7)⟩
 have ins:insM p g fs x s = if (allocM s.ar c).2.2 ≠ 0 then failM { s with ar:=(allocM s.ar c).1 } else setT { s with ar:=(allocM s.ar c).1 } { g with params:=g.params.set x.2.1.toNat (allocM s.ar c).2.1 } fs:=by rw [hc,hv]; simp only [insM,hx]; rfl
 have hP:∀ r,r = 0 ∨ r = 3 ∨ r = roP fs.length → RM r:=by
  have:=roHi fs.length
  rintro r (e | e | e)
  ·exact .inl e
  ·exact .inr (.inl e)
  ·exact .inr (.inr (by omega))
 rw [ins]
 split at h7
 ·rename_i he
  rw [if_pos he]
  obtain ⟨rfl,h7⟩:=h7
  exact ResI.fail h7 (c15.trans (c7.mono hP))
 ·rename_i he
  rw [if_neg he]
  obtain ⟨rfl,h7,c7',t7id,w7,g7⟩:=h7
  refine In3.fin (px:=px) (cx:=cx) (sx:=sx) (u:=u) (q:=q7) (F:=F) ⟨h7,⟨(c7'.same F (roF fs.length) ?_).2 hI.fr.tF,c7'.kt.has h5.fr.tF ?_ h5.fr.get,?_,h5.fr.cap,h5.fr.stk.keep c7'.kt ?_⟩,ChA.keep c7'.kt fs u ?_ h5.ch⟩ (c15.trans (c7.mono hP))
  ·have:=@noRo fs.length; have:=roHi fs.length; omega
  ·have:=@noRo fs.length; have:=roHi fs.length; omega
  ·refine .inr ⟨id,e,w7,t7id,Nat.lt_of_lt_of_le (by omega) c7'.kc.next,by rw [hpx]; simp,?_⟩
   rw [g7,Acn _ _ _ (by simp; omega),List.set_append_left _ _ (by omega)]
  ·have:=@noRo fs.length; have:=roHi fs.length; omega
  ·rintro r (e | e)
   ·exact .inl (by omega)
   ·exact .inr (by simp only [roP] at e; omega)
theorem ins6 (h:In3 t T P A pr p s q F g fs px cx sx u m) (hx:x.1 = 6) (h2:1 ≤ g.stack.length) (hn:Nice p.codes s.ar) (hl:g.stack.length ≤ 256):wph Tryz.prog ca (.func 45) [.ptr T 0,.ptr F 0,insA x] m fun r m' => r = .tup [] ∧ ResI t T P A pr p (insM p g fs x s) m m':=by
 obtain ⟨M1,hM1⟩:∃ M1,M1 = m.new [int x.1,int x.2.1,int x.2.2] false:=⟨_,rfl⟩
 have k1:Kp m M1:=by rw [hM1]; simp
 have nM:M1.next = m.next + 1:=by rw [hM1]; simp
 have b0:M1.get m.next = some (.cells [int x.1,int x.2.1,int x.2.2] false (m.clock + 1)):=by rw [hM1]; simp
 have hI:=h.kp k1
 have bd:=h.bd
 have c1:Chg RM t t m M1:=Chg.refl h.bd k1
 obtain ⟨hT,w,gT⟩:=hI.tk.tk
 obtain ⟨cx',⟨hP,wP,gP⟩,cv⟩:=hI.tk.b.pg
 obtain ⟨hF,wF,gF⟩:=hI.fr.get
 obtain ⟨id,wv,e,e1,hid,hsx,e4,e5,e6,e7⟩:=hI.fr.stk.at (i:=((g.stack.length - 1:Nat):Int)) (by omega) (by omega)
 rw [Int.toNat_natCast] at e5 e6 e7
 refine Aah Tryz.func45 rfl rfl (by simp [Tryz.f45]) (by simp [Tryz.f45]) fun Q hQ => ?_
 simp only [Tryz.f45,show ca.keepRes 45 = false from rfl,show ca.keepArgs 45 = false from rfl] at hQ ⊢
 simp
 rw [← hM1]
 clear hM1
 simp [b0,hx,(w67 hI.fr hsx hid h2 (by omega)).go,e4,e6,e7,Aad]
 obtain ⟨v,hv⟩:∃ v,v = atV g.stack (g.stack.length - 1):=⟨_,rfl⟩
 have hlast:atV (g.last 1) 0 = v:=by
  rw [hv,atV,atV,List.getD_eq_getElem?_getD,List.getD_eq_getElem?_getD,FrM.last,List.getElem?_drop]
  rfl
 rw [← hv]
 refine Aac (w66 hI.tk hn.small (Any hn) v) ?_
 rintro r m7 ⟨q7,c7,h7⟩
 cases hu:unboxM s.ar v with
 | none =>
  rw [hu] at h7
  obtain ⟨rfl,h7⟩:=h7
  have k8:Kp m7 ((m7.new [int 0,int 0] false).set m7.next [int v.1,int v.2]):=by simp
  have c8:Chg (fun _ => False) t t m7 ((m7.new [int 0,int 0] false).set m7.next [int v.1,int v.2]):=Chg.refl c7.bd k8
  simp
  refine hQ _ _ _ ⟨.inl rfl,[],rfl,rfl,?_⟩
  have e:insM p g fs x s = failM s:=by simp [insM,hx,hlast,hu]
  rw [e]
  exact ResI.fail (h7.keepR c8.kt (by simp)) (c1.trans ((c7.mono fun _ e => .inl e).trans (c8.mono fun _ e => e.elim)))
 | some y =>
  rw [hu] at h7
  obtain ⟨rfl,h7,k7⟩:=h7
  obtain ⟨M8,hM8⟩:∃ M8,M8 = (m7.new [int 0,int 0] false).set m7.next [int y.1,int y.2]:=⟨_,rfl⟩
  have k8:Kp m7 M8:=by rw [hM8]; simp
  have g8:M8.get m7.next = some (.cells [int y.1,int y.2] false (m7.clock + 2)):=by rw [hM8]; simp
  have h8:=hI.kp (k7.trans k8)
  have c8:Chg RM t t M1 M8:=Chg.refl hI.bd (k7.trans k8)
  have e48:=((k7.trans k8).get id hid).trans e4
  have hid8:id < M8.next:=Nat.lt_of_lt_of_le hid (k7.trans k8).next
  obtain ⟨z1,z2⟩:=h8.top (e:=e) e1 hid8 hsx h2 y
  have hins:insM p g fs x s = setT s ((g.cut 1).put y) fs:=by simp [insM,hx,hlast,hu]
  have hs:=Ail g.stack e y h2
  simp
  rw [← hM8]
  refine Aaq (by kernel_rfl) ?_
  simp [(w67 h8.fr hsx hid8 h2 (by omega)).go,g8,e48,e6]
  refine Aa0 (l:=[(1,2)]) (by kernel_rfl) (?_:List.all _ _ = true) ?_
  ·simp [metAtD,metOkD,rank,verKeptD,Region.wanted,Mem.ver,g8]
  simp [splice] at hs
  simp [hs]
  refine hQ _ _ _ ⟨.inl rfl,[],rfl,rfl,?_⟩
  rw [hins]
  have:=z1.fin (c1.trans (c8.trans z2))
  simpa using this
theorem ins7 (h:In3 t T P A pr p s q F g fs px cx sx u m) (hx:x.1 = 7) (h2:2 ≤ g.stack.length) (hn:Nice p.codes s.ar) (hl:g.stack.length ≤ 256):wph Tryz.prog ca (.func 45) [.ptr T 0,.ptr F 0,insA x] m fun r m' => r = .tup [] ∧ ResI t T P A pr p (insM p g fs x s) m m':=by
 obtain ⟨M1,hM1⟩:∃ M1,M1 = m.new [int x.1,int x.2.1,int x.2.2] false:=⟨_,rfl⟩
 have k1:Kp m M1:=by rw [hM1]; simp
 have nM:M1.next = m.next + 1:=by rw [hM1]; simp
 have b0:M1.get m.next = some (.cells [int x.1,int x.2.1,int x.2.2] false (m.clock + 1)):=by rw [hM1]; simp
 have hI:=h.kp k1
 have bd:=h.bd
 have c1:Chg RM t t m M1:=Chg.refl h.bd k1
 obtain ⟨hT,w,gT⟩:=hI.tk.tk
 obtain ⟨cx',⟨hP,wP,gP⟩,cv⟩:=hI.tk.b.pg
 obtain ⟨hF,wF,gF⟩:=hI.fr.get
 have hix0:aindexAddr Tryz.prog 48 (.lst (vals (g.last 2))) (int 0) = some ((valA (atV (g.last 2) 0)).cptr 0):=Abw (i:=0) (Agg (i:=0) (Int.le_refl _) (by rw [Adi g h2]; omega))
 have hix1:aindexAddr Tryz.prog 48 (.lst (vals (g.last 2))) (int 1) = some ((valA (atV (g.last 2) 1)).cptr 0):=Abw (i:=1) (Agg (i:=1) (by omega) (by rw [Adi g h2]; omega))
 refine Aah Tryz.func45 rfl rfl (by simp [Tryz.f45]) (by simp [Tryz.f45]) fun Q hQ => ?_
 simp only [Tryz.f45,show ca.keepRes 45 = false from rfl,show ca.keepArgs 45 = false from rfl] at hQ ⊢
 simp
 rw [← hM1]
 clear hM1
 simp [b0,hx]
 refine Aac (take3 hI (by omega) (n:=2) h2) ?_
 rintro _ m7 ⟨rfl,sx7,h7,c7⟩
 simp [hix0,Aad]
 obtain ⟨v,hv⟩:∃ v,v = atV (g.last 2) 0:=⟨_,rfl⟩
 obtain ⟨y,hy⟩:∃ y,y = atV (g.last 2) 1:=⟨_,rfl⟩
 rw [← hv] at hix0 ⊢
 rw [← hy] at hix1
 refine Aac (w66 h7.tk hn.small (Any hn) v) ?_
 rintro r m8 ⟨q8,c8,h8⟩
 cases hu:unboxM s.ar v with
 | none =>
  rw [hu] at h8
  obtain ⟨rfl,h8⟩:=h8
  have k9:Kp m8 ((m8.new [int 0,int 0] false).set m8.next [int v.1,int v.2]):=by simp
  have c9:Chg (fun _ => False) t t m8 ((m8.new [int 0,int 0] false).set m8.next [int v.1,int v.2]):=Chg.refl c8.bd k9
  simp
  refine hQ _ _ _ ⟨.inl rfl,[],rfl,rfl,?_⟩
  have hins:insM p g fs x s = failM s:=by simp [insM,hx,← hv,hu]
  rw [hins]
  exact ResI.fail (h8.keepR c9.kt (by simp)) (c1.trans (c7.trans ((c8.mono fun _ e => .inl e).trans (c9.mono fun _ e => e.elim))))
 | some z =>
  rw [hu] at h8
  obtain ⟨rfl,_,k8⟩:=h8
  obtain ⟨M9,hM9⟩:∃ M9,M9 = (m8.new [int 0,int 0] false).set m8.next [int z.1,int z.2]:=⟨_,rfl⟩
  have k9:Kp m8 M9:=by rw [hM9]; simp
  have h9:=h7.kp (k8.trans k9)
  have c9:Chg RM t t m7 M9:=Chg.refl h7.bd (k8.trans k9)
  obtain ⟨hT9,w9,gT9⟩:=h9.tk.tk
  obtain ⟨cx9,⟨hP9,wP9,gP9⟩,_⟩:=h9.tk.b.pg
  obtain ⟨hz6,i,hvi,hci,hk4⟩:=Aen hn hu
  have hlen:=Any hn v (by simp [getM,hvi,Ase hci]) hk4
  have hput:wph Tryz.prog ca (.func 69) [.ptr A 0,valA v,int 0,valA y] M9 fun _ m' => Up (fun j => t j = some 3) A (if goodM s.ar y = true then putA s.ar v.2.toNat (getM s.ar v).1 0 y else s.ar) M9 m':=by
   have hvi2:v.2.toNat = i:=by rw [hvi]; simp
   by_cases hg:goodM s.ar y = true
   ·rw [if_pos hg,hvi2]
    have:=q128 (X:=fun j => t j = some 3) h9.tk.b.ar hci hk4 (i:=0) (by omega) hg
    rw [← hvi] at this
    exact Abv this fun _ _ ⟨_,q⟩ => q
   ·rw [if_neg hg]
    have:=q128f (X:=fun j => t j = some 3) h9.tk.b.ar hci hk4 (i:=0) (by omega) (x:=y) (by simpa using hg)
    rw [← hvi] at this
    exact Abv this fun _ _ ⟨_,q⟩ => q
  simp
  rw [← hM9]
  refine Aat (by kernel_rfl) (by kernel_rfl) ?_
  simp [gT9,gP9,tkC,pgC,hix0,hix1,Aad]
  refine Aac hput ?_
  rintro _ m10 hup
  obtain ⟨t10,tk10,c10⟩:=h9.tk.arena hup
  have rn:=@noRo fs.length
  have rh:=roHi fs.length
  have h10:=In3.mk (q:=q) (u:=u) tk10 (h9.fr.keep c10.kt (show ¬ roF fs.length = 3 by omega) (show ¬ roP fs.length = 3 by omega) (show ¬ roS fs.length = 3 by omega)) (ChA.keep c10.kt fs u (fun r e => .inl (by have e:r = 3:=e; omega)) h9.ch)
  simp [(w70 _).go]
  refine Aac (put3 h10 (by rw [Adr]; omega) (2,0)) ?_
  rintro _ m11 ⟨rfl,t11,sx11,h11,c11⟩
  simp
  refine hQ _ _ _ ⟨.inl rfl,[],rfl,rfl,?_⟩
  have hins:insM p g fs x s = setT { s with ar:=if goodM s.ar y = true then putA s.ar v.2.toNat (getM s.ar v).1 0 y else s.ar } ((g.cut 2).put (2,0)) fs:=by simp [insM,hx,← hv,← hy,hu]
  rw [hins]
  exact h11.fin (c1.trans (c7.trans (c9.trans ((c10.mono fun _ e => .inr (.inl e)).trans c11))))
theorem ins12 (h:In3 t T P A pr p s q F g fs px cx sx u m) (hx:x.1 = 12) (h0:0 ≤ x.2.1) (h2:0 ≤ x.2.2) (h3:x.2.2 ≤ g.stack.length) (hl:g.stack.length ≤ 256):wph Tryz.prog ca (.func 45) [.ptr T 0,.ptr F 0,insA x] m fun r m' => r = .tup [] ∧ ResI t T P A pr p (insM p g fs x s) m m':=by
 obtain ⟨M1,hM1⟩:∃ M1,M1 = m.new [int x.1,int x.2.1,int x.2.2] false:=⟨_,rfl⟩
 have k1:Kp m M1:=by rw [hM1]; simp
 have nM:M1.next = m.next + 1:=by rw [hM1]; simp
 have b0:M1.get m.next = some (.cells [int x.1,int x.2.1,int x.2.2] false (m.clock + 1)):=by rw [hM1]; simp
 have hI:=h.kp k1
 have bd:=h.bd
 have c1:Chg RM t t m M1:=Chg.refl h.bd k1
 obtain ⟨hT,w,gT⟩:=hI.tk.tk
 obtain ⟨cx',⟨hP,wP,gP⟩,cv⟩:=hI.tk.b.pg
 obtain ⟨hF,wF,gF⟩:=hI.fr.get
 have ecn:((x.2.2.toNat:Nat):Int) = x.2.2:=by omega
 obtain ⟨L,hL⟩:∃ L,L = g.last x.2.2.toNat:=⟨_,rfl⟩
 refine Aah Tryz.func45 rfl rfl (by simp [Tryz.f45]) (by simp [Tryz.f45]) fun Q hQ => ?_
 simp only [Tryz.f45,show ca.keepRes 45 = false from rfl,show ca.keepArgs 45 = false from rfl] at hQ ⊢
 simp
 rw [← hM1]
 clear hM1
 simp [b0,hx]
 have w:=take3 hI (by omega) (n:=x.2.2.toNat) (by omega)
 rw [ecn,← hL] at w
 refine Aac w ?_
 rintro _ m7 ⟨rfl,sx7,h7,c7⟩
 have b7:=(c7.box0 bd (Nat.le_refl _) (by omega)).trans b0
 simp [(w70 _).go]
 refine Aac (put3 h7 (by rw [Adr]; omega) (2,0)) ?_
 rintro _ m8 ⟨rfl,t8,sx8,h8,c8⟩
 simp
 refine Aaq (by kernel_rfl) ?_
 have b8:=((c7.trans c8).box0 bd (Nat.le_refl _) (by omega)).trans b0
 obtain ⟨id,wv,e,e1,hid,hsx,e4,e5,e6,e7⟩:=h8.fr.stk.at (i:=(((((g.cut x.2.2.toNat).put (2,0)).stack.length - 1:Nat)):Int)) (by omega) (by simp [FrM.put]; omega)
 simp [b8,abuild,placesOf,fillAt,(w67 h8.fr hsx hid (by simp [FrM.put]) (by simp [FrM.put,FrM.cut]; omega)).go]
 obtain ⟨S8,hS8⟩:∃ S8,S8 = (g.cut x.2.2.toNat).put (2,0):=⟨_,rfl⟩
 rw [← hS8] at h8 hsx e4 e5 e6 e7 ⊢
 have hl8:S8.stack.length = g.stack.length - x.2.2.toNat + 1:=by rw [hS8]; simp [FrM.put,Adr]
 obtain ⟨c,hc⟩:∃ c:CeM,c = ⟨5,x.2.1,L,[]⟩:=⟨_,rfl⟩
 have hLl:L.length ≤ 256:=by rw [hL]; simp [FrM.last]; omega
 have hz0:fzvs m8 [.ptr T 0,.agg [int 5,int x.2.1,.lst (vals L),.emp 0],.ptr id ((S8.stack.length - 1) * 2)] = ([.ptr T 0,ceA c,.ptr id ((S8.stack.length - 1) * 2)],m8):=by
  have fe:∀ M:Mem,fz1 M (.emp 0) = (.lst [],M):=fun _ => rfl
  have fl:∀ (M:Mem) l,fz1 M (.lst l) = (.lst l,M):=fun _ _ => rfl
  have fi:∀ (M:Mem) (n:Int),fz1 M (int n) = (int n,M):=fun _ _ => rfl
  have fp:∀ (M:Mem) (i o:Nat),fz1 M (.ptr i o) = (.ptr i o,M):=fun _ _ _ => rfl
  simp [fzvs,fzv,fzs,hc,ceA,fe,fi,fp,fl,byts]
 have hz1:fzvs m8 [.ptr T 0,ceA c,.ptr id ((S8.stack.length - 1) * 2)] = ([.ptr T 0,ceA c,.ptr id ((S8.stack.length - 1) * 2)],m8):=by simp [fzvs]
 refine Aac (Agy Tryz.func65 rfl rfl rfl hz0 hz1 (w65 h8.tk c (by rw [hc]; simp; omega) (by simp [hc]) (W:=id) (r:=roS fs.length) e1 (by have:=roHi fs.length; omega) e4 hid e6)) ?_
 rintro _ m9 ⟨rfl,t9,now9,q9,c9,h9⟩
 have hP:∀ r,r = 0 ∨ r = 3 ∨ r = roS fs.length → RM r:=by
  have:=roHi fs.length
  rintro r (e | e | e)
  ·exact .inl e
  ·exact .inr (.inl e)
  ·exact .inr (.inr (by omega))
 have b9:=((c7.trans (c8.trans (c9.mono hP))).box0 bd (Nat.le_refl _) (by omega)).trans b0
 simp
 refine Aa0 (l:=[(2,6)]) (by kernel_rfl) (?_:List.all _ _ = true) ?_
 ·simp [metAtD,metOkD,rank,verKeptD,Region.wanted,Mem.ver,b8,b9]
 simp
 refine hQ _ _ _ ⟨.inl rfl,[],rfl,rfl,(?_:ResI t T P A pr p _ m m9)⟩
 have ins:insM p g fs x s = if (allocM s.ar c).2.2 ≠ 0 then failM { s with ar:=(allocM s.ar c).1 } else setT { s with ar:=(allocM s.ar c).1 } ((g.cut x.2.2.toNat).put (allocM s.ar c).2.1) fs:=by rw [hc,hL]; simp only [insM,hx]; rfl
 have call:Chg RM t t8 m m8:=c1.trans (c7.trans c8)
 rw [ins]
 split at h9
 ·rename_i he
  rw [if_pos he]
  obtain ⟨rfl,h9⟩:=h9
  exact ResI.fail h9 (call.trans (c9.mono hP))
 ·rename_i he
  rw [if_neg he]
  obtain ⟨rfl,h9,c9',t9id,w9,g9⟩:=h9
  have rn:=@noRo fs.length
  have rh:=roHi fs.length
  refine In3.fin (px:=px) (cx:=cx) (sx:=sx8) (u:=u) (q:=q9) (F:=F) ⟨h9,⟨(c9'.same F (roF fs.length) (by omega)).2 h8.fr.tF,c9'.kt.has h8.fr.tF (by omega) ?_,?_,?_,?_⟩,ChA.keep c9'.kt fs u ?_ h8.ch⟩ (call.trans (c9.mono hP))
  ·have:=h8.fr.get
   rw [hS8] at this
   exact this
  ·have:=h8.fr.par
   rw [hS8] at this
   exact this.keep c9'.kt (by omega)
  ·have:=h8.fr.cap
   rw [hS8] at this
   exact this
  ·refine .inr ⟨id,e,w9,t9id,Nat.lt_of_lt_of_le hid c9'.kc.next,?_,?_⟩
   ·rw [hsx,hl8]; simp [FrM.put,Adr]
   ·rw [g9,Ail _ _ _ (by omega),hS8]
    simp [FrM.put]
  ·rintro r (e | e)
   ·exact .inl (by omega)
   ·exact .inr (by simp only [roS] at e; omega)
end
section
variable {t:Ro} {T P A:Nat} {pr:PrM} {p:PgM} {s:MaM} {q:RestA} {F:Nat} {f g:FrM} {fs:List FrM} {px cx sx u now:AV} {m:Mem} {x:InsM} {c:CoM} {s':List Int × Int}
theorem insAll (hp:OkPg p) (hnn:p.nn = pr.names.length) (h:In3 t T P A pr p s q F g fs px cx sx u m) (v:ViewP p 0 f c x s') (h0:OkF p 0 f) (h1:∀ g ∈ fs,OkF p 1 g) (hni:Nice p.codes s.ar) (hlt:fs.length < 512) (gp:g.params = f.params) (gk:g.caps = f.caps) (gs:g.stack = f.stack):wph Tryz.prog ca (.func 45) [.ptr T 0,.ptr F 0,insA x] m fun r m' => r = .tup [] ∧ ResI t T P A pr p (insM p g fs x s) m m':=by
 obtain ⟨n,e1,e2,e3,e4,e5⟩:=v.flow
 have hn:n = f.stack.length:=by
  have:=v.here
  rw [e1] at this
  have:=Option.some.inj this
  omega
 subst hn
 rw [← gs] at e1 e2 e3 e4 e5
 have hm:=v.most
 have ho:=v.ok.op _ _ v.ins
 have hpar:=v.params
 have hcap:=v.caps
 rw [← gp] at hpar
 rw [← gk] at hcap
 have ns:NoPrim g.stack:=by rw [gs]; exact h0.stack
 have hgl:g.stack.length ≤ 256:=by omega
 have hfs:∀ f ∈ fs,f.stack.length ≤ 4096:=fun f hf => by have:=OkF.short hp (h1 f hf); omega
 have hcase:x.1 = 1 ∨ x.1 = 2 ∨ x.1 = 3 ∨ x.1 = 4 ∨ x.1 = 5 ∨ x.1 = 6 ∨ x.1 = 7 ∨ x.1 = 8 ∨ x.1 = 9 ∨ x.1 = 10 ∨ x.1 = 11 ∨ x.1 = 12 ∨ x.1 = 13 ∨ x.1 = 14 ∨ x.1 = 15 ∨ x.1 = 16:=by omega
 rcases hcase with q | q | q | q | q | q | q | q | q | q | q | q | q | q | q | q
 ·obtain ⟨a,b⟩:=v.ok.const _ _ v.ins q
  exact ins1 h q a b hgl
 ·obtain ⟨a,b⟩:=v.ok.par _ _ v.ins (.inl q)
  exact ins2 h q a (by omega) hgl
 ·obtain ⟨a,b⟩:=v.ok.cap _ _ v.ins q
  exact ins3 h q a (by omega) hgl
 ·obtain ⟨a,b⟩:=v.ok.name _ _ v.ins (.inl q)
  exact ins4 h q a (by omega) hgl
 ·obtain ⟨a,b⟩:=v.ok.par _ _ v.ins (.inr q)
  exact ins5 h q a (by omega) hgl
 ·simp [opM,needM,q] at e3
  exact ins6 h q (by omega) hni hgl
 ·simp [opM,needM,q] at e3
  exact ins7 h q (by omega) hni hgl
 ·obtain ⟨a,b⟩:=v.ok.name _ _ v.ins (.inr (.inl q))
  simp [opM,needM,q] at e3
  exact ins8 h q a (by omega) (by omega) hgl
 ·obtain ⟨a,b⟩:=v.ok.name _ _ v.ins (.inr (.inr q))
  simp [opM,needM,q] at e3
  exact ins9 h q a (by omega) (by omega) hgl
 ·rw [if_neg (by simp [opM,q])] at e5
  obtain ⟨_,⟨j,hj,_⟩,_⟩:=And.intro trivial (And.intro (e5.2.1 (by simp [opM,q])) trivial)
  exact ins10 h q (by omega) hgl
 ·simp [opM,needM,q] at e3
  rw [if_neg (by simp [opM,q])] at e5
  obtain ⟨j,hj,_⟩:=e5.2.1 (by simp [opM,q])
  exact ins11 h q (by omega) (by omega) hgl
 ·obtain ⟨c1,c2,c3⟩:=v.ok.clo _ _ v.ins q
  obtain ⟨y,hy⟩:∃ y,p.codes[x.2.1.toNat]? = some y:=by
   have:x.2.1.toNat < p.codes.length:=by omega
   exact ⟨_,List.getElem?_eq_getElem this⟩
  have hyc:x.2.2 = y.caps:=by rw [c3,capsAt,hy]; rfl
  have hy0:=(hp.codes y (List.mem_of_getElem? hy)).caps
  simp [opM,needM,q] at e3
  exact ins12 h q (by omega) (by omega) (by omega) hgl
 ·obtain ⟨c1,c2⟩:=v.ok.cnt _ _ v.ins (.inl q)
  simp [opM,needM,q] at e3
  exact ins13 h q c1 c2 (by omega) hp hni ns hlt hgl
 ·obtain ⟨c1,c2⟩:=v.ok.cnt _ _ v.ins (.inr q)
  simp [opM,needM,q] at e3
  exact ins14 h q c1 c2 (by omega) hp hni ns hlt hgl
 ·simp [opM,needM,q] at e3
  exact ins15 h q (by omega) hfs hgl
 ·simp [opM,needM,q] at e3
  exact ins16 h q (by omega) hgl
theorem ptr37 {x y:Operand} {i j:Nat}:abin Tryz.prog .eql 37 x y (.ptr i j) (.sc (.pointer none)) = some (.sc (.bool false)):=by
 have:nilTest Tryz.prog 37 (.ptr i j) (.sc (.pointer none)) = some false:=by
  unfold nilTest
  rw [Tryz.underlying37]
 simp [abin,this,plain]
theorem ptr34 {x y:Operand} {i j:Nat}:abin Tryz.prog .eql 34 x y (.ptr i j) (.sc (.pointer none)) = some (.sc (.bool false)):=by
 have:nilTest Tryz.prog 34 (.ptr i j) (.sc (.pointer none)) = some false:=by
  unfold nilTest
  rw [Tryz.underlying34]
 simp [abin,this,plain]
theorem w25 (h:has m T (tkC P s now q)):EH Tryz.prog ca (.func 25) [.ptr T 0] m (.sc (.bool false)) m:=by
 obtain ⟨hT,w,g⟩:=h
 refine Aa1 Tryz.func25 rfl rfl rfl rfl (args1:=[.ptr T 0]) (m1:=m) (by simp) (by simp) (by simp [Tryz.f25]) (by simp [Tryz.f25]) ?_
 simp [Tryz.f25,show ca.keepRes 25 = false from rfl,ptr37,g,tkC,ptr34]
theorem w10 (h:has m T (tkC P s now q)):EH Tryz.prog ca (.func 10) [.ptr T 0] m (int s.status) m:=by
 have q:=w25 h
 obtain ⟨hT,w,g⟩:=h
 refine Aa1 Tryz.func10 rfl rfl rfl rfl (args1:=[.ptr T 0]) (m1:=m) (by simp) (by simp) (by simp [Tryz.f10]) (by simp [Tryz.f10]) ?_
 simp [Tryz.f10,show ca.keepRes 10 = false from rfl,g,tkC,q.go]
theorem w11 (h:has m T (tkC P s now q)):EH Tryz.prog ca (.func 11) [.ptr T 0] m (int s.steps) m:=by
 have q:=w25 h
 obtain ⟨hT,w,g⟩:=h
 refine Aa1 Tryz.func11 rfl rfl rfl rfl (args1:=[.ptr T 0]) (m1:=m) (by simp) (by simp) (by simp [Tryz.f11]) (by simp [Tryz.f11]) ?_
 simp [Tryz.f11,show ca.keepRes 11 = false from rfl,g,tkC,q.go]
theorem w24 (hp:OkPg p) (hnn:p.nn = pr.names.length) (h:TkA t T P A pr p s now q m) (hc:ChA t m s.frames now) (hs:Safe p s) (hst:s.status = 1) (hsteps:s.steps ≤ 2 ^ 40):wph Tryz.prog ca (.func 24) [.ptr T 0] m fun r m' => r = int (stepM p s).status ∧ ResI t T P A pr p (stepM p s) m m':=by
 obtain ⟨f,fs,hfr,h0,h1⟩:=hs.run hst
 obtain ⟨c,x,s',v⟩:=view hp h0
 have hfew:=hs.few
 rw [hfr,List.length_cons] at hfew
 rw [hfr] at hc
 obtain ⟨F,u,rfl,⟨px,cx,sx,hf⟩,hc'⟩:=hc
 have q25:=w25 h.tk
 obtain ⟨hT,w,g⟩:=h.tk
 obtain ⟨z1,y1⟩:=h.set (s':={ s with steps:=s.steps + 1 }) (now':=.ptr F 0) (q':=q) rfl h.args
 obtain ⟨M1,hM1⟩:∃ M1,M1 = m.set T (tkC P { s with steps:=s.steps + 1 } (.ptr F 0) q):=⟨_,rfl⟩
 rw [← hM1] at z1 y1
 have rh:=roHi fs.length
 have i1:In3 t T P A pr p { s with steps:=s.steps + 1 } q F f fs px cx sx u M1:=⟨z1,hf.keep y1.kt (show ¬ roF fs.length = 0 by omega) (show ¬ roP fs.length = 0 by omega) (show ¬ roS fs.length = 0 by omega),ChA.keep y1.kt fs u (fun r e => .inl (by have e:r = 0:=e; omega)) hc'⟩
 obtain ⟨hT1,w1,g1⟩:=i1.tk.tk
 obtain ⟨hF1,wF1,gF1⟩:=i1.fr.get
 obtain ⟨cx1,⟨hP1,wP1,gP1⟩,_⟩:=i1.tk.b.pg
 have hcode:=v.code
 rw [h.b.codes] at hcode
 have hix:=Aet hcode
 have hix2:=Anh v.ins
 have hpc:f.pc < 4096:=by
  have:=(List.getElem?_eq_some_iff.1 v.ins).1
  have:=v.ok.len
  omega
 have hw1:IntKind.i64.wrap ((s.steps:Int) + 1) = ((s.steps + 1:Nat):Int):=by rw [IntWalk.i64_in _ (by omega)]; rfl
 have hw2:IntKind.i64.wrap ((f.pc:Int) + 1) = ((f.pc + 1:Nat):Int):=by rw [IntWalk.i64_in _ (by omega)]; rfl
 have hstep:stepM p s = insM p { f with pc:=f.pc + 1 } fs x { s with steps:=s.steps + 1 }:=by
  unfold stepM
  rw [hfr]
  dsimp only
  rw [v.code]
  dsimp only
  rw [v.ins]
 refine Aah Tryz.func24 rfl rfl (by simp [Tryz.f24]) (by simp [Tryz.f24]) fun Q hQ => ?_
 simp only [Tryz.f24,show ca.keepRes 24 = false from rfl,show ca.keepArgs 24 = false from rfl] at hQ ⊢
 simp [q25.go,g,tkC,hst,hw1]
 have hM1':M1 = m.set T [.ptr P 0,int 1,int ((s.steps:Int) + 1),.ptr F 0,int s.op,strS q.nm,int q.n,q.args,int s.value.1,int s.value.2,int q.k,int q.fv.1,int q.fv.2]:=by rw [hM1,tkC,hst]; rfl
 rw [← hM1']
 clear hM1'
 have nT:T ≠ M1.next:=by omega
 have nP:P ≠ M1.next:=by omega
 have nF:F ≠ M1.next:=by omega
 refine Aaq (by kernel_rfl) ?_
 simp [g1,tkC,gP1,pgC,gF1,frC,hix,hix2]
 refine Aa0 (l:=[(3,21),(7,21),(11,21),(14,21),(18,21),(20,21)]) (by kernel_rfl) (?_:List.all _ _ = true) ?_
 ·simp [metAtD,metOkD,rank,verKeptD,Region.wanted,Mem.ver,g1,gP1,gF1,nT,nP,nF,objV]
 obtain ⟨M2,hM2⟩:∃ M2,M2 = (M1.new [int 0,int 0,int 0] false).set M1.next [int x.1,int x.2.1,int x.2.2]:=⟨_,rfl⟩
 have k2:Kp M1 M2:=by rw [hM2]; simp
 have b2:M2.get M1.next = some (.cells [int x.1,int x.2.1,int x.2.2] false (M1.clock + 2)):=by rw [hM2]; simp
 rw [← hM2]
 clear hM2
 have i2:=i1.kp k2
 obtain ⟨i3,c3⟩:=i2.set (g':={ f with pc:=f.pc + 1 }) rfl rfl rfl
 obtain ⟨M3,hM3⟩:∃ M3,M3 = M2.set F (frC { f with pc:=f.pc + 1 } fs.length px cx sx u):=⟨_,rfl⟩
 have b3:M3.get M1.next = some (.cells [int x.1,int x.2.1,int x.2.2] false (M1.clock + 2)):=by rw [hM3]; simp [Ne.symm nF,b2]
 rw [← hM3] at i3 c3
 have gF2:=(k2.get F hF1).trans gF1
 simp only [frC] at gF2
 have hM3':M3 = M2.set F [int f.code,int ((f.pc:Int) + 1),nilA,px,cx,sx,u,int ((fs.length:Int) + 1)]:=by rw [hM3]; rfl
 simp [gF2,hw2,Ne.symm nF,b2,Ao2]
 rw [← hM3']
 refine Aac (insAll hp hnn i3 v h0 h1 hs.nice (by omega) rfl rfl rfl) ?_
 rintro _ m7 ⟨rfl,t7,now7,q7,h7,hc7,c7⟩
 obtain ⟨hT7,w7,g7⟩:=h7.tk
 simp [g7,tkC]
 refine hQ _ _ _ ?_
 rw [Abm]
 have fin:ResI t T P A pr p (stepM p s) m m7:=by
  rw [hstep]
  exact ⟨t7,now7,q7,h7,hc7,(y1.mono fun _ e => .inl e).trans ((Chg.refl i1.bd k2).trans (c3.trans c7))⟩
 rw [← hstep]
 refine ⟨by simp,?_⟩
 simpa using fin
end
theorem Akp (v:Val) (fs:List FrM) (t:MaM):(answerM v fs t).steps = t.steps:=by cases fs <;> rfl
theorem Al8 (p:PgM) (c:CeM) (l:List Val) (fs:List FrM) (t:MaM):(enterM p c l fs t).steps = t.steps:=by
 unfold enterM
 split
 ·rfl
 ·split
  ·rfl
  ·split <;> rfl
theorem Ahr (p:PgM) (f:Val) (l:List Val) (fs:List FrM) (t:MaM):(callM p f l fs t).steps = t.steps:=by
 unfold callM
 split
 ·exact Al8 ..
 ·rfl
theorem Ap5 (p:PgM) (f:FrM) (fs:List FrM) (x:InsM) (t:MaM):(insM p f fs x t).steps = t.steps:=by
 have ite':∀ (c:Prop) [Decidable c] (a b:MaM),a.steps = t.steps → b.steps = t.steps → (if c then a else b).steps = t.steps:=by
  intro c _ a b ha hb
  split <;> assumption
 unfold insM
 refine ite' _ _ _ rfl (ite' _ _ _ rfl (ite' _ _ _ rfl (ite' _ _ _ (ite' _ _ _ rfl rfl) (ite' _ _ _ ?_ (ite' _ _ _ ?_ (ite' _ _ _ rfl (ite' _ _ _ rfl (ite' _ _ _ rfl (ite' _ _ _ (ite' _ _ _ rfl rfl) (ite' _ _ _ rfl (ite' _ _ _ rfl (ite' _ _ _ rfl (ite' _ _ _ (Ahr ..) (ite' _ _ _ (Ahr ..) (Akp ..)))))))))))))))
 ·cases unboxM t.ar (atV (f.last 1) 0) <;> rfl
 ·cases unboxM t.ar (atV (f.last 2) 0) <;> rfl
theorem Ag4 {p:PgM} {s:MaM} (hp:OkPg p) (hs:Safe p s) (h1:s.status = 1):(stepM p s).steps = s.steps + 1:=by
 obtain ⟨f,fs,hfr,h0,_⟩:=hs.run h1
 obtain ⟨c,x,s',v⟩:=view hp h0
 unfold stepM
 rw [hfr]
 dsimp only
 rw [v.code]
 dsimp only
 rw [v.ins]
 dsimp only
 rw [Ap5]
theorem Ag6 {p:PgM} {s:MaM} (h:s.status ≠ 1):∀ n,runM p n s = s
 | 0 => rfl
 | n + 1 => by rw [runM,if_neg h]
theorem Arq {p:PgM} {s:MaM} (n:Nat) (h:(runM p n s).status = 1):runM p (n + 1) s = stepM p (runM p n s):=by
 rw [Agn,runM,if_pos h]
 rfl
theorem Aju {p:PgM} (hp:OkPg p):∀ (n:Nat) {s:MaM},Safe p s → Safe p (runM p n s)
 | 0,s,h => h
 | n + 1,s,h => by
  rw [runM]
  split
  ·rename_i h1
   exact Aju hp n (Ak5 hp h h1)
  ·exact h
section
variable {t:Ro} {T P A:Nat} {pr:PrM} {p:PgM} {s:MaM} {q:RestA} {now:AV} {m:Mem}
theorem w9 (hp:OkPg p) (hnn:p.nn = pr.names.length) (h:TkA t T P A pr p s now q m) (hc:ChA t m s.frames now) (hs:Safe p s) (k:Int) (hsteps:s.steps + k.toNat ≤ 2 ^ 40):wph Tryz.prog ca (.func 9) [.ptr T 0,int k] m fun r m' => r = int ((runM p k.toNat s).steps - s.steps:Nat) ∧ ResI t T P A pr p (runM p k.toNat s) m m':=by
 refine Aah Tryz.func9 rfl rfl (by simp [Tryz.f9]) (by simp [Tryz.f9]) fun Q hQ => ?_
 simp only [Tryz.f9,show ca.keepRes 9 = false from rfl,show ca.keepArgs 9 = false from rfl] at hQ ⊢
 simp
 refine Abo (fun j s' m' => ∃ i:Nat,j + i = k.toNat ∧ s'.at 0 = .ptr T 0 ∧ s'.at 1 = int k ∧ s'.at 5 = int i ∧ (runM p i s).steps = s.steps + i ∧ ResI t T P A pr p (runM p i s) m m') k.toNat ⟨0,by omega,by simp,by simp,by simp,by simp [runM],t,now,q,h,hc,Chg.refl h.b.bd (.refl m)⟩ ?_
 rintro j s1 m1 ⟨i,hj,e0,e1,e5,est,t1,now1,q1,h1,hc1,c1⟩ Q' hn he
 have hs1:=Aju hp i hs
 have done:∀ (s':Sl),s'.at 5 = int i → runM p k.toNat s = runM p i s → Q .ret (s'.set 4 (int i)) m1:=by
  intro s' e e2
  refine hQ _ _ _ ?_
  rw [Abm]
  have e4:(s'.set 4 (int (i:Nat))).at 4 = int (i:Nat):=by simp
  rw [e4]
  refine ⟨?_,?_⟩
  ·rw [e2,est]; simp
  ·rw [e2]; exact ⟨t1,now1,q1,h1,hc1,c1⟩
 by_cases hik:(i:Int) < k
 rotate_left
 ·have hjz:runM p k.toNat s = runM p i s:=by rw [show k.toNat = i by omega]
  simp [e0,e1,e5,hik,undefV,undef]
  refine he _ _ _ (by simp) ?_
  simp [e5]
  exact done _ (by simp [e5]) hjz
 by_cases hst:(runM p i s).status = 1
 rotate_left
 ·have hjz:runM p k.toNat s = runM p i s:=by
   rw [show k.toNat = i + j by omega,Agn,Ag6 hst]
  simp [e0,e1,e5,hik,(w10 h1.tk).go,hst]
  refine he _ _ _ (by simp) ?_
  simp [e5]
  exact done _ (by simp [e5]) hjz
 ·simp [e0,e1,e5,hik,(w10 h1.tk).go,hst]
  refine Aac (w24 hp hnn h1 hc1 hs1 hst (by omega)) ?_
  rintro _ m2 ⟨rfl,t2,now2,q2,h2,hc2,c2⟩
  have hw:IntKind.i64.wrap ((i:Int) + 1) = ((i + 1:Nat):Int):=by rw [IntWalk.i64_in _ (by omega)]; rfl
  simp [e5,hw]
  have hr:=Arq i hst
  refine hn (j - 1) _ _ (by omega) ⟨i + 1,by omega,by simp [e0],by simp [e1],by simp,?_,?_⟩
  ·rw [hr,Ag4 hp hs1 hst,est]; omega
  ·rw [hr]; exact ⟨t2,now2,q2,h2,hc2,c1.trans c2⟩
end
def shownM (s:MaM):List FrM:=if s.status = 1 ∨ s.status = 2 then s.frames else []
def atM (s:MaM):Int × Int × Int:=match shownM s with
 | [] => (0,0,0)
 | f :: fs => (f.code,f.pc,(fs.length:Int) + 1)
def valueM (s:MaM):Val:=if s.status = 3 then s.value else (0,0)
def stackM (s:MaM):List Val:=match shownM s with
 | [] => []
 | f :: _ => f.stack
section
variable {t:Ro} {T P A:Nat} {pr:PrM} {p:PgM} {s:MaM} {q:RestA} {now:AV} {m:Mem}
theorem w26 (h:has m T (tkC P s now q)) (hop:s.status = 2 → s.op ≠ 4) (hnow:now = nilA ∨ ∃ F,F < m.next ∧ now = .ptr F 0):EH Tryz.prog ca (.func 26) [.ptr T 0] m (if s.status = 1 ∨ s.status = 2 then now else nilA) m:=by
 have q10:=w10 h
 obtain ⟨hT,w,g⟩:=h
 have hb:(if s.status = 1 ∨ s.status = 2 then now else nilA).bel m.next = true:=by
  split
  ·rcases hnow with rfl | ⟨F,hF,rfl⟩
   ·rfl
   ·simp [AV.bel,hF]
  ·rfl
 refine Aa1 Tryz.func26 rfl rfl rfl rfl (args1:=[.ptr T 0]) (m1:=m) (by simp) hb (by simp [Tryz.f26]) (by simp [Tryz.f26]) ?_
 by_cases h1:s.status = 1
 ·rcases hnow with rfl | ⟨F,hF,rfl⟩ <;> simp [Tryz.f26,show ca.keepRes 26 = false from rfl,q10.go,g,tkC,h1,undefV,undef]
 ·by_cases h2:s.status = 2
  ·have:=hop h2
   rcases hnow with rfl | ⟨F,hF,rfl⟩ <;> simp [Tryz.f26,show ca.keepRes 26 = false from rfl,q10.go,g,tkC,h2,this,undefV,undef]
  ·simp [Tryz.f26,show ca.keepRes 26 = false from rfl,q10.go,g,tkC,h1,h2,undefV,undef]
theorem ChA.nowOk {fs:List FrM} {u:AV} (h:ChA t m fs u):u = nilA ∨ ∃ F,F < m.next ∧ u = .ptr F 0:=by
 cases fs with
 | nil => exact .inl h
 | cons f fs => obtain ⟨F,u',h1,⟨px,cx,sx,hf⟩,_⟩:=h; exact .inr ⟨F,hf.get.1,h1⟩
theorem Aol (hc:ChA t m s.frames now):ChA t m (shownM s) (if s.status = 1 ∨ s.status = 2 then now else nilA):=by
 unfold shownM
 split
 ·exact hc
 ·rfl
theorem w12 (h:has m T (tkC P s now q)) (hc:ChA t m s.frames now) (hop:s.status = 2 → s.op ≠ 4):EH Tryz.prog ca (.func 12) [.ptr T 0] m (.tup [int (atM s).1,int (atM s).2.1,int (atM s).2.2]) m:=by
 have q26:=w26 h hop hc.nowOk
 have hs:=Aol hc
 unfold atM
 generalize (if s.status = 1 ∨ s.status = 2 then now else nilA) = u at q26 hs
 cases hl:shownM s with
 | nil =>
  rw [hl] at hs
  have hs:u = nilA:=hs
  subst hs
  refine Aa1 Tryz.func12 rfl rfl rfl rfl (args1:=[.ptr T 0]) (m1:=m) (by simp) (by simp) (by simp [Tryz.f12]) (by simp [Tryz.f12]) ?_
  simp [Tryz.f12,show ca.keepRes 12 = false from rfl,q26.go,Aov,fzvs]
 | cons f fs =>
  rw [hl] at hs
  obtain ⟨F,u',rfl,⟨px,cx,sx,hf⟩,_⟩:=hs
  obtain ⟨_,w,g⟩:=hf.get
  refine Aa1 Tryz.func12 rfl rfl rfl rfl (args1:=[.ptr T 0]) (m1:=m) (by simp) (by simp) (by simp [Tryz.f12]) (by simp [Tryz.f12]) ?_
  simp [Tryz.f12,show ca.keepRes 12 = false from rfl,q26.go,Aop]
  refine Aat (by kernel_rfl) (by kernel_rfl) ?_
  simp [g,frC,fzvs]
theorem w13 (h:has m T (tkC P s now q)):EH Tryz.prog ca (.func 13) [.ptr T 0] m (.tup [valA (valueM s),.sc (.bool (decide (s.status = 3)))]) m:=by
 obtain ⟨hT,w,g⟩:=h
 obtain ⟨M1,hM1⟩:∃ M1,M1 = m.new [int 0,int 0] false:=⟨_,rfl⟩
 have k1:Kp m M1:=by rw [hM1]; simp
 have g1:=(k1.get T hT).trans g
 have q10:=w10 (m:=M1) ⟨Nat.lt_of_lt_of_le hT k1.next,w,g1⟩
 have b0:M1.get m.next = some (.cells [int 0,int 0] false (m.clock + 1)):=by rw [hM1]; simp
 have nT:T ≠ m.next:=by omega
 refine Aa1 Tryz.func13 rfl rfl rfl rfl (args1:=[.ptr T 0]) (m1:=m) (by simp) (by simp [AV.bel,AV.bels]) (by simp [Tryz.f13]) (by simp [Tryz.f13]) ?_
 simp only [Tryz.f13,show ca.keepRes 13 = false from rfl]
 simp
 rw [← hM1]
 clear hM1
 by_cases h3:s.status = 3
 ·simp [q10.go,h3,g1,tkC,b0,valueM]
  exact ⟨rfl,k1⟩
 ·simp [q10.go,h3,b0,valueM,abuild,placesOf,fillAt]
  exact ⟨rfl,k1⟩
end
end Go.Proofs.YtjgnfadoakonfaaGreat
namespace Go.Proofs.YtjgnfadoakonfaaGreat
set_option maxRecDepth 8000
open Go.V
attribute [local simp] Nat.add_assoc
theorem g55 (n k:Int):Gives Tryz.prog cc 55 [int n,int k] (.sc (.bool (within2 n k))):=by
 refine Aaf Tryz.func55 rfl rfl rfl rfl (by simp) (by simp [Tryz.f55]) (by simp [Tryz.f55]) fun m => ?_
 simp [Tryz.f55,show cc.keepRes 55 = false from rfl]
 by_cases h:0 ≤ n
 ·simp [h,within2]
 ·simp [h,within2]
def opN (n:Int):List UInt8 :=
 if n = 1 then [99,111,110,115,116] else if n = 2 then [108,111,99,97,108] else if n = 3 then [99,97,112,116] else if n = 4 then [103,108,111,98,97,108]
 else if n = 5 then [98,111,120] else if n = 6 then [117,110,98,111,120] else if n = 7 then [115,101,116,98,111,120] else if n = 8 then [97,115,115,105,103,110]
 else if n = 9 then [100,101,102,105,110,101] else if n = 10 then [106,117,109,112] else if n = 11 then [102,97,108,115,101] else if n = 12 then [99,108,111,115,117,114,101]
 else if n = 13 then [99,97,108,108] else if n = 14 then [116,97,105,108] else if n = 15 then [114,101,116,117,114,110] else [112,111,112]
def opA (n:Int):AV:=.agg [strS (opN n),int (opM n).a,int (opM n).needs,int (opM n).leaves,.sc (.bool (opM n).plusA),.sc (.bool (opM n).plusB),.sc (.bool (opM n).ends)]
def opZ:AV:=.agg [strS [],int 0,int 0,int 0,.sc (.bool false),.sc (.bool false),.sc (.bool false)]
@[simp] theorem A5t (n:Int):(opA n).okc = true:=Eq.trans rfl rfl
@[simp] theorem A2u (n:Int):(opA n).cells = [strS (opN n),int (opM n).a,int (opM n).needs,int (opM n).leaves,.sc (.bool (opM n).plusA),.sc (.bool (opM n).plusB),.sc (.bool (opM n).ends)]:=Eq.trans rfl rfl
@[simp] theorem A5u (n:Int) (m:Mem):fzv m (opA n) = (opA n,m):=by simp [opA,fzv,fzs,fz1]
theorem A2t (n:Int):0 ≤ (opM n).needs:=by
 simp only [opM,apply_ite OpM.needs]
 repeat' split
 all_goals omega
theorem A2s (n:Int):(opM n).needs ≤ 2:=by
 simp only [opM,apply_ite OpM.needs]
 repeat' split
 all_goals omega
theorem A2r (n:Int):0 ≤ (opM n).leaves:=by
 simp only [opM,apply_ite OpM.leaves]
 repeat' split
 all_goals omega
theorem A2q (n:Int):(opM n).leaves ≤ 1:=by
 simp only [opM,apply_ite OpM.leaves]
 repeat' split
 all_goals omega
theorem A2p (n:Int):0 ≤ (opM n).a:=by
 simp only [opM,apply_ite OpM.a]
 repeat' split
 all_goals omega
theorem A2o (n:Int):(opM n).a ≤ 7:=by
 simp only [opM,apply_ite OpM.a]
 repeat' split
 all_goals omega
theorem Alh (n:Int):0 ≤ (opM n).needs ∧ (opM n).needs ≤ 2 ∧ 0 ≤ (opM n).leaves ∧ (opM n).leaves ≤ 1 ∧ 0 ≤ (opM n).a ∧ (opM n).a ≤ 7:=⟨A2t n,A2s n,A2r n,A2q n,A2p n,A2o n⟩
def opR (n:Int):AV:=if n < 1 ∨ 17 ≤ n then .tup [opZ,.sc (.bool false)] else .tup [opA n,.sc (.bool true)]
theorem A0g:(afn Tryz.prog ck 3 (.func 80) [int 1] Mem.empty).map (·.1) = some (.tup [opA 1,.sc (.bool true)]):=by kernel_rfl
theorem A0f:(afn Tryz.prog ck 3 (.func 80) [int 2] Mem.empty).map (·.1) = some (.tup [opA 2,.sc (.bool true)]):=by kernel_rfl
theorem A0e:(afn Tryz.prog ck 3 (.func 80) [int 3] Mem.empty).map (·.1) = some (.tup [opA 3,.sc (.bool true)]):=by kernel_rfl
theorem A0d:(afn Tryz.prog ck 3 (.func 80) [int 4] Mem.empty).map (·.1) = some (.tup [opA 4,.sc (.bool true)]):=by kernel_rfl
theorem A0c:(afn Tryz.prog ck 3 (.func 80) [int 5] Mem.empty).map (·.1) = some (.tup [opA 5,.sc (.bool true)]):=by kernel_rfl
theorem A0b:(afn Tryz.prog ck 3 (.func 80) [int 6] Mem.empty).map (·.1) = some (.tup [opA 6,.sc (.bool true)]):=by kernel_rfl
theorem A0a:(afn Tryz.prog ck 3 (.func 80) [int 7] Mem.empty).map (·.1) = some (.tup [opA 7,.sc (.bool true)]):=by kernel_rfl
theorem Az9:(afn Tryz.prog ck 3 (.func 80) [int 8] Mem.empty).map (·.1) = some (.tup [opA 8,.sc (.bool true)]):=by kernel_rfl
theorem Az8:(afn Tryz.prog ck 3 (.func 80) [int 9] Mem.empty).map (·.1) = some (.tup [opA 9,.sc (.bool true)]):=by kernel_rfl
theorem Avh:(afn Tryz.prog ck 3 (.func 80) [int 10] Mem.empty).map (·.1) = some (.tup [opA 10,.sc (.bool true)]):=by kernel_rfl
theorem Avg:(afn Tryz.prog ck 3 (.func 80) [int 11] Mem.empty).map (·.1) = some (.tup [opA 11,.sc (.bool true)]):=by kernel_rfl
theorem Avf:(afn Tryz.prog ck 3 (.func 80) [int 12] Mem.empty).map (·.1) = some (.tup [opA 12,.sc (.bool true)]):=by kernel_rfl
theorem Ave:(afn Tryz.prog ck 3 (.func 80) [int 13] Mem.empty).map (·.1) = some (.tup [opA 13,.sc (.bool true)]):=by kernel_rfl
theorem Avd:(afn Tryz.prog ck 3 (.func 80) [int 14] Mem.empty).map (·.1) = some (.tup [opA 14,.sc (.bool true)]):=by kernel_rfl
theorem Avc:(afn Tryz.prog ck 3 (.func 80) [int 15] Mem.empty).map (·.1) = some (.tup [opA 15,.sc (.bool true)]):=by kernel_rfl
theorem Avb:(afn Tryz.prog ck 3 (.func 80) [int 16] Mem.empty).map (·.1) = some (.tup [opA 16,.sc (.bool true)]):=by kernel_rfl
theorem tz173:∃ z:AV,tzero Tryz.prog 173 = some z ∧ z.okc = true ∧ z.cells.length = 119:=by
 have h:(tzero Tryz.prog 173).map (fun z => (z.okc,z.cells.length)) = some (true,119):=by kernel_rfl
 obtain ⟨z,h1,h2⟩:=Option.map_eq_some_iff.1 h
 exact ⟨z,h1,congrArg Prod.fst h2,congrArg Prod.snd h2⟩
theorem out80 (n:Int) (h:n < 1 ∨ 17 ≤ n):wph Tryz.prog ck (.func 80) [int n] Mem.empty fun v _ => v = .tup [opZ,.sc (.bool false)]:=by
 obtain ⟨z,hz,h1,h2⟩:=tz173
 refine Aah Tryz.func80 rfl rfl (by simp [Tryz.f80]) (by simp [Tryz.f80]) fun Q hQ => ?_
 simp only [Tryz.f80,show ck.keepRes 80 = true from rfl,show ck.keepArgs 80 = true from rfl] at hQ ⊢
 simp [abuild,placesOf,fillAt,hz,h1,h2]
 by_cases hn:n < 1
 ·simp [hn,undefV,undef,abuild,placesOf,fillAt]
  refine hQ _ _ _ ?_
  rw [Aao]
  exact ⟨[opZ,.sc (.bool false)],by simp [aresult,aload,partOf,opZ],by simp [oneOf]⟩
 ·have hn2:17 ≤ n:=by omega
  simp [hn,hn2,abuild,placesOf,fillAt]
  refine hQ _ _ _ ?_
  rw [Aao]
  exact ⟨[opZ,.sc (.bool false)],by simp [aresult,aload,partOf,opZ],by simp [oneOf]⟩
theorem Aa6 {f:FuncId} {cfg:Cfg} {n:Int} {v:AV} {m:Mem} (hk:cfg.hook f = some (roH (limH Tryz.prog ck f))) (h:wph Tryz.prog ck (.func f) [int n] Mem.empty fun r _ => r = v) (hv:v.out = true):EH Tryz.prog cfg (.func f) [int n] m v m:=by
 obtain ⟨r,m',h1,rfl⟩:=h
 refine Abp hk ?_
 have h3:limH Tryz.prog ck f [int n] Mem.empty = some (r,m'):=Adx h1
 unfold roH
 simp [fzvs,AV.bels,h3,hv]
theorem ro_of {f:FuncId} {n:Int} {v:AV} {k:Nat} (h:(afn Tryz.prog ck k (.func f) [int n] Mem.empty).map (·.1) = some v):wph Tryz.prog ck (.func f) [int n] Mem.empty fun r _ => r = v:=by
 obtain ⟨⟨v',m'⟩,h1,h2⟩:=Option.map_eq_some_iff.1 h
 exact ⟨v',m',.of h1,h2⟩
theorem g80 (n:Int) (m:Mem):EH Tryz.prog cc (.func 80) [int n] m (opR n) m:=by
 unfold opR
 split
 ·rename_i h
  exact Aa6 rfl (out80 n h) (by simp [AV.out,opZ])
 ·rename_i h
  have hc:n = 1 ∨ n = 2 ∨ n = 3 ∨ n = 4 ∨ n = 5 ∨ n = 6 ∨ n = 7 ∨ n = 8 ∨ n = 9 ∨ n = 10 ∨ n = 11 ∨ n = 12 ∨ n = 13 ∨ n = 14 ∨ n = 15 ∨ n = 16:=by omega
  have ho:(AV.tup [opA n,.sc (.bool true)]).out = true:=by simp [AV.out,opA]
  rcases hc with rfl | rfl | rfl | rfl | rfl | rfl | rfl | rfl | rfl | rfl | rfl | rfl | rfl | rfl | rfl | rfl
  ·exact Aa6 rfl (ro_of A0g) ho
  ·exact Aa6 rfl (ro_of A0f) ho
  ·exact Aa6 rfl (ro_of A0e) ho
  ·exact Aa6 rfl (ro_of A0d) ho
  ·exact Aa6 rfl (ro_of A0c) ho
  ·exact Aa6 rfl (ro_of A0b) ho
  ·exact Aa6 rfl (ro_of A0a) ho
  ·exact Aa6 rfl (ro_of Az9) ho
  ·exact Aa6 rfl (ro_of Az8) ho
  ·exact Aa6 rfl (ro_of Avh) ho
  ·exact Aa6 rfl (ro_of Avg) ho
  ·exact Aa6 rfl (ro_of Avf) ho
  ·exact Aa6 rfl (ro_of Ave) ho
  ·exact Aa6 rfl (ro_of Avd) ho
  ·exact Aa6 rfl (ro_of Avc) ho
  ·exact Aa6 rfl (ro_of Avb) ho
end Go.Proofs.YtjgnfadoakonfaaGreat
namespace Go.Proofs.YtjgnfadoakonfaaGreat
set_option maxRecDepth 4000
open Go.V
attribute [local simp] Nat.add_assoc
section
variable {P:Program} {t:TypeId} {x y:Operand} {q k:IntKind} {a b:Int}
theorem Ay0:abin P .mul t x y (.sc (.int q a)) (.sc (.int q b)) = some (.sc (.int q (q.wrap (a * b)))):=by
 simp only [abin,plain,eqGuard,binOp,Op.intArith]; simp; rfl
theorem Aqv:abin P .shr t x y (.sc (.int .u64 a)) (.sc (.int k 32)) = some (.sc (.int .u64 (a.fdiv (2 ^ 32)))):=by
 simp only [abin,plain,eqGuard,binOp,Op.shift]; simp; rfl
theorem Aqw {n:Nat} (h:n < 2 ^ 64):abin P .and t x y (.sc (.int .u64 n)) (.sc (.int .u64 4294967295)) = some (.sc (.int .u64 ((n % 2 ^ 32:Nat):Int))):=by
 have e:abin P .and t x y (.sc (.int .u64 n)) (.sc (.int .u64 4294967295)) = some (.sc (.int .u64 (IntKind.u64.wrap ((BitVec.ofInt 64 n &&& BitVec.ofInt 64 4294967295).toNat)))):=rfl
 rw [e]
 have h2:(BitVec.ofInt 64 (n:Int) &&& BitVec.ofInt 64 4294967295).toNat = n % 2 ^ 32:=by
  rw [BitVec.toNat_and]
  have h3:(BitVec.ofInt 64 4294967295).toNat = 2 ^ 32 - 1:=rfl
  have h4:(BitVec.ofInt 64 (n:Int)).toNat = n:=by
   rw [BitVec.toNat_ofInt]
   omega
  rw [h3,h4,Nat.and_two_pow_sub_one_eq_mod]
 rw [h2,IntWalk.u64_in _ (by omega)]
end
theorem amin2 {t u T:TypeId} {a b:Int} {m:Mem}:abuiltin Tryz.prog .min #[t,u] T [int a,int b] m = some (int (min a b),m):=by
 show Option.map (·,m) (Option.map AV.sc (pureRun Tryz.prog (Builtin.min_ #[t,u] T [Value.int .i64 a,Value.int .i64 b].toArray))) = _
 have:pureRun Tryz.prog (Builtin.min_ #[t,u] T [Value.int .i64 a,Value.int .i64 b].toArray) = some (.int .i64 (if b < a then b else a)):=rfl
 rw [this]
 have:(if b < a then b else a) = min a b:=by simp only [Int.min_def]; split <;> split <;> omega
 rw [this]
 rfl
theorem Ad7 {P:Program} {t:TypeId} {xo yo:Operand} {k:IntKind} {n r:Nat} (h:n / 4294967296 = r):abin P .shr t xo yo (.sc (.int .u64 n)) (.sc (.int k 32)) = some (.sc (.int .u64 (r:Int))):=by
 rw [Aqv,Int.fdiv_eq_ediv_of_nonneg _ (by omega)]
 have:(n:Int) / 2 ^ 32 = (r:Int):=by omega
 rw [this]
theorem Ah3 {P:Program} {t:TypeId} {xo yo:Operand} {n r:Nat} (h0:n < 18446744073709551616) (h:n % 4294967296 = r):abin P .and t xo yo (.sc (.int .u64 n)) (.sc (.int .u64 4294967295)) = some (.sc (.int .u64 (r:Int))):=by
 rw [Aqw h0]
 subst h
 rfl
theorem wrapMul {a b c:Nat} (h:a * b = c) (hc:c < 18446744073709551616):IntKind.u64.wrap ((a:Int) * b) = c:=by
 rw [show (a:Int) * b = ((a * b:Nat):Int) from by simp,h]
 exact IntWalk.u64_in _ (by omega)
theorem wrapAdd {a b c:Nat} (h:a + b = c) (hc:c < 18446744073709551616):IntKind.u64.wrap ((a:Int) + b) = c:=by
 rw [show (a:Int) + b = ((a + b:Nat):Int) from by simp,h]
 exact IntWalk.u64_in _ (by omega)
theorem g121c (x y lo hi x0 x1 y0 y1 w0 p u v vw r t w1 w2 w3 w:Nat)
  (hlo:IntKind.u64.wrap ((x:Int) * y) = (lo:Int))
  (hx0:x % 4294967296 = x0) (hx1:x / 4294967296 = x1) (hy0:y % 4294967296 = y0) (hy1:y / 4294967296 = y1) (hw0:x0 * y0 = w0) (hp:x1 * y0 = p) (hu:x0 * y1 = u) (hv:x1 * y1 = v)
  (hr:w0 / 4294967296 = r) (ht:p + r = t) (hw1:t % 4294967296 = w1) (hw2:t / 4294967296 = w2) (hw:w1 + u = w) (hw3:w / 4294967296 = w3) (hvw:v + w2 = vw) (hhi:vw + w3 = hi) (b1:w0 < 18446744073709551616) (b2:p < 18446744073709551616) (b3:u < 18446744073709551616) (b4:t < 18446744073709551616) (b5:w < 18446744073709551616) (b6:x < 18446744073709551616) (b7:y < 18446744073709551616) (b9:v < 18446744073709551616) (b10:vw < 18446744073709551616) (b11:hi < 18446744073709551616) :
  Gives Tryz.prog cc 121 [.sc (.int .u64 x),.sc (.int .u64 y)] (.tup [.sc (.int .u64 hi),.sc (.int .u64 lo)]):=by
 refine Aaf Tryz.func121 rfl rfl rfl rfl (by simp) (by simp [Tryz.f121]) (by simp [Tryz.f121]) fun m => ?_
 have A1:=fun {t:TypeId} {xo yo:Operand} => Ah3 (P:=Tryz.prog) (t:=t) (xo:=xo) (yo:=yo) b6 hx0
 have A2:=fun {t:TypeId} {xo yo:Operand} => Ah3 (P:=Tryz.prog) (t:=t) (xo:=xo) (yo:=yo) b7 hy0
 have A3:=fun {t:TypeId} {xo yo:Operand} => Ah3 (P:=Tryz.prog) (t:=t) (xo:=xo) (yo:=yo) b4 hw1
 have S1:=fun {t:TypeId} {xo yo:Operand} {k:IntKind} => Ad7 (P:=Tryz.prog) (t:=t) (xo:=xo) (yo:=yo) (k:=k) hx1
 have S2:=fun {t:TypeId} {xo yo:Operand} {k:IntKind} => Ad7 (P:=Tryz.prog) (t:=t) (xo:=xo) (yo:=yo) (k:=k) hy1
 have S3:=fun {t:TypeId} {xo yo:Operand} {k:IntKind} => Ad7 (P:=Tryz.prog) (t:=t) (xo:=xo) (yo:=yo) (k:=k) hr
 have S4:=fun {t:TypeId} {xo yo:Operand} {k:IntKind} => Ad7 (P:=Tryz.prog) (t:=t) (xo:=xo) (yo:=yo) (k:=k) hw2
 have S5:=fun {t:TypeId} {xo yo:Operand} {k:IntKind} => Ad7 (P:=Tryz.prog) (t:=t) (xo:=xo) (yo:=yo) (k:=k) hw3
 have P1:=wrapMul hw0 b1
 have P2:=wrapMul hp b2
 have P3:=wrapMul hu b3
 have P4:=wrapMul hv b9
 have D1:=wrapAdd ht b4
 have D2:=wrapAdd hw b5
 have D3:=wrapAdd hvw b10
 have D4:=wrapAdd hhi b11
 clear hx0 hx1 hy0 hy1 hr hw1 hw2 hw3
 simp [Tryz.f121,show cc.keepRes 121 = false from rfl,Ay0,A1,A2,A3,S1,S2,S3,S4,S5,P1,P2,P3,P4,hlo,D1,D2,D3,D4]
theorem A0q (x1 x0 y1 y0:Nat):(x1 * 4294967296 + x0) * (y1 * 4294967296 + y0) = x1 * y1 * 18446744073709551616 + (x1 * y0 + x0 * y1) * 4294967296 + x0 * y0:=by
 have q1:x1 * 4294967296 * (y1 * 4294967296) = x1 * y1 * 18446744073709551616:=by rw [Nat.mul_mul_mul_comm]
 have q2:x1 * 4294967296 * y0 = x1 * y0 * 4294967296:=Nat.mul_right_comm _ _ _
 have q3:x0 * (y1 * 4294967296) = x0 * y1 * 4294967296:=(Nat.mul_assoc _ _ _).symm
 rw [Nat.add_mul,Nat.mul_add,Nat.mul_add,q1,q2,q3,Nat.add_mul]
 omega
theorem Avy (V Pp U W Z:Nat) (h:V * 18446744073709551616 + (Pp + U) * 4294967296 + W = Z) :
  V + (Pp + W / 4294967296) / 4294967296 + ((Pp + W / 4294967296) % 4294967296 + U) / 4294967296 = Z / 18446744073709551616:=by
 omega
theorem A0r (V P U W:Nat) (b1:W ≤ 18446744065119617025) (b2:P ≤ 1152921504338411520) (b3:U ≤ 1152921504338411520) (b4:V ≤ 72057594037927936):P + W / 4294967296 < 18446744073709551616 ∧ (P + W / 4294967296) % 4294967296 + U < 18446744073709551616 ∧ V + (P + W / 4294967296) / 4294967296 < 18446744073709551616 ∧ V + (P + W / 4294967296) / 4294967296 + ((P + W / 4294967296) % 4294967296 + U) / 4294967296 < 18446744073709551616:=by
 refine ⟨?_,?_,?_,?_⟩ <;> omega
theorem g121 (x y:Nat) (hx:x ≤ 1152921504606846976) (hy:y ≤ 1152921504606846976):Gives Tryz.prog cc 121 [.sc (.int .u64 x),.sc (.int .u64 y)] (.tup [.sc (.int .u64 (((x * y) / 18446744073709551616:Nat):Int)),.sc (.int .u64 (((x * y) % 18446744073709551616:Nat):Int))]):=by
 have k:=A0q (x / 4294967296) (x % 4294967296) (y / 4294967296) (y % 4294967296)
 rw [Nat.div_add_mod' x,Nat.div_add_mod' y] at k
 have c:=Avy _ _ _ _ _ k.symm
 have x0:x % 4294967296 < 4294967296:=Nat.mod_lt _ (by omega)
 have y0:y % 4294967296 < 4294967296:=Nat.mod_lt _ (by omega)
 have x1:x / 4294967296 ≤ 268435456:=by omega
 have y1:y / 4294967296 ≤ 268435456:=by omega
 have b1:x % 4294967296 * (y % 4294967296) ≤ 4294967295 * 4294967295:=Nat.mul_le_mul (by omega) (by omega)
 have b2:x / 4294967296 * (y % 4294967296) ≤ 268435456 * 4294967295:=Nat.mul_le_mul x1 (by omega)
 have b3:x % 4294967296 * (y / 4294967296) ≤ 4294967295 * 268435456:=Nat.mul_le_mul (by omega) y1
 have b4:x / 4294967296 * (y / 4294967296) ≤ 268435456 * 268435456:=Nat.mul_le_mul x1 y1
 have b5:x * y ≤ 1152921504606846976 * 1152921504606846976:=Nat.mul_le_mul hx hy
 have hlo:IntKind.u64.wrap ((x:Int) * y) = (((x * y) % 18446744073709551616:Nat):Int):=by
  rw [show (x:Int) * y = ((x * y:Nat):Int) from by simp]
  generalize x * y = z
  show IntKind.wrap .u64 (z:Int) = _
  simp [IntKind.wrap,IntKind.signed,IntKind.bits]
 have bb:=A0r (x / 4294967296 * (y / 4294967296)) (x / 4294967296 * (y % 4294967296)) (x % 4294967296 * (y / 4294967296)) (x % 4294967296 * (y % 4294967296)) b1 b2 b3 b4
 exact g121c x y _ _ (x % 4294967296) (x / 4294967296) (y % 4294967296) (y / 4294967296) _ _ _ _ _ _ _ _ _ _ _ hlo (Eq.refl _) (Eq.refl _) (Eq.refl _) (Eq.refl _) (Eq.refl _) (Eq.refl _) (Eq.refl _) (Eq.refl _) (Eq.refl _) (Eq.refl _) (Eq.refl _) (Eq.refl _) (Eq.refl _) (Eq.refl _) (Eq.refl _) c
  (by omega) (by omega) (by omega) bb.1 bb.2.1 (by omega) (by omega) (by omega) bb.2.2.1 (by rw [← c]; exact bb.2.2.2)
theorem g100 (x y:Nat) (hx:x ≤ 1152921504606846976) (hy:y ≤ 1152921504606846976):Gives Tryz.prog cc 100 [.sc (.int .u64 x),.sc (.int .u64 y)] (.tup [.sc (.int .u64 (((x * y) / 18446744073709551616:Nat):Int)),.sc (.int .u64 (((x * y) % 18446744073709551616:Nat):Int))]):=by
 have q:=g121 x y hx hy
 generalize (x * y) / 18446744073709551616 = hi at *
 generalize (x * y) % 18446744073709551616 = lo at *
 refine Aaf Tryz.func100 rfl rfl rfl rfl (by simp) (by simp [Tryz.f100]) (by simp [Tryz.f100]) fun m => ?_
 simp [Tryz.f100,show cc.keepRes 100 = false from rfl,q.go]
def ints (l:List Int):List AV:=l.map fun n => int n
@[simp] theorem Adj (l:List Int):(ints l).length = l.length:=by simp [ints]
theorem Ac8 (n:Int) (l:List Int):ints (n :: l) = int n :: ints l:=rfl
theorem Adk (l r:List Int):ints (l ++ r) = ints l ++ ints r:=by simp [ints]
theorem Ahk (l:List Int):flat (ints l) = ints l:=by
 induction l with
 | nil => rfl
 | cons n l ih => rw [Ac8,Aa4,ih]; rfl
@[simp] theorem Asg (l:List Int):okAll 1 (ints l) = true:=by
 induction l with
 | nil => rfl
 | cons s l ih => rw [Ac8,Aal,ih]; simp
theorem Ao0 (l:List Int):∀ y ∈ ints l,y.cells.length = 1 ∧ (if false then AV.agg y.cells = y else y.cells = [y]):=by
 intro y hy
 obtain ⟨x,_,rfl⟩:=List.mem_map.1 hy
 simp
theorem Ao1 (l:List Int) (i:Nat):(ints l)[i]? = (l[i]?).map fun n => int n:=by simp [ints]
theorem Av3 (l:List Int) (n:Nat):AV.bels n (ints l) = true:=by
 induction l with
 | nil => rfl
 | cons x l ih => simp [Ac8,AV.bels,AV.bel,ih]
theorem A0w (l:List Int) (m:Mem):fzvs m (ints l) = (ints l,m):=by
 induction l with
 | nil => rfl
 | cons x l ih =>
  have:fzv m (int x) = (int x,m):=rfl
  rw [Ac8,fzvs,this]
  simp [ih]
theorem Aje:∀ (l:List Int) (r:List AV),chunk 1 false l.length (ints l ++ r) = ints l
 | [],r => rfl
 | v :: l,r => by
  have:=Aje l r
  rw [Ac8,List.length_cons,chunk]
  simp [this]
theorem Aoz (l:List Int) (i:Nat) (v:Int) (h:i < l.length):splice (ints l) i [int v] = ints (l.set i v):=by
 unfold splice ints
 rw [List.map_set,List.set_eq_take_append_cons_drop,if_pos (by simpa using h)]
 simp
theorem Aii:∀ n:Nat,zeros [int 0] n = ints (List.replicate n 0)
 | 0 => rfl
 | n + 1 => by
  rw [List.replicate_succ,Ac8,← Aii n]
  rfl
theorem Atp {T u R:TypeId} {d x:AV} {m:Mem}:abuiltin Tryz.prog .copy #[T,u] R [d,x] m = acopy Tryz.prog T d x m:=Akt (args:=[]) (ts:=#[])
theorem A21 {id off len:Nat} {cap:Option Nat} {l:Nat} (h:l ≤ len):aslice Tryz.prog 58 (.sl id off len 1 false cap) (some (int l)) none none = some (.sl id (off + l) (len - l) 1 false (cap.map (· - l))):=by
 have:=Afj (P:=Tryz.prog) (T:=58) (c:=0) (id:=id) (off:=off) (len:=len) (k:=1) (ag:=false) (cap:=cap) (lo:=some (int l)) (hi:=none) (l:=some l) (h:=none) Tryz.underlying58 Acw (Abg (n:=l)) Aa3 (by simpa using h) (by simp)
 simpa using this
theorem A22 {id len:Nat} {cap:Option Nat} {h:Nat} (hh:h ≤ len):aslice Tryz.prog 58 (.sl id 0 len 1 false cap) none (some (int h)) none = some (.sl id 0 h 1 false (cap.map (· - 0))):=by
 have:=Afj (P:=Tryz.prog) (T:=58) (c:=0) (id:=id) (off:=0) (len:=len) (k:=1) (ag:=false) (cap:=cap) (lo:=none) (hi:=some (int h)) (l:=none) (h:=some h) Tryz.underlying58 Acw Aa3 (Abg (n:=h)) (by simp) (by simpa using hh)
 simpa using this
theorem Am0 (a b d:List Int) (h:b.length ≤ d.length):splice (ints (a ++ d)) a.length (ints b) = ints (a ++ b ++ d.drop b.length):=by
 rw [splice,Adk a d,List.take_left' (Adj a),Adk (a ++ b),Adk a b,Adj]
 congr 1
 rw [List.drop_append,List.drop_eq_nil_of_le (by simp),List.nil_append]
 simp [ints,← List.map_drop]
theorem Ajj {m:Mem} {id k n w:Nat} {cap:Option Nat} {x:AV} {s a d:List Int} (hx:srcOf m x = some (ints s)) (hg:m.get id = some (.cells (ints (a ++ d)) false w)) (hk:a.length = k) (hn:d.length = n) :
  acopy Tryz.prog 58 (.sl id k n 1 false cap) x m = some (int (min s.length n:Nat),m.set id (ints (a ++ s.take n ++ d.drop (min s.length n)))):=by
 have ht:(ints s).take (min s.length n) = ints (s.take n):=by
  rw [ints,← List.map_take,ints]
  congr 1
  rw [List.take_eq_take_iff]
  omega
 have hl:(s.take n).length = min s.length n:=by rw [List.length_take]; omega
 have hs:=Am0 a (s.take n) d (by rw [hl]; omega)
 rw [hk,hl] at hs
 unfold acopy
 simp only [telem,Tryz.underlying58,Acw,hx,Adj,ht,A0w,hg,Ahk,hs]
 rw [if_pos]
 ·rfl
 ·refine ⟨by omega,trivial,?_,?_⟩
  ·rw [List.length_append]; omega
  ·rw [List.all_eq_true]
   intro y hy
   obtain ⟨p,_,rfl⟩:=List.mem_map.1 hy
   simp
theorem A20 {n:Nat} {m:Mem} (hn:n ≤ 4096):amakeSlice Tryz.prog 58 (int n) (int n) m = some (.sl m.next 0 n 1 false (some n),m.new (ints (List.replicate n 0)) false):=by
 unfold amakeSlice
 simp only [telem,Tryz.underlying58,Acw,Arb,tagg3,Arj,Int.toNat_natCast]
 rw [if_pos]
 ·rw [← Aii]; rfl
 ·refine ⟨by omega,rfl,rfl,by omega,by omega,by omega,by omega⟩
theorem g81 (v:Int) (n:Nat) (hn:n ≤ 4096) (m:Mem):wph Tryz.prog cc (.func 81) [.lst [int v],int n] m fun r m' => r = .sl m.next 0 n 1 false (some n) ∧ Kp m m' ∧ m.next < m'.next ∧ ∃ w,m'.get m.next = some (.cells (ints (List.replicate n v)) false w):=by
 refine Aah Tryz.func81 rfl rfl (by simp [Tryz.f81]) (by simp [Tryz.f81]) fun Q hQ => ?_
 simp only [Tryz.f81,show cc.keepRes 81 = true from rfl,show cc.keepArgs 81 = false from rfl] at hQ ⊢
 have ln1:∀ (R:TypeId) (m:Mem),abuiltin Tryz.prog .len #[58] R [.lst [int v]] m = some (int 1,m):=fun R m => by rw [Abn Tryz.underlying58]; rfl
 have w1:IntKind.u64.wrap 1 = 1:=IntWalk.u64_in _ (by omega)
 have w2:IntKind.u64.wrap (n:Int) = n:=IntWalk.u64_in _ (by omega)
 have w3:IntKind.i64.wrap (n:Int) = n:=IntWalk.i64_in _ (by omega)
 have q:=g100 1 n (by omega) (by omega)
 rw [Nat.one_mul,Nat.div_eq_of_lt (by omega),Nat.mod_eq_of_lt (by omega)] at q
 have q':Gives Tryz.prog cc 100 [.sc (.int .u64 1),.sc (.int .u64 n)] (.tup [.sc (.int .u64 0),.sc (.int .u64 n)]):=q
 have h1:¬ (n:Int) < 0:=by omega
 have h2:¬ (9223372036854775807:Int) < n:=by omega
 simp [h1,ln1,w1,w2,q'.go,h2,w3,A20 hn,undefV,undef]
 have c0:=Ajj (m:=m.new (ints (List.replicate n 0)) false) (id:=m.next) (k:=0) (n:=n) (w:=m.clock + 1) (cap:=some n) (x:=.lst [int v]) (s:=[v]) (a:=[]) (d:=List.replicate n 0) rfl (by simp) rfl (by simp)
 simp only [List.nil_append,List.length_singleton] at c0
 rw [Atp,c0]
 simp
 refine Ao4 (fun d s' m' => ∃ k:Nat,d = n - k ∧ (n = 0 ∨ 1 ≤ k) ∧ k ≤ n ∧ s'.at 8 = int k ∧ Kp m m' ∧ m.next < m'.next ∧ ∃ w,m'.get m.next = some (.cells (ints (List.replicate k v ++ List.replicate (n - k) 0)) false w)) (n - min 1 n) ⟨min 1 n,rfl,by omega,by omega,by simp,by simp,by simp,m.clock + 2,?_⟩ ?_
 ·cases n with
  | zero => simp
  | succ n => simp [Nat.min_eq_left (show 1 ≤ n + 1 by omega)]
 rintro d s' m' ⟨k,rfl,hk0,hk,e8,hkp,hlt,w,hg⟩ hsame Q' hn' he
 have e7:s'.at 7 = .sl m.next 0 n 1 false (some n):=(hsame 7 (by kernel_rfl)).trans (by simp)
 clear hsame
 have ln:∀ (R:TypeId) (m':Mem),abuiltin Tryz.prog .len #[58] R [.sl m.next 0 n 1 false (some n)] m' = some (int n,m'):=fun R m' => by rw [Ab6 Tryz.underlying58]
 simp [e7,e8,ln]
 refine Aak (fun h => ?_) fun h => ?_
 ·have hlt2:k < n:=by have:=of_decide_eq_true h; omega
  have s1:=A21 (id:=m.next) (off:=0) (len:=n) (cap:=some n) (l:=k) hk
  have s2:=A22 (id:=m.next) (len:=n) (cap:=some n) (h:=k) hk
  have el:srcOf m' (.sl m.next 0 k 1 false ((some n).map (· - 0))) = some (ints (List.replicate k v)):=by
   simp only [srcOf,elemsOf,hg]
   rw [if_pos ⟨by simp,rfl⟩,List.drop_zero,Adk]
   have hc:=Aje (List.replicate k v) (ints (List.replicate (n - k) 0))
   rw [List.length_replicate] at hc
   rw [hc]
  have c1:=Ajj (k:=k) (n:=n - k) (cap:=(some n).map (· - k)) el hg (by simp) (by simp)
  simp only [List.length_replicate] at c1
  have wk:IntKind.i64.wrap ((k:Int) + ((min k (n - k):Nat):Int)) = ((k + min k (n - k):Nat):Int):=by rw [IntWalk.i64_in _ (by omega)]; omega
  rw [Nat.zero_add] at s1
  simp
  refine Aat (by kernel_rfl) (by kernel_rfl) ?_
  simp only [Option.map_some,Nat.sub_zero] at s1 s2 c1
  simp [e7,e8,s1,s2,Atp,c1,wk]
  have hr:List.replicate k v ++ List.take (n - k) (List.replicate k v) ++ List.drop (min k (n - k)) (List.replicate (n - k) (0:Int)) = List.replicate (k + min k (n - k)) v ++ List.replicate (n - (k + min k (n - k))) 0:=by
   rw [List.take_replicate,List.drop_replicate,List.replicate_append_replicate,Nat.min_comm (n - k) k]
   congr 2
   omega
  refine hn' (n - (k + min k (n - k))) _ _ (by omega) ⟨k + min k (n - k),rfl,by omega,by omega,by simp,hkp.set (Nat.le_refl _) _,by simpa using hlt,m'.clock + 1,?_⟩
  rw [← hr]
  simp
 ·have hge:k = n:=by have:=of_decide_eq_false h; omega
  subst hge
  simp
  refine he _ _ _ (by simp) ?_
  simp [e7]
  refine hQ _ _ _ ⟨.inr rfl,[.sl m.next 0 k 1 false (some k)],by simp [aresult],?_⟩
  exact ⟨rfl,hkp,hlt,w,by simpa using hg⟩
theorem g82 {m:Mem} {B1 B5 R N:Nat} {L:List InsM} {l:List Int} {p v:Int} (hB1:has m B1 [.lst (inss L)]) (hB5:has m B5 [.sl R 0 N 1 false (some N)]) (hR:has m R (ints l)) (hN:l.length = N) (hL:L.length = N) (hp:0 ≤ p) :
  wph Tryz.prog cc (.func 82) [int p,int v,.ptr B1 0,.ptr B5 0] m fun r m' => match reachM l p v with
   | none => r = .sc (.bool false) ∧ Kp m m'
   | some l' => r = .sc (.bool true) ∧ KpX (fun j => j = R) m m' ∧ has m' R (ints l'):=by
 obtain ⟨_,w1,g1⟩:=hB1
 obtain ⟨_,w5,g5⟩:=hB5
 obtain ⟨hRl,wR,gR⟩:=hR
 obtain ⟨i,rfl⟩:∃ i:Nat,p = i:=⟨p.toNat,by omega⟩
 have ln:∀ (R:TypeId) (m:Mem),abuiltin Tryz.prog .len #[55] R [.lst (inss L)] m = some (int N,m):=fun R m => by rw [len55,hL]
 refine Aah Tryz.func82 rfl rfl (by simp [Tryz.f82]) (by simp [Tryz.f82]) fun Q hQ => ?_
 simp only [Tryz.f82,show cc.keepRes 82 = false from rfl,show cc.keepArgs 82 = false from rfl] at hQ ⊢
 by_cases hi:i < N
 rotate_left
 ·have hr:reachM l i v = none:=by rw [reachM,if_pos (.inl (by omega))]
  rw [hr] at hQ
  have hge:(N:Int) ≤ i:=by omega
  simp [g1,ln,hge,show N ≤ i by omega,undefV,undef]
  refine hQ _ _ _ ?_
  rw [Abm]
  exact ⟨by simp,by simp⟩
 have hlt:¬ (N:Int) ≤ i:=by omega
 obtain ⟨y,hy⟩:∃ y,l[i]? = some y:=⟨_,List.getElem?_eq_getElem (by omega)⟩
 have hix:=Aar (P:=Tryz.prog) (q:=.i64) (ag:=false) (c:=some N) (id:=R) (off:=0) (len:=N) (i:=i) Tryz.underlying58 Acw hi
 have hcell:(ints l)[i]? = some (int y):=by rw [Ao1,hy]; rfl
 have hs:=Aoz l i v (by omega)
 have hd:l.getD (i:Int).toNat 0 = y:=by simp [List.getD_eq_getElem?_getD,hy]
 simp at hix
 by_cases h0:0 ≤ y
 ·by_cases hv:y = v
  ·subst hv
   have hr:reachM l i y = some (l.set i y):=by rw [reachM,if_neg (by omega),hd,if_neg (by simp)]; simp
   rw [hr] at hQ
   simp [g1,g5,gR,ln,hlt,show ¬ N ≤ i by omega,hix,hcell,h0,show i + 1 ≤ l.length by omega]
   simp [splice] at hs
   refine hQ _ _ _ ?_
   rw [Abm]
   refine ⟨by simp,?_⟩
   simp [hs]
   exact ⟨(KpX.refl (fun j => j = R) m).set rfl _,by simpa using hRl,m.clock + 1,by simp⟩
  ·have hr:reachM l i v = none:=by rw [reachM,if_neg (by omega),hd,if_pos ⟨h0,hv⟩]
   rw [hr] at hQ
   simp [g1,g5,gR,ln,hlt,show ¬ N ≤ i by omega,hix,hcell,h0,hv]
   refine hQ _ _ _ ?_
   rw [Abm]
   exact ⟨by simp,by simp⟩
 ·have hr:reachM l i v = some (l.set i v):=by rw [reachM,if_neg (by omega),hd,if_neg (fun q => h0 q.1)]; simp
  rw [hr] at hQ
  simp [g1,g5,gR,ln,hlt,show ¬ N ≤ i by omega,hix,hcell,h0,undefV,undef,show i + 1 ≤ l.length by omega]
  simp [splice] at hs
  refine hQ _ _ _ ?_
  rw [Abm]
  refine ⟨by simp,?_⟩
  simp [hs]
  exact ⟨(KpX.refl (fun j => j = R) m).set rfl _,by simpa using hRl,m.clock + 1,by simp⟩
def flowR (L:List InsM):AV:=match flowM L with
 | none => .tup [.lst [],int 0,.sc (.bool false)]
 | some s => .tup [.lst (ints s.1),int s.2,.sc (.bool true)]
theorem Aho:∀ (l r:List InsM) (i:Nat) (s:List Int × Int),flowL i (l ++ r) s = (flowL i l s).bind fun s' => flowL (i + l.length) r s'
 | [],r,i,s => by simp [flowL]
 | x :: l,r,i,s => by
  rw [List.cons_append,flowL,flowL]
  cases flow1 i x s with
  | none => rfl
  | some s' =>
   simp only
   rw [Aho l r (i + 1) s',List.length_cons,Nat.add_assoc,Nat.add_comm 1]
theorem As4 {i:Nat} {x:InsM} {s s':List Int × Int} (h:flow1 i x s = some s'):s'.1.length = s.1.length:=by
 unfold flow1 at h
 split at h
 ·cases h
 split at h
 ·cases h; rfl
 split at h
 ·cases h
 rename_i l hl
 split at h
 ·cases h
 rename_i l2 hl2
 cases h
 have a1:l.length = s.1.length:=by
  split at hl
  ·exact (Ac6 hl).1
  ·cases hl; rfl
 have a2:l2.length = l.length:=by
  split at hl2
  ·cases hl2; rfl
  ·exact (Ac6 hl2).1
 simp only
 omega
theorem Al6:∀ (l:List InsM) (i:Nat) (s s':List Int × Int),flowL i l s = some s' → s'.1.length = s.1.length
 | [],i,s,s',h => by cases h; rfl
 | x :: l,i,s,s',h => by
  rw [flowL] at h
  split at h
  ·cases h
  rename_i s1 h1
  rw [Al6 l (i + 1) s1 s' h,As4 h1]
structure InOk (x:InsM):Prop where
 op:1 ≤ x.1 ∧ x.1 ≤ 16
 a:-2 ^ 63 ≤ x.2.1 ∧ x.2.1 < 2 ^ 63
 b:-2 ^ 63 ≤ x.2.2 ∧ x.2.2 < 2 ^ 63
 plus:(opM x.1).plusA = true → 0 ≤ x.2.1 ∧ x.2.1 ≤ 32
 place:(opM x.1).a = 5 → 0 ≤ x.2.1
theorem Aus (a b:Int):IntKind.i64.wrap (a + IntKind.i64.wrap b) = IntKind.i64.wrap (a + b):=by
 simp [IntKind.wrap,IntKind.signed,IntKind.bits]
 repeat' split
 all_goals omega
theorem g83i (x:InsM) (h:InOk x):Gives Tryz.prog cc 83 [opA x.1,insA x] (int (needM x)):=by
 have hs:=Alh x.1
 have hpl:=h.plus
 have ha:=h.a
 have hb:=h.b
 have hB:(opM x.1).plusB = true → (opM x.1).needs = 0 ∧ (opM x.1).plusA = false:=by
  have ho:=h.op
  have hc:x.1 = 1 ∨ x.1 = 2 ∨ x.1 = 3 ∨ x.1 = 4 ∨ x.1 = 5 ∨ x.1 = 6 ∨ x.1 = 7 ∨ x.1 = 8 ∨ x.1 = 9 ∨ x.1 = 10 ∨ x.1 = 11 ∨ x.1 = 12 ∨ x.1 = 13 ∨ x.1 = 14 ∨ x.1 = 15 ∨ x.1 = 16:=by omega
  rcases hc with q | q | q | q | q | q | q | q | q | q | q | q | q | q | q | q <;> simp [opM,q]
 have hw1:(opM x.1).plusA = true → IntKind.i64.wrap ((opM x.1).needs + x.2.1) = (opM x.1).needs + x.2.1:=fun q => by have:=hpl q; exact IntWalk.i64_in _ (by omega)
 have hw2:(opM x.1).plusB = true → IntKind.i64.wrap ((opM x.1).needs + x.2.2) = (opM x.1).needs + x.2.2:=fun q => by have:=hB q; exact IntWalk.i64_in _ (by omega)
 cases eA:(opM x.1).plusA with
 | true =>
  have eB:(opM x.1).plusB = false:=by
   cases q:(opM x.1).plusB with
   | false => rfl
   | true => have:=(hB q).2; rw [eA] at this; cases this
  have hn:needM x = (opM x.1).needs + x.2.1:=by simp [needM,eA,eB]
  rw [hn]
  refine Aaf Tryz.func83 rfl rfl rfl rfl (by simp) (by simp [Tryz.f83]) (by simp [Tryz.f83]) fun m => ?_
  simp [Tryz.f83,show cc.keepRes 83 = false from rfl,eA,eB,hw1 eA]
 | false =>
  cases eB:(opM x.1).plusB with
  | true =>
   have hn:needM x = (opM x.1).needs + x.2.2:=by simp [needM,eA,eB]
   rw [hn]
   refine Aaf Tryz.func83 rfl rfl rfl rfl (by simp) (by simp [Tryz.f83]) (by simp [Tryz.f83]) fun m => ?_
   simp [Tryz.f83,show cc.keepRes 83 = false from rfl,eA,eB,hw2 eB]
  | false =>
   have hn:needM x = (opM x.1).needs:=by simp [needM,eA,eB]
   rw [hn]
   refine Aaf Tryz.func83 rfl rfl rfl rfl (by simp) (by simp [Tryz.f83]) (by simp [Tryz.f83]) fun m => ?_
   simp [Tryz.f83,show cc.keepRes 83 = false from rfl,eA,eB]
end Go.Proofs.YtjgnfadoakonfaaGreat
namespace Go.Proofs.YtjgnfadoakonfaaGreat
set_option maxRecDepth 20000
open Go.V
attribute [local simp] Nat.add_assoc
theorem Awv {L:List InsM} {i:Nat} {x:InsM} {s0 st:List Int × Int} (h:flowL 0 (L.take i) s0 = some st) (hx:L[i]? = some x):(flow1 i x st = none → flowL 0 L s0 = none) ∧ ∀ st',flow1 i x st = some st' → flowL 0 (L.take (i + 1)) s0 = some st':=by
 obtain ⟨hi,hxe⟩:=List.getElem?_eq_some_iff.1 hx
 have e1:L = L.take i ++ x :: L.drop (i + 1):=by rw [← hxe,List.getElem_cons_drop,List.take_append_drop]
 have hl:(L.take i).length = i:=by simp; omega
 refine ⟨fun hn => ?_,fun st' hs => ?_⟩
 ·rw [e1,Aho,h]
  simp [hl,flowL,hn]
 ·rw [List.take_succ_eq_append_getElem hi,hxe,Aho,h]
  simp [hl,flowL,hs]
theorem c57 (L:List InsM) (h1:1 ≤ L.length) (h2:L.length ≤ 4096) (hok:∀ x ∈ L,InOk x):Gives Tryz.prog cc 57 [.lst (inss L)] (flowR L):=by
 have hbel:∀ n,(flowR L).bel n = true:=by
  intro n
  unfold flowR
  split <;> simp [AV.bel,AV.bels,Av3]
 refine Aaf Tryz.func57 rfl rfl rfl rfl hbel (by simp [Tryz.f57]) (by simp [Tryz.f57]) fun m => ?_
 simp only [Tryz.f57,show cc.keepRes 57 = false from rfl]
 obtain ⟨N,hN⟩:∃ N,N = L.length:=⟨_,rfl⟩
 have ln:∀ (R:TypeId) (m:Mem),abuiltin Tryz.prog .len #[55] R [.lst (inss L)] m = some (int N,m):=fun R m => by rw [len55,hN]
 obtain ⟨M1,hM1⟩:∃ M1,M1 = m.new [.lst (inss L)] false:=⟨_,rfl⟩
 have n1:M1.next = m.next + 1:=by rw [hM1]; simp
 have gB1:M1.get m.next = some (.cells [.lst (inss L)] false (m.clock + 1)):=by rw [hM1]; simp
 have b1:has M1 m.next [.lst (inss L)]:=⟨by omega,m.clock + 1,gB1⟩
 have k1:Kp m M1:=by rw [hM1]; simp
 obtain ⟨M2,hM2⟩:∃ M2,M2 = M1.new [int (-1)] false:=⟨_,rfl⟩
 have g2:M2.get M1.next = some (.cells (flat (ints [-1])) false (M1.clock + 1)):=by rw [hM2,Ahk]; simp [ints]
 have ez:=Ado (k:=1) (ag:=false) (cap:=some 1) (ys:=ints [-1]) rfl g2 (Ao0 [-1]) (Asg [-1])
 obtain ⟨M3,hM3⟩:∃ M3,M3 = M2.mark M1.next (flat (ints [-1])) (M1.clock + 1):=⟨_,rfl⟩
 rw [← hM3] at ez
 have k3:Kp M1 M3:=by
  have:Kp M1 M2:=by rw [hM2]; simp
  rw [hM3]
  exact this.mark (Nat.le_refl _) _ _
 have ez':fz1 M2 (.sl M1.next 0 1 1 false (some 1)) = (.lst [int (-1)],M3):=ez
 have hz0:fzvs M2 [.sl M1.next 0 1 1 false (some 1),int N] = ([.lst [int (-1)],int N],M3):=by
  have fi:∀ (M:Mem) (n:Int),fz1 M (int n) = (int n,M):=fun _ _ => rfl
  simp [fzvs,fzv,ez',fi]
 have hz1:fzvs M3 [.lst [int (-1)],int N] = ([.lst [int (-1)],int N],M3):=by simp [fzvs,fzv,fz1]
 simp
 rw [← hM1]
 clear hM1
 have nB1:m.next ≠ M1.next:=by omega
 simp [gB1,nB1,abuildSlice,zeros,fillAt,ln]
 rw [← hM2]
 refine Aac (Agy Tryz.func81 rfl rfl rfl hz0 hz1 (g81 (-1) N (by omega) M3)) ?_
 rintro _ m4 ⟨rfl,k4,hlt,wR,gR⟩
 obtain ⟨R,hRe⟩:∃ R,R = M3.next:=⟨_,rfl⟩
 rw [← hRe] at hlt gR ⊢
 obtain ⟨M5,hM5⟩:∃ M5,M5 = (m4.new [.emp 0] false).set m4.next [.sl R 0 N 1 false (some N)]:=⟨_,rfl⟩
 obtain ⟨B5,hB5⟩:∃ B5,B5 = m4.next:=⟨_,rfl⟩
 have k5:Kp m4 M5:=by rw [hM5]; simp
 have n3:=k3.next
 have n5:M5.next = m4.next + 1:=by rw [hM5]; simp
 have g5B1:M5.get m.next = some (.cells [.lst (inss L)] false (m.clock + 1)):=by rw [k5.get m.next (by omega),k4.get m.next (by omega),k3.get m.next (by omega)]; exact gB1
 have g5R:M5.get R = some (.cells (ints (List.replicate N (-1))) false wR):=by rw [k5.get R hlt]; exact gR
 have g5B5:M5.get B5 = some (.cells [.sl R 0 N 1 false (some N)] false (m4.clock + 2)):=by rw [hM5,hB5]; simp
 have hix0:aindexAddr Tryz.prog 58 (.sl R 0 N 1 false (some N)) (int 0) = some (.ptr R 0):=by
  have:=Aar (P:=Tryz.prog) (q:=.i64) (ag:=false) (c:=some N) (id:=R) (off:=0) (len:=N) (i:=0) Tryz.underlying58 Acw (by omega)
  simpa using this
 have hs0:=Aoz (List.replicate N (-1)) 0 0 (by simp; omega)
 simp [splice] at hs0
 have hinit:(List.replicate N (-1:Int)).set 0 0 = 0 :: List.replicate (N - 1) (-1):=by
  cases N with
  | zero => omega
  | succ n => simp [List.replicate_succ]
 simp
 rw [← hM5,← hB5]
 rw [hinit] at hs0
 obtain ⟨M6,hM6⟩:∃ M6,M6 = M5.set R (ints (0 :: List.replicate (N - 1) (-1))):=⟨_,rfl⟩
 have nR1:m.next ≠ R:=by have:=k3.next; omega
 have nR5:B5 ≠ R:=by omega
 have n6:M6.next = M5.next:=by rw [hM6]; simp
 have g6R:M6.get R = some (.cells (ints (0 :: List.replicate (N - 1) (-1))) false (M5.clock + 1)):=by rw [hM6]; simp
 have g6B1:M6.get m.next = some (.cells [.lst (inss L)] false (m.clock + 1)):=by rw [hM6]; simp [nR1,g5B1]
 have g6B5:M6.get B5 = some (.cells [.sl R 0 N 1 false (some N)] false (m4.clock + 2)):=by rw [hM6]; simp [nR5,g5B5]
 have k06:Kp m M6:=by
  have:Kp m M5:=((k1.trans k3).trans k4).trans k5
  rw [hM6]
  exact this.set (by have:=k3.next; omega) _
 simp [g5B5,g5R,g5B1,hix0,ln,show 1 ≤ N by omega,hs0,nR1]
 rw [← hM6]
 refine Aan 23 N (fun i s' m' => ∃ st:List Int × Int,flowL 0 (L.take i) (0 :: List.replicate (N - 1) (-1),0) = some st ∧ s'.at 6 = int st.2 ∧ has m' R (ints st.1) ∧ KpX (fun j => j = R) M6 m') (by simp) (by omega) ⟨(0 :: List.replicate (N - 1) (-1),0),by simp [flowL],by simp,⟨by omega,_,g6R⟩,.refl _ _⟩ ?_
 rintro i s' m' hi e23 ⟨st,hst,e6,hR,hk⟩ hsame hw Q' hn he
 have e5:s'.at 5 = .ptr B5 0:=(hsame 5 (by kernel_rfl)).trans (by simp)
 have e7:s'.at 7 = .fn (.func 82) [] [.ptr m.next 0,.ptr B5 0]:=(hsame 7 (by kernel_rfl)).trans (by simp)
 have e21:s'.at 21 = .lst (inss L):=(hsame 21 (by kernel_rfl)).trans (by simp)
 have e22:s'.at 22 = int N:=(hsame 22 (by kernel_rfl)).trans (by simp)
 clear hsame
 have hlen:st.1.length = N:=by rw [Al6 _ _ _ _ hst]; simp; omega
 have hB1':has m' m.next [.lst (inss L)]:=has.kept (⟨by omega,_,g6B1⟩:has M6 m.next [.lst (inss L)]) hk nR1
 have hB5':has m' B5 [.sl R 0 N 1 false (some N)]:=has.kept (⟨by omega,_,g6B5⟩:has M6 B5 [.sl R 0 N 1 false (some N)]) hk nR5
 have hkn:=hk.next
 have bad:∀ (M9:Mem),flowL 0 L (0 :: List.replicate (N - 1) (-1),0) = none → KpX (fun j => j = R) M6 M9 → AV.tup [.lst [],int 0,.sc (.bool false)] = flowR L ∧ Kp m M9:=by
  intro M9 h1 h2
  have hr:flowR L = .tup [.lst [],int 0,.sc (.bool false)]:=by rw [flowR,flowM,← hN,h1]
  rw [hr]
  exact ⟨rfl,Aek (.of h2) k06 fun j e => by have e:j = R:=e; omega⟩
 by_cases hlt:i < N
 rotate_left
 ·have hge:i = N:=by omega
  subst hge
  simp [e23,e22]
  refine he _ _ _ (by simp) ?_
  obtain ⟨_,wB5,gB5'⟩:=id hB5'
  obtain ⟨_,wR',gR'⟩:=id hR
  simp [e5,gB5',e6]
  have fz:=Ado (m:=m') (id:=R) (k:=1) (ag:=false) (cap:=some i) (ys:=ints st.1) (v:=wR') (f:=false) rfl (by rw [Ahk]; exact gR') (Ao0 _) (Asg _)
  rw [Adj,hlen] at fz
  rw [fz]
  have htk:L.take i = L:=List.take_of_length_le (by omega)
  rw [htk] at hst
  have hr:flowR L = .tup [.lst (ints st.1),int st.2,.sc (.bool true)]:=by rw [flowR,flowM,← hN,hst]
  rw [hr]
  exact ⟨rfl,(Aek (.of hk) k06 fun j e => by have e:j = R:=e; omega).mark (by omega) _ _⟩
 obtain ⟨x,hx⟩:∃ x,L[i]? = some x:=⟨_,List.getElem?_eq_getElem (by omega)⟩
 obtain ⟨f1,f2⟩:=Awv hst hx
 have ok:=hok x (List.mem_of_getElem? hx)
 have hop:=ok.op
 have hxi:=Anh hx
 have h80:∀ M,EH Tryz.prog cc (.func 80) [int x.1] M (.tup [opA x.1,.sc (.bool true)]) M:=fun M => by
  have:=g80 x.1 M
  rwa [opR,if_neg (by omega)] at this
 have h83:=g83i x ok
 obtain ⟨y,hy⟩:∃ y,st.1[i]? = some y:=⟨_,List.getElem?_eq_getElem (by omega)⟩
 have hyd:st.1.getD i (-1) = y:=by simp [List.getD_eq_getElem?_getD,hy]
 have hcell:(ints st.1)[i]? = some (int y):=by rw [Ao1,hy]; rfl
 have hix:=Aar (P:=Tryz.prog) (q:=.i64) (ag:=false) (c:=some N) (id:=R) (off:=0) (len:=N) (i:=i) Tryz.underlying58 Acw hlt
 simp at hix
 obtain ⟨hRl,wR',gR'⟩:=id hR
 obtain ⟨hB1l,wB1,gB1'⟩:=id hB1'
 obtain ⟨hB5l,wB5,gB5'⟩:=id hB5'
 obtain ⟨M7,hM7⟩:∃ M7,M7 = (m'.new [int 0,int 0,int 0] false).set m'.next [int x.1,int x.2.1,int x.2.2]:=⟨_,rfl⟩
 have k7:Kp m' M7:=by rw [hM7]; simp
 have g7:M7.get m'.next = some (.cells [int x.1,int x.2.1,int x.2.2] false (m'.clock + 2)):=by rw [hM7]; simp
 have n7:M7.next = m'.next + 1:=by rw [hM7]; simp
 simp [e23,e22,hlt,e21,hxi]
 rw [← hM7]
 obtain ⟨M8,hM8⟩:∃ M8,M8 = (M7.new [strS [],int 0,int 0,int 0,.sc (.bool false),.sc (.bool false),.sc (.bool false)] false).set M7.next [strS (opN x.1),int (opM x.1).a,int (opM x.1).needs,int (opM x.1).leaves,.sc (.bool (opM x.1).plusA),.sc (.bool (opM x.1).plusB),.sc (.bool (opM x.1).ends)]:=⟨_,rfl⟩
 have k8:Kp M7 M8:=by rw [hM8]; simp
 have g8:M8.get M7.next = some (.cells [strS (opN x.1),int (opM x.1).a,int (opM x.1).needs,int (opM x.1).leaves,.sc (.bool (opM x.1).plusA),.sc (.bool (opM x.1).plusB),.sc (.bool (opM x.1).ends)] false (M7.clock + 2)):=by rw [hM8]; simp
 have n8:M8.next = m'.next + 2:=by rw [hM8]; simp [n7]
 have g8x:=(k8.get m'.next (by omega)).trans g7
 have g8R:=(k8.get R (by omega)).trans ((k7.get R hRl).trans gR')
 have g8B1:=(k8.get m.next (by omega)).trans ((k7.get m.next hB1l).trans gB1')
 have g8B5:=(k8.get B5 (by omega)).trans ((k7.get B5 hB5l).trans gB5')
 have oag:AV.agg [strS (opN x.1),int (opM x.1).a,int (opM x.1).needs,int (opM x.1).leaves,.sc (.bool (opM x.1).plusA),.sc (.bool (opM x.1).plusB),.sc (.bool (opM x.1).ends)] = opA x.1:=Eq.trans rfl rfl
 have c8:KpX (fun j => j = R) M6 M8:=(hk.trans (.of k7)).trans (.of k8)
 simp [g7,(h80 _).go]
 rw [← hM8]
 simp [e5,g8B5,g8R,hix,hcell,g8,g8x,Ao2,oag,h83.go,e6,amax2]
 have nxt:∀ (s9:Sl) (M9:Mem) (st':List Int × Int),flow1 i x st = some st' → KpX (fun j => j = R) M6 M9 → has M9 R (ints st'.1) → s9.at 23 = int ((i:Int) + 1) → s9.at 6 = int st'.2 → Q' .normal s9 M9:=fun s9 M9 st' h1 h2 h3 h4 h5 => hn s9 M9 hlt h4 ⟨st',f2 st' h1,h5,h3,h2⟩
 have hR8:has M8 R (ints st.1):=⟨by omega,_,g8R⟩
 have hwn:IntKind.i64.wrap (y + IntKind.i64.wrap ((opM x.1).leaves - needM x)) = nextM y x:=by
  rw [Aus,nextM]
  congr 1
  omega
 by_cases hA:y < needM x
 ·have hf:flow1 i x st = none:=by rw [flow1,hyd,if_pos (.inl hA)]
  simp [hA]
  refine he _ _ _ (by simp) ?_
  simp
  exact bad _ (f1 hf) c8
 cases hE:(opM x.1).ends with
 | true =>
  by_cases hB:needM x < y
  ·have hf:flow1 i x st = none:=by rw [flow1,hyd,if_pos (.inr ⟨hE,hB⟩)]
   simp [hA,g8,hE,hB]
   refine he _ _ _ (by simp) ?_
   simp
   exact bad _ (f1 hf) c8
  ·have hf:flow1 i x st = some (st.1,max st.2 y):=by rw [flow1,hyd,if_neg (by rintro (q | q); exact hA q; exact hB q.2),if_pos hE]
   simp [hA,g8,hE,hB,e23,hw]
   exact nxt _ _ _ hf c8 hR8 (by simp) (by simp)
 | false =>
  simp [hA,g8,hE,undefV,undef,hwn,amax2]
  have hflow:∀ l1,(if (opM x.1).a = 5 then reachM st.1 x.2.1 (nextM y x) else some st.1) = some l1 → (x.1 = 10 → flow1 i x st = some (l1,max st.2 (max y (nextM y x)))) ∧ (x.1 ≠ 10 → flow1 i x st = match reachM l1 (i + 1) (nextM y x) with | none => none | some l2 => some (l2,max st.2 (max y (nextM y x)))):=by
   intro l1 h
   have e0:max (max st.2 y) (nextM y x) = max st.2 (max y (nextM y x)):=by omega
   refine ⟨fun q => ?_,fun q => ?_⟩
   ·rw [flow1,hyd,if_neg (by rintro (a | a); exact hA a; rw [hE] at a; cases a.1),if_neg (by rw [hE]; simp),h]
    simp [q,e0]
   ·rw [flow1,hyd,if_neg (by rintro (a | a); exact hA a; rw [hE] at a; cases a.1),if_neg (by rw [hE]; simp),h]
    simp [q,e0]
    cases reachM l1 (i + 1) (nextM y x) <;> rfl
  have hflow0:(if (opM x.1).a = 5 then reachM st.1 x.2.1 (nextM y x) else some st.1) = none → flow1 i x st = none:=by
   intro h
   rw [flow1,hyd,if_neg (by rintro (a | a); exact hA a; rw [hE] at a; cases a.1),if_neg (by rw [hE]; simp),h]
  have hB1_8:has M8 m.next [.lst (inss L)]:=⟨by omega,_,g8B1⟩
  have hB5_8:has M8 B5 [.sl R 0 N 1 false (some N)]:=⟨by omega,_,g8B5⟩
  by_cases h5:(opM x.1).a = 5
  ·rw [if_pos h5] at hflow hflow0
   simp [h5,e7,g8x]
   refine Aac (g82 (p:=x.2.1) (v:=nextM y x) hB1_8 hB5_8 hR8 hlen hN.symm (ok.place h5)) ?_
   intro r m9 h9
   cases hq:reachM st.1 x.2.1 (nextM y x) with
   | none =>
    rw [hq] at h9
    obtain ⟨rfl,k9⟩:=h9
    simp [undefV,undef]
    refine he _ _ _ (by simp) ?_
    simp
    exact bad _ (f1 (hflow0 hq)) (c8.trans (.of k9))
   | some l1 =>
    rw [hq] at h9
    obtain ⟨rfl,k9,hR9⟩:=h9
    have c9:=c8.trans k9
    have n9:=k9.next
    have nx:m'.next ≠ R:=by omega
    have g9x:=(k9.get m'.next (by omega) nx).trans g8x
    by_cases h10:x.1 = 10
    ·simp [g9x,h10,undefV,undef,e23,hw]
     exact nxt _ _ _ ((hflow l1 hq).1 h10) c9 hR9 (by simp) (by simp)
    ·simp [g9x,h10,e7,hw]
     refine Aac (g82 (p:=(i:Int) + 1) (v:=nextM y x) (hB1_8.kept k9 nR1) (hB5_8.kept k9 nR5) hR9 (by rw [(Ac6 hq).1,hlen]) hN.symm (by omega)) ?_
     intro r m10 h10'
     cases hq2:reachM l1 ((i:Int) + 1) (nextM y x) with
     | none =>
      rw [hq2] at h10'
      obtain ⟨rfl,k10⟩:=h10'
      have hf:=(hflow l1 hq).2 h10
      rw [hq2] at hf
      simp
      refine he _ _ _ (by simp) ?_
      simp
      exact bad _ (f1 hf) (c9.trans (.of k10))
     | some l2 =>
      rw [hq2] at h10'
      obtain ⟨rfl,k10,hR10⟩:=h10'
      have hf:=(hflow l1 hq).2 h10
      rw [hq2] at hf
      simp [e23,hw]
      exact nxt _ _ _ hf (c9.trans k10) hR10 (by simp) (by simp)
  ·rw [if_neg h5] at hflow hflow0
   have h10:x.1 ≠ 10:=fun q => h5 (by rw [q]; rfl)
   simp [h5,g8x,h10,e7,hw,undefV,undef]
   refine Aac (g82 (p:=(i:Int) + 1) (v:=nextM y x) hB1_8 hB5_8 hR8 hlen hN.symm (by omega)) ?_
   intro r m10 h10'
   cases hq2:reachM st.1 ((i:Int) + 1) (nextM y x) with
   | none =>
    rw [hq2] at h10'
    obtain ⟨rfl,k10⟩:=h10'
    have hf:=(hflow st.1 rfl).2 h10
    rw [hq2] at hf
    simp
    refine he _ _ _ (by simp) ?_
    simp
    exact bad _ (f1 hf) (c8.trans (.of k10))
   | some l2 =>
    rw [hq2] at h10'
    obtain ⟨rfl,k10,hR10⟩:=h10'
    have hf:=(hflow st.1 rfl).2 h10
    rw [hq2] at hf
    simp [e23,hw]
    exact nxt _ _ _ hf (c8.trans k10) hR10 (by simp) (by simp)
theorem c56 (p:PrM) (c:CoM) (i:Nat) (x:InsM) (hx:c.ins[i]? = some x) (hlen:c.ins.length ≤ 4096):Gives Tryz.prog cc 56 [prgA p,codA c,int i] (.sc (.bool (operM p c i x))):=by
 have hxi:=Anh hx
 have hw:IntKind.i64.wrap ((i:Int) + 1) = (i:Int) + 1:=by
  have:=(List.getElem?_eq_some_iff.1 hx).1
  exact IntWalk.i64_in _ (by omega)
 have h80:=g80 x.1
 by_cases hr:x.1 < 1 ∨ 17 ≤ x.1
 ·rw [opR,if_pos hr] at h80
  have ho:operM p c i x = false:=by rw [operM,if_pos hr]
  rw [ho]
  refine Aaf Tryz.func56 rfl rfl rfl rfl (by simp) (by simp [Tryz.f56]) (by simp [Tryz.f56]) fun m => ?_
  simp [Tryz.f56,show cc.keepRes 56 = false from rfl,hxi,(h80 _).go,opZ]
 ·rw [opR,if_neg hr] at h80
  have hs:=Alh x.1
  obtain ⟨lo,hi,hb⟩:∃ lo hi,bndM p c i (opM x.1).a = (lo,hi):=⟨_,_,rfl⟩
  obtain ⟨k,hk⟩:∃ k,k = (opM x.1).a.toNat * 2:=⟨_,rfl⟩
  have hcase:(opM x.1).a = 0 ∨ (opM x.1).a = 1 ∨ (opM x.1).a = 2 ∨ (opM x.1).a = 3 ∨ (opM x.1).a = 4 ∨ (opM x.1).a = 5 ∨ (opM x.1).a = 6 ∨ (opM x.1).a = 7:=by omega
  have hia:∀ B,aindexAddr Tryz.prog 154 (.ptr B 0) (int (opM x.1).a) = some (.ptr B k):=by
   intro B
   rw [hk]
   rcases hcase with q | q | q | q | q | q | q | q <;> (rw [q]; rfl)
  have hd:([int 0,int 1,int 0,int p.consts.length,int 0,int c.params,int 0,int c.caps,int 0,int p.names.length,int ((i:Int) + 1),int c.ins.length,int 1,int p.codes.length,int 0,int 33].drop k).take 2 = [int lo,int hi]:=by
   rw [hk]
   rcases hcase with q | q | q | q | q | q | q | q <;> (rw [q] at hb ⊢; simp [bndM] at hb; obtain ⟨rfl,rfl⟩:=hb; rfl)
  have hk16:k + 2 ≤ 16:=by omega
  have h153a:∀ B,aindexAddr Tryz.prog 153 (.ptr B 0) (int 0) = some (.ptr B 0):=fun B => rfl
  have h153b:∀ B,aindexAddr Tryz.prog 153 (.ptr B 0) (int 1) = some (.ptr B 1):=fun B => rfl
  have hpb:(opM x.1).plusB = true → (opM x.1).a = 6:=by
   have hc:x.1 = 1 ∨ x.1 = 2 ∨ x.1 = 3 ∨ x.1 = 4 ∨ x.1 = 5 ∨ x.1 = 6 ∨ x.1 = 7 ∨ x.1 = 8 ∨ x.1 = 9 ∨ x.1 = 10 ∨ x.1 = 11 ∨ x.1 = 12 ∨ x.1 = 13 ∨ x.1 = 14 ∨ x.1 = 15 ∨ x.1 = 16:=by omega
   rcases hc with q | q | q | q | q | q | q | q | q | q | q | q | q | q | q | q <;> simp [opM,q]
  have hop:operM p c i x = if x.2.1 < lo ∨ hi ≤ x.2.1 then false else if (opM x.1).plusB = true then decide (x.2.2 = capsAt p.codes x.2.1) else decide (x.2.2 = 0):=by
   rw [operM,if_neg hr,hb]
  rw [hop]
  by_cases h1:x.2.1 < lo
  ·rw [if_pos (.inl h1)]
   refine Aaf Tryz.func56 rfl rfl rfl rfl (by simp) (by simp [Tryz.f56]) (by simp [Tryz.f56]) fun m => ?_
   simp [Tryz.f56,show cc.keepRes 56 = false from rfl,hxi,(h80 _).go,len22,len23,len24,len55,abuild,placesOf,fillAt,hw,hia,hk16,hd,h153a,h153b,h1,undefV,undef]
  by_cases h2:hi ≤ x.2.1
  ·rw [if_pos (.inr h2)]
   refine Aaf Tryz.func56 rfl rfl rfl rfl (by simp) (by simp [Tryz.f56]) (by simp [Tryz.f56]) fun m => ?_
   simp [Tryz.f56,show cc.keepRes 56 = false from rfl,hxi,(h80 _).go,len22,len23,len24,len55,abuild,placesOf,fillAt,hw,hia,hk16,hd,h153a,h153b,h1,h2,undefV,undef]
  rw [if_neg (by omega)]
  cases hB:(opM x.1).plusB with
  | false =>
   refine Aaf Tryz.func56 rfl rfl rfl rfl (by simp) (by simp [Tryz.f56]) (by simp [Tryz.f56]) fun m => ?_
   simp [Tryz.f56,show cc.keepRes 56 = false from rfl,hxi,(h80 _).go,len22,len23,len24,len55,abuild,placesOf,fillAt,hw,hia,hk16,hd,h153a,h153b,h1,h2,undefV,undef,hB]
  | true =>
   rw [hpb hB] at hb
   simp [bndM] at hb
   obtain ⟨y,hy⟩:∃ y,p.codes[x.2.1.toNat]? = some y:=⟨_,List.getElem?_eq_getElem (by omega)⟩
   have hcap:capsAt p.codes x.2.1 = y.caps:=by rw [capsAt,hy]; rfl
   have hyi:=Aet hy
   rw [show ((x.2.1.toNat:Nat):Int) = x.2.1 by omega] at hyi
   rw [hcap]
   refine Aaf Tryz.func56 rfl rfl rfl rfl (by simp) (by simp [Tryz.f56]) (by simp [Tryz.f56]) fun m => ?_
   simp [Tryz.f56,show cc.keepRes 56 = false from rfl,hxi,(h80 _).go,len22,len23,len24,len55,abuild,placesOf,fillAt,hw,hia,hk16,hd,h153a,h153b,h1,h2,undefV,undef,hB]
   refine Aat (by kernel_rfl) (by kernel_rfl) ?_
   simp [hyi]
def i64r (n:Int):Prop:=-2 ^ 63 ≤ n ∧ n < 2 ^ 63
structure CoFit (c:CoM):Prop where
 ins:∀ x ∈ c.ins,i64r x.2.1 ∧ i64r x.2.2
theorem A0y {p:PrM} {c:CoM} {i:Nat} {x:InsM} (h:operM p c i x = true) (h1:i64r x.2.1) (h2:i64r x.2.2):InOk x:=by
 obtain ⟨⟨o1,o2⟩,o3,o4,o5,o6⟩:=Ahc h
 refine ⟨⟨o1,o2⟩,h1,h2,fun q => ?_,fun q => ?_⟩
 ·have ha:(opM x.1).a = 7:=by
   have hc:x.1 = 1 ∨ x.1 = 2 ∨ x.1 = 3 ∨ x.1 = 4 ∨ x.1 = 5 ∨ x.1 = 6 ∨ x.1 = 7 ∨ x.1 = 8 ∨ x.1 = 9 ∨ x.1 = 10 ∨ x.1 = 11 ∨ x.1 = 12 ∨ x.1 = 13 ∨ x.1 = 14 ∨ x.1 = 15 ∨ x.1 = 16:=by omega
   revert q
   rcases hc with q | q | q | q | q | q | q | q | q | q | q | q | q | q | q | q <;> simp [opM,q]
  rw [ha] at o3 o4
  simp [bndM] at o3 o4
  omega
 ·rw [q] at o3
  simp [bndM] at o3
  omega
theorem Ahb {p:PrM} {c:CoM}:∀ (l:List InsM) (i:Nat),opersM p c i l = true ↔ ∀ (j:Nat) x,l[j]? = some x → operM p c (i + j) x = true
 | [],i => by simp [opersM]
 | y :: l,i => by
  rw [opersM,Bool.and_eq_true,Ahb l (i + 1)]
  constructor
  ·rintro ⟨h1,h2⟩ j x hj
   cases j with
   | zero => simp at hj; subst hj; exact h1
   | succ j =>
    have:=h2 j x (by simpa using hj)
    rwa [Nat.add_assoc,Nat.add_comm 1] at this
  ·intro h
   refine ⟨h 0 y (by simp),fun j x hj => ?_⟩
   have:=h (j + 1) x (by simpa using hj)
   rwa [Nat.add_assoc,Nat.add_comm 1]
theorem c40 (p:PrM) (c:CoM) (hf:CoFit c):Gives Tryz.prog cc 40 [prgA p,codA c] (.sc (.bool (goodC p c))):=by
 have w1:=g55 c.params 32
 have w2:=g55 c.rest (min c.params 1)
 have w3:=g55 c.caps 64
 have nil_iff:c.ins = [] ↔ c.ins.length = 0:=List.length_eq_zero_iff.symm
 cases hb1:within2 c.params 32 with
 | false =>
  have hg:goodC p c = false:=by simp [goodC,hb1]
  rw [hg]
  refine Aaf Tryz.func40 rfl rfl rfl rfl (by simp) (by simp [Tryz.f40]) (by simp [Tryz.f40]) fun m => ?_
  simp [Tryz.f40,show cc.keepRes 40 = false from rfl,w1.go,hb1,undefV,undef]
 | true =>
 cases hb2:within2 c.rest (min c.params 1) with
 | false =>
  have hg:goodC p c = false:=by simp [goodC,hb2]
  rw [hg]
  refine Aaf Tryz.func40 rfl rfl rfl rfl (by simp) (by simp [Tryz.f40]) (by simp [Tryz.f40]) fun m => ?_
  simp [Tryz.f40,show cc.keepRes 40 = false from rfl,w1.go,hb1,amin2,w2.go,hb2,undefV,undef]
 | true =>
 cases hb3:within2 c.caps 64 with
 | false =>
  have hg:goodC p c = false:=by simp [goodC,hb3]
  rw [hg]
  refine Aaf Tryz.func40 rfl rfl rfl rfl (by simp) (by simp [Tryz.f40]) (by simp [Tryz.f40]) fun m => ?_
  simp [Tryz.f40,show cc.keepRes 40 = false from rfl,w1.go,hb1,amin2,w2.go,hb2,w3.go,hb3,undefV,undef]
 | true =>
 by_cases hb4:c.ins.length = 0
 ·have hg:goodC p c = false:=by simp [goodC,nil_iff.2 hb4]
  rw [hg]
  refine Aaf Tryz.func40 rfl rfl rfl rfl (by simp) (by simp [Tryz.f40]) (by simp [Tryz.f40]) fun m => ?_
  simp [Tryz.f40,show cc.keepRes 40 = false from rfl,w1.go,hb1,amin2,w2.go,hb2,w3.go,hb3,len55,hb4,undefV,undef]
 by_cases hb5:4096 < c.ins.length
 ·have hg:goodC p c = false:=by simp [goodC,show ¬ c.ins.length ≤ 4096 by omega]
  rw [hg]
  refine Aaf Tryz.func40 rfl rfl rfl rfl (by simp) (by simp [Tryz.f40]) (by simp [Tryz.f40]) fun m => ?_
  simp [Tryz.f40,show cc.keepRes 40 = false from rfl,w1.go,hb1,amin2,w2.go,hb2,w3.go,hb3,len55,hb4,show (4096:Int) < c.ins.length by omega,undefV,undef]
 have hg:goodC p c = (opersM p c 0 c.ins && (match flowM c.ins with
  | none => false
  | some s => decide (s.2 = c.max) && decide (s.2 ≤ 256))):=by
  simp [goodC,hb1,hb2,hb3,nil_iff,hb4,show c.ins.length ≤ 4096 by omega]
  rfl
 rw [hg]
 refine Aaf Tryz.func40 rfl rfl rfl rfl (by simp) (by simp [Tryz.f40]) (by simp [Tryz.f40]) fun m => ?_
 simp only [Tryz.f40,show cc.keepRes 40 = false from rfl]
 obtain ⟨N,hN⟩:∃ N,N = c.ins.length:=⟨_,rfl⟩
 have ln:∀ (R:TypeId) (m:Mem),abuiltin Tryz.prog .len #[55] R [.lst (inss c.ins)] m = some (int N,m):=fun R m => by rw [len55,hN]
 rw [← hN] at hb4 hb5
 simp [w1.go,hb1,amin2,w2.go,hb2,w3.go,hb3,ln,hb4,show ¬ (4096:Int) < N by omega]
 obtain ⟨M2,hM2⟩:∃ M2,M2 = (m.new [.lst (cods p.codes),.lst (encs p.consts),.lst (strs p.names)] false).new [int c.params,int c.rest,int c.caps,int c.max,.lst (inss c.ins)] false:=⟨_,rfl⟩
 have k2:Kp m M2:=by rw [hM2]; simp
 have n2:M2.next = m.next + 2:=by rw [hM2]; simp
 have b0:M2.get m.next = some (.cells [.lst (cods p.codes),.lst (encs p.consts),.lst (strs p.names)] false (m.clock + 1)):=by rw [hM2]; simp
 have b1:M2.get (m.next + 1) = some (.cells [int c.params,int c.rest,int c.caps,int c.max,.lst (inss c.ins)] false (m.clock + 2)):=by rw [hM2]; simp
 rw [← hM2]
 clear hM2
 have ecp:AV.agg [.lst (cods p.codes),.lst (encs p.consts),.lst (strs p.names)] = prgA p:=Eq.trans rfl rfl
 have ecc:AV.agg [int c.params,int c.rest,int c.caps,int c.max,.lst (inss c.ins)] = codA c:=Eq.trans rfl rfl
 refine Aan 43 N (fun i s' m' => Kp M2 m' ∧ ∀ (j:Nat) x,j < i → c.ins[j]? = some x → operM p c j x = true) (by simp) (by omega) ⟨.refl _,by omega⟩ ?_
 rintro i s' m' hi e43 ⟨hk,hall⟩ hsame hw Q' hn he
 have e2:s'.at 2 = .ptr m.next 0:=(hsame 2 (by kernel_rfl)).trans (by simp)
 have e3:s'.at 3 = .ptr (m.next + 1) 0:=(hsame 3 (by kernel_rfl)).trans (by simp)
 have e42:s'.at 42 = int N:=(hsame 42 (by kernel_rfl)).trans (by simp)
 clear hsame
 have b0':=(hk.get m.next (by omega)).trans b0
 have b1':=(hk.get (m.next + 1) (by omega)).trans b1
 by_cases hlt:i < N
 ·obtain ⟨x,hx⟩:∃ x,c.ins[i]? = some x:=⟨_,List.getElem?_eq_getElem (by omega)⟩
  have q56:=c56 p c i x hx (by omega)
  simp [e43,e42,hlt,e2,e3,b0',b1',ecp,ecc,q56.go]
  cases ho:operM p c i x with
  | false =>
   have hf2:opersM p c 0 c.ins = false:=by
    cases hq:opersM p c 0 c.ins with
    | false => rfl
    | true =>
     have:=(Ahb c.ins 0).1 hq i x hx
     rw [Nat.zero_add,ho] at this
     cases this
   simp
   refine he _ _ _ (by simp) ?_
   rw [hf2]
   simp
   exact k2.trans hk
  | true =>
   simp [e43,hw]
   refine hn _ _ hlt (by simp) ⟨hk,fun j y hj hy => ?_⟩
   rcases Nat.lt_or_ge j i with q | q
   ·exact hall j y q hy
   ·have:j = i:=by omega
    subst this
    rw [hx] at hy
    cases hy
    exact ho
 ·have hge:i = N:=by omega
  subst hge
  have hops:opersM p c 0 c.ins = true:=(Ahb c.ins 0).2 fun j x hj => by
   rw [Nat.zero_add]
   exact hall j x (by have:=(List.getElem?_eq_some_iff.1 hj).1; omega) hj
  have hio:∀ x ∈ c.ins,InOk x:=by
   intro x hx
   obtain ⟨j,hj⟩:=List.mem_iff_getElem?.1 hx
   obtain ⟨a,b⟩:=hf.ins x hx
   exact A0y (hall j x (by have:=(List.getElem?_eq_some_iff.1 hj).1; omega) hj) a b
  have q57:=c57 c.ins (by omega) (by omega) hio
  simp [e43,e42]
  refine he _ _ _ (by simp) ?_
  rw [hops]
  cases hfl:flowM c.ins with
  | none =>
   rw [flowR,hfl] at q57
   simp [e3,b1',q57.go,undefV,undef]
   exact k2.trans hk
  | some st =>
   rw [flowR,hfl] at q57
   by_cases h1:st.2 = c.max
   ·simp [e3,b1',q57.go,h1,undefV,undef]
    exact k2.trans hk
   ·simp [e3,b1',q57.go,h1,undefV,undef]
    exact k2.trans hk
end Go.Proofs.YtjgnfadoakonfaaGreat
namespace Go.Proofs.YtjgnfadoakonfaaGreat
set_option maxRecDepth 4000
open Go.V
theorem see43 {J:List Dat → (Nat → Prop) → Mem → Prop} {go':List Dat → Bool} {fs:FuncId} {ca:List AV} (hJ:Sees J go' (.func fs) [] ca) (d:Dat) (hd:d.fits) (h0:chk d = 0) (F:Nat → Prop) (m:Mem) (hJl:J [] F m) :
  wph Tryz.prog cw (.func 60) [enc d,.fn (.func fs) [] ca] m fun v m' => (∃ F',J (vis go' [] (pre d)).1 F' m' ∧ ∀ i,F' i → F i ∨ m.next ≤ i) ∧ KpC F m m':=by
 refine Aah Tryz.func60 rfl rfl (by simp [Tryz.f60]) (by simp [Tryz.f60]) fun Q hQ => ?_
 simp only [Tryz.f60,show cw.keepRes 60 = false from rfl,show cw.keepArgs 60 = false from rfl] at hQ ⊢
 simp [Nat.add_assoc]
 obtain ⟨em,hem⟩:∃ em,em = (((((((((((m.new (enc d).cells false).new [AV.fn (Fn.func fs) [] ca] false).new [int 0] false).new [int 0] false).set (m.next + 2) [int 0]).set (m.next + 3) [int 0]).new [.sc (.bool false)] false).set (m.next + 4) [.sc (.bool false)]).new [.sc .nilFunc] false).set (m.next + 5) [.fn (.func 85) [] [.ptr (m.next + 2) 0,.ptr (m.next + 3) 0,.ptr (m.next + 1) 0,.ptr (m.next + 4) 0,.ptr (m.next + 5) 0]])):=⟨_,rfl⟩
 have hk:Kp m em:=by
  rw [hem]
  exact ((((((((((Kp.new _ _ _).newr _ _).newr _ _).newr _ _).set (by omega) _).set (by omega) _).newr _ _).set (by omega) _).newr _ _).set (by omega) _)
 rw [← hem]
 have hlt:=hJ.lt _ _ _ hJl
 have hn:em.next = m.next + 6:=by rw [hem]; simp
 refine Aac (see58 hJ (m.next + 2) (m.next + 3) (m.next + 1) (m.next + 4) (m.next + 5) (by omega) d.size d (Nat.le_refl _) hd 1 0 0 [] F em ⟨fun h => by have:=hlt _ h; omega,fun h => by have:=hlt _ h; omega,fun h => by have:=hlt _ h; omega,fun h => by have:=hlt _ h; omega,fun h => by have:=hlt _ h; omega⟩ (by omega) (by omega) ⟨⟨by omega,?_⟩,⟨by omega,?_⟩,⟨by omega,?_⟩,⟨by omega,?_⟩,⟨by omega,?_⟩⟩ (hJ.keep _ _ _ _ hJl (.of hk)) (.inl rfl) h0) ?_
 all_goals first
  | (rw [hem]; simp [Nat.add_assoc]; done)
  | skip
 rintro v m1 ⟨rfl,⟨F',hJ',hF'⟩,kc,p',q',st,hpq⟩
 obtain ⟨pl,pv,pe⟩:=st.p
 obtain ⟨ql,qv,qe⟩:=st.q
 simp
 refine Abj (by kernel_rfl) ?_
 simp [pe,qe]
 refine Anp (by kernel_rfl) ?_
 simp
 refine hQ _ _ _ ⟨.inr rfl,_,rfl,?_⟩
 simp only [Bool.false_eq_true,if_false]
 simp [oneOf,fzr]
 refine ⟨⟨F',hJ',fun i hi => (hF' i hi).imp id fun h => by omega⟩,KpC.after hk kc ?_⟩
 rintro i hi (h | h | h | h)
 ·exact h
 all_goals omega
structure Tells (J:List Dat → (Nat → Prop) → Mem → Prop) (go:List Dat → Bool) (lo:Nat):Prop where
 keep:∀ l F m m',J l F m → KpX (fun i => ¬ F i) m m' → J l F m'
 lt:∀ l F m,J l F m → ∀ i,F i → i < m.next
 see:∀ l F m x,J l F m → (l = [] ∨ go l = true) → x.fits → wph Tryz.prog cw (.yield lo) [enc x] m fun v m' => v = .sc (.bool (go (l ++ [x]))) ∧ ∃ F',J (l ++ [x]) F' m' ∧ (∀ i,F' i → F i ∨ m.next ≤ i) ∧ KpC F m m'
def withBox (J:List Dat → (Nat → Prop) → Mem → Prop) (lo yb:Nat) (l:List Dat) (F:Nat → Prop) (m:Mem):Prop:=∃ F0,F = (fun i => F0 i ∨ i = yb) ∧ J l F0 m ∧ ¬ F0 yb ∧ has m yb [.yl lo]
theorem see53 {J:List Dat → (Nat → Prop) → Mem → Prop} {go':List Dat → Bool} {lo yb:Nat} (hJ:Tells J go' lo):Sees (withBox J lo yb) go' (.func 76) [] [.ptr yb 0]:=by
 refine ⟨?_,?_,?_⟩
 ·rintro l F m m' ⟨F0,rfl,a,b,c⟩ k
  exact ⟨F0,rfl,hJ.keep _ _ _ _ a (k.mono fun j _ h => fun h' => h (.inl h')),b,c.kept k (fun h => h (.inr rfl))⟩
 ·rintro l F m ⟨F0,rfl,a,b,c⟩ i (h | rfl)
  ·exact hJ.lt _ _ _ a i h
  ·exact c.1
 rintro l F m x ⟨F0,rfl,a,b,c⟩ hgo hx
 refine Aah Tryz.func76 rfl rfl (by simp [Tryz.f76]) (by simp [Tryz.f76]) fun Q hQ => ?_
 simp only [Tryz.f76,show cw.keepRes 76 = false from rfl,show cw.keepArgs 76 = false from rfl] at hQ ⊢
 obtain ⟨yl,yv,ye⟩:=c
 have yn:yb ≠ m.next:=by omega
 simp
 refine Abj (by kernel_rfl) ?_
 simp [ye,yn,(Ags (g47G x hx)).go]
 have k1:Kp m (m.new (enc x).cells false):=.new _ _ _
 have hlt:=hJ.lt _ _ _ a
 refine Aac (hJ.see l F0 _ x (hJ.keep _ _ _ _ a (.of k1)) hgo hx) ?_
 rintro v m2 ⟨rfl,F',h1,h2,h3⟩
 simp
 refine Aa0 (l:=[(0,2)]) (by kernel_rfl) (?_:List.all _ _ = true) ?_
 ·simp [metAt,metOk,rank,objOf,verKept,Region.wanted,Mem.ver,ye,yn]
 simp
 refine hQ _ _ _ (Aab (.inr rfl) Aaa ?_)
 simp at h2
 refine ⟨rfl,_,⟨F',rfl,h1,fun h => (h2 _ h).elim b fun h => by omega,(show has _ yb [.yl lo] from ⟨by simp; omega,yv,by simp [yn,ye]⟩).kc h3 b⟩,?_,?_⟩
 ·rintro i (h | rfl)
  ·rcases h2 i h with h | h
   ·exact .inl (.inl h)
   ·exact .inr (by omega)
  ·exact .inl (.inr rfl)
 ·exact KpC.after k1 h3 fun i _ h => .inl h
theorem all52 {J:List Dat → (Nat → Prop) → Mem → Prop} {go':List Dat → Bool} {lo db:Nat} (hJ:Tells J go' lo) (d:Dat) (hd:d.fits) (F:Nat → Prop) (m:Mem) (hJl:J [] F m) (hb:has m db (enc d).cells) (hF:¬ F db) :
  wph Tryz.prog cw (.func 75) [.yl lo,.ptr db 0] m fun v m' => (∃ F',J (vis go' [] (if chk d = 0 then pre d else [])).1 F' m' ∧ ∀ i,F' i → F i ∨ m.next ≤ i) ∧ KpC F m m':=by
 refine Aah Tryz.func75 rfl rfl (by simp [Tryz.f75]) (by simp [Tryz.f75]) fun Q hQ => ?_
 simp only [Tryz.f75,show cw.keepRes 75 = false from rfl,show cw.keepArgs 75 = false from rfl] at hQ ⊢
 obtain ⟨bl,bv,be⟩:=hb
 have bn:db ≠ m.next:=by omega
 have hlt:=hJ.lt _ _ _ hJl
 have k1:Kp m (m.new [.yl lo] false):=.new _ _ _
 have hJ1:=hJ.keep _ _ _ _ hJl (.of k1)
 simp [be,bn,(Ags (g14 d hd)).go]
 by_cases h0:chk d = 0
 ·simp [h0,be,bn]
  refine Aac (see43 (see53 (yb:=m.next) hJ) d hd h0 _ _ ⟨F,rfl,hJ1,fun h => by have:=hlt _ h; omega,⟨by simp,m.clock + 1,by simp⟩⟩) ?_
  rintro v m2 ⟨⟨F',⟨F0,rfl,h1,h2,h3⟩,h4⟩,h5⟩
  simp
  refine hQ _ _ _ ⟨.inl rfl,[],rfl,?_⟩
  rw [if_pos h0]
  refine ⟨⟨F0,h1,fun i hi => ?_⟩,KpC.after k1 h5 ?_⟩
  ·rcases h4 i (.inl hi) with (h | rfl) | h
   ·exact .inl h
   ·exact .inr (Nat.le_refl _)
   ·exact .inr (by simp at h; omega)
  ·rintro i hi (h | rfl)
   ·exact h
   ·omega
 ·simp [h0]
  refine hQ _ _ _ ⟨.inl rfl,[],rfl,?_⟩
  rw [if_neg h0]
  exact ⟨⟨F,hJ1,fun i hi => .inl hi⟩,.of (.of k1)⟩
def parts (d:Dat):List Dat:=if chk d = 0 then pre d else []
theorem e30 (d:Dat) (m:Mem):EH Tryz.prog cw (.func 51) [enc d] m (.fn (.func 75) [] [.ptr m.next 0]) (m.new (enc d).cells false):=by
 refine eh_of (Aah Tryz.func51 rfl rfl (by simp [Tryz.f51]) (by simp [Tryz.f51]) fun Q hQ => ?_)
 simp only [Tryz.f51,show cw.keepRes 51 = false from rfl,show cw.keepArgs 51 = false from rfl] at hQ ⊢
 simp
 exact hQ _ _ _ ⟨.inr rfl,_,rfl,by simp [oneOf]⟩
def noM:Dat → Bool | .mk _ _ _ M _ _ => M.isEmpty
def plainM (d:Dat):Bool:=decide (chk d = 0) && (pre d).all noM
def PlJ (lo B:Nat) (c:LCode) (ys:List Dat) (F:Nat → Prop) (m:Mem):Prop :=
 ∃ ver,F = (fun i => i = lo ∨ i = B) ∧ lo < m.next ∧ lo ≠ B ∧ has m B [.sc (.bool false)] ∧ m.loop lo = some (if ys.all noM = true then ⟨.ready,none,c,ver⟩ else ⟨.done,some .ret,c,ver⟩)
theorem A2m {lo B:Nat} {c:LCode} {l:List Dat} {F:Nat → Prop} {m:Mem} (h:PlJ lo B c l F m):∀ i,F i → i < m.next:=by
 obtain ⟨ver,rfl,h1,_,h2,_⟩:=h
 rintro i (rfl | rfl)
 ·exact h1
 ·exact h2.1
theorem Avo {lo B:Nat} {c:LCode} {l:List Dat} {F:Nat → Prop} {m m':Mem} (h:PlJ lo B c l F m) (k:KpX (fun i => ¬ F i) m m'):PlJ lo B c l F m':=by
 obtain ⟨ver,rfl,h1,hn,h2,h7⟩:=h
 refine ⟨ver,rfl,Nat.lt_of_lt_of_le h1 k.next,hn,h2.kept k (by simp),?_⟩
 rw [(k.x lo h1).1]
 exact h7
theorem Aq4:∀ (xs l:List Dat),l.all noM = true → (vis (fun ys => ys.all noM) l xs).1.all noM = (l ++ xs).all noM
 | [],l,h => by simp [vis]
 | x :: xs,l,h => by
  simp only [vis]
  split
  ·rename_i hg
   rw [Aq4 xs (l ++ [x]) hg]
   simp
  ·rename_i hg
   have hf:(l ++ [x]).all noM = false:=by simpa using hg
   rw [hf,show l ++ x :: xs = (l ++ [x]) ++ xs by simp,List.all_append,hf]
   rfl
theorem c34 (d:Dat) (hd:d.fits) (m:Mem):EH Tryz.prog cw (.func 34) [enc d] m (.sc (.bool (plainM d))) m:=by
 have q43:=Ags (g14 d hd)
 refine Aa1 Tryz.func34 rfl rfl rfl rfl (args1:=[enc d]) (m1:=m) (by simp [fzvs]) (by simp) (by simp [Tryz.f34]) (by simp [Tryz.f34]) ?_
 simp only [Tryz.f34,show cw.keepRes 34 = false from rfl]
 obtain ⟨M1,hM1⟩:∃ M1,M1 = ((m.new (enc d).cells false).new [.sc (.bool false)] false):=⟨_,rfl⟩
 have k1:Kp m M1:=by rw [hM1]; simp
 have n1:M1.next = m.next + 2:=by rw [hM1]; simp
 have b0:M1.get m.next = some (.cells (enc d).cells false (m.clock + 1)):=by rw [hM1]; simp
 have b1:M1.get (m.next + 1) = some (.cells [.sc (.bool false)] false (m.clock + 2)):=by rw [hM1]; simp
 simp
 rw [← hM1]
 clear hM1
 simp [b0,q43.go]
 by_cases h0:chk d = 0
 rotate_left
 ·have hp:plainM d = false:=by simp [plainM,h0]
  rw [hp]
  simp [h0,b1]
  exact k1
 simp [h0,b0,(e30 d _).go]
 refine Afd (f:=75) (a:=[]) (b:=[.ptr M1.next 0]) (by simp) (by kernel_rfl) ?_
 simp only [List.nil_append,List.singleton_append]
 generalize hcd:LCode.mk _ _ _ _ _ = c
 obtain ⟨lo,hlo0⟩:∃ lo,lo = (M1.new (enc d).cells false).next:=⟨_,rfl⟩
 have hlo:lo = M1.next + 1:=by rw [hlo0]; simp
 obtain ⟨B,hB⟩:∃ B,B = m.next + 1:=⟨_,rfl⟩
 have T:Tells (PlJ lo B c) (fun ys => ys.all noM) lo:=by
  refine ⟨fun l F m m' h k => Avo h k,fun l F m h => A2m h,?_⟩
  rintro l F m1 x ⟨ver,rfl,h1,hn,h2,h7⟩ hgo hx
  have hle:l.all noM = true:=by
   rcases hgo with rfl | h
   ·simp
   ·exact h
  rw [if_pos hle] at h7
  refine Ad0 h7 (by rw [← hcd]; rfl) ?_
  obtain ⟨bl,bv,be⟩:=h2
  have c1:=congrArg LCode.assign hcd
  have c2:=congrArg LCode.body hcd
  have c3:=congrArg LCode.N hcd
  have c4:=congrArg LCode.s hcd
  have c5:=congrArg LCode.ps hcd
  dsimp only at c1 c2 c3 c4 c5
  simp only [← c1,← c2,← c3,← c4,← c5]
  obtain ⟨K,N,Sx,M,L,Tx⟩:=x
  have nB:B ≠ m1.next:=by omega
  have nlo:lo ≠ m1.next:=by omega
  cases M with
  | nil =>
   simp [Sl.puts,h7,enc]
   obtain ⟨m2,hm2⟩:∃ m2:Mem,m2 = ((((m1.new zeroCells false).set m1.next [int K,int N,.sc (.string ⟨⟨Sx⟩⟩),.lst [],.lst (encs L),.lst (encs Tx)]).setLoop lo .busy none c).setLoop lo .ready none c):=⟨_,rfl⟩
   have hk:KpC (fun i => i = lo) m1 m2:=by
    rw [hm2]
    refine ⟨by simp,fun id hi _ => by have:id ≠ m1.next:=by omega
                                      simp [this],fun id hi hx => by have:id ≠ lo:=hx
                                                                     simp [this]⟩
   have hall:(l ++ [Dat.mk K N Sx [] L Tx]).all noM = true:=by rw [List.all_append,hle]; rfl
   have hl:∃ w,m2.loop lo = some ⟨.ready,none,c,w⟩:=by rw [hm2]; exact ⟨_,by simp; rfl⟩
   rw [← hm2]
   obtain ⟨w2,hl⟩:=hl
   refine ⟨⟨by simpa using hle,rfl⟩,_,⟨w2,rfl,Nat.lt_of_lt_of_le h1 hk.next,hn,⟨Nat.lt_of_lt_of_le bl hk.next,bv,?_⟩,?_⟩,fun i hi => .inl hi,hk.mono fun _ h => .inl h⟩
   ·rw [hk.get B bl (fun e => hn e.symm)]; exact be
   ·rw [hl,if_pos hall]
  | cons k M =>
   rw [← hB]
   simp [Sl.puts,h7,enc,nB,be]
   obtain ⟨m2,hm2⟩:∃ m2:Mem,m2 = (((((m1.new zeroCells false).set m1.next [int K,int N,.sc (.string ⟨⟨Sx⟩⟩),.lst (int k :: M.map int),.lst (encs L),.lst (encs Tx)]).setLoop lo .busy none c).set B [.sc (.bool false)]).setLoop lo .done (some .ret) c):=⟨_,rfl⟩
   have hk:KpC (fun i => i = lo ∨ i = B) m1 m2:=by
    rw [hm2]
    refine ⟨by simp,fun id hi hx => by have a1:id ≠ m1.next:=by omega
                                       have a2:id ≠ B:=fun e => hx (.inr e)
                                       simp [a1,a2],fun id hi hx => by have:id ≠ lo:=fun e => hx (.inl e)
                                                                       simp [this]⟩
   have hall:(l ++ [Dat.mk K N Sx (k :: M) L Tx]).all noM = false:=by rw [List.all_append,hle]; rfl
   have hl:∃ w,m2.loop lo = some ⟨.done,some .ret,c,w⟩:=by rw [hm2]; exact ⟨_,by simp; rfl⟩
   have hb:∃ w,m2.get B = some (.cells [.sc (.bool false)] false w):=by rw [hm2]; exact ⟨_,by simp; rfl⟩
   rw [← hm2]
   obtain ⟨w2,hl⟩:=hl
   refine ⟨fun _ => rfl,_,⟨w2,rfl,Nat.lt_of_lt_of_le h1 hk.next,hn,⟨Nat.lt_of_lt_of_le bl hk.next,hb⟩,?_⟩,fun i hi => .inl hi,hk⟩
   rw [hl,if_neg (by rw [hall]; simp)]
 obtain ⟨M3,hM3⟩:∃ M3,M3 = (M1.new (enc d).cells false).newLoop c:=⟨_,rfl⟩
 have n3:M3.next = M1.next + 2:=by rw [hM3]; simp
 have g3B:M3.get B = some (.cells [.sc (.bool false)] false (m.clock + 2)):=by
  have:B ≠ M1.next:=by omega
  rw [hM3]
  simp [this]
  rw [hB]
  exact b1
 have g3d:∃ w,M3.get M1.next = some (.cells (enc d).cells false w):=by rw [hM3]; exact ⟨_,by simp; rfl⟩
 have g3l:∃ w,M3.loop lo = some ⟨.ready,none,c,w⟩:=by rw [hM3,hlo]; exact ⟨_,by simp; rfl⟩
 obtain ⟨w3,g3l⟩:=g3l
 have k3:Kp m M3:=by
  have hd':Kp m (M1.new (enc d).cells false):=k1.newr _ _
  have nd:(M1.new (enc d).cells false).next = M1.next + 1:=by simp
  rw [hM3]
  refine ⟨by simp; omega,fun id hi => ?_,fun id hi => ?_⟩
  ·have a1:id ≠ M1.next:=by omega
   have a2:id ≠ M1.next + 1:=by omega
   have:=hd'.get id hi
   simp [a1,a2] at this ⊢
   exact this
  ·have a2:id ≠ M1.next + 1:=by omega
   have:=hd'.x id hi
   simp [a2] at this ⊢
   exact this
 rw [← hM3,← hlo0]
 refine Abv (all52 T d hd (fun i => i = lo ∨ i = B) M3 ⟨w3,rfl,by omega,by omega,⟨by omega,_,g3B⟩,by rw [g3l]; rfl⟩ ⟨by omega,g3d⟩ (by omega)) ?_
 rintro v m2 ⟨⟨F',⟨ver,rfl,h1,hn,h2,h7⟩,h8⟩,h9⟩
 have hall:(vis (fun ys => ys.all noM) [] (if chk d = 0 then pre d else [])).1.all noM = (pre d).all noM:=by
  rw [Aq4 _ _ rfl,if_pos h0]
  rfl
 rw [hall] at h7
 obtain ⟨bl,bv,be⟩:=h2
 have kf:Kp m (m2.killLoop lo):=by
  have hb9:=h9.next
  have ho:∀ id,id < m.next → ¬ (id = lo ∨ id = B):=by omega
  refine ⟨by simp; omega,fun id hi => ?_,fun id hi => ?_⟩
  ·have:=h9.get id (by omega) (ho id hi)
   simpa using this.trans (k3.get id hi)
  ·have:=h9.x id (by omega) (ho id hi)
   have a1:id ≠ lo:=by omega
   have k:=k3.x id hi
   simp [a1]
   exact ⟨this.1.trans k.1,this.2.trans k.2⟩
 have gk:(m2.killLoop lo).get B = some (.cells [.sc (.bool false)] false bv):=by simpa using be
 cases hp:(pre d).all noM with
 | true =>
  have hpl:plainM d = true:=by simp only [plainM,h0,hp]; rfl
  rw [hp] at h7
  refine ⟨_,.normal,h7,by simp,rfl,?_⟩
  rw [hpl,← hB]
  simp [gk]
  exact kf.set (by omega) _
 | false =>
  have hpl:plainM d = false:=by simp only [plainM,h0,hp]; rfl
  rw [hp] at h7
  refine ⟨_,.ret,h7,by simp,rfl,?_⟩
  rw [hpl,← hB]
  simp [gk]
  exact kf
end Go.Proofs.YtjgnfadoakonfaaGreat
namespace Go.Proofs.YtjgnfadoakonfaaGreat
set_option maxRecDepth 4000
open Go.V
attribute [local simp] Nat.add_assoc
theorem c34G (d:Dat) (hd:d.fits):Gives Tryz.prog cc 34 [enc d] (.sc (.bool (plainM d))):=fun m0 args0 m hz => Abp rfl (Adx (eh_fz Tryz.func34 rfl rfl rfl hz (by simp [fzvs]) (c34 d hd m)))
section
variable {B:Nat} {m:Mem} {d:Dat}
theorem c36 (hB:has m B (enc d).cells) (hd:d.fits) (x:Dat) (hx:x.fits):EH Tryz.prog cc (.func 36) [enc x,.ptr B 0] m (.sc (.bool (sam x d))) m:=by
 obtain ⟨bl,bv,be⟩:=hB
 have bn:B ≠ m.next:=by omega
 have q:=Akk (g31 x d hx hd)
 refine Aa1 Tryz.func36 rfl rfl rfl rfl (args1:=[enc x,.ptr B 0]) (m1:=m) (by simp [fzvs]) (by simp) (by simp [Tryz.f36]) (by simp [Tryz.f36]) ?_
 simp [Tryz.f36,show cc.keepRes 36 = false from rfl,be,bn,q.go]
theorem Aki {l:List Dat} {i:Nat} {c:Dat} (h:l[i]? = some c):aindexAddr Tryz.prog 23 (.lst (encs l)) (int i) = some ((enc c).cptr 0):=Anu h
theorem c52 (hB:has m B (enc d).cells) (hd:d.fits) (l:List Dat) (hf:∀ x ∈ l,x.fits) (hl:l.length < 2 ^ 21):EH Tryz.prog cc (.func 52) [.lst (encs l),.fn (.func 36) [] [.ptr B 0]] m (int (fi (fun v => sam v d) l)) m:=by
 have ln:=len23 l
 refine Aa1 Tryz.func52 rfl rfl rfl rfl (args1:=[.lst (encs l),.fn (.func 36) [] [.ptr B 0]]) (m1:=m) (by simp [fzvs]) (by simp) (by simp [Tryz.f52]) (by simp [Tryz.f52]) ?_
 simp [Tryz.f52,show cc.keepRes 52 = false from rfl,ln]
 refine Aan 8 l.length (fun i s m' => m' = m ∧ ∀ j v,j < i → l[j]? = some v → sam v d = false) (by simp) (by omega) ⟨rfl,fun _ _ h => by omega⟩ ?_
 rintro i s m' hi e8 ⟨rfl,hno⟩ hs hw Q' hn he
 have e0:s.at 0 = .lst (encs l):=(hs 0 (by kernel_rfl)).trans (by simp)
 have e1:s.at 1 = .fn (.func 36) [] [.ptr B 0]:=(hs 1 (by kernel_rfl)).trans (by simp)
 have e7:s.at 7 = int l.length:=(hs 7 (by kernel_rfl)).trans (by simp)
 clear hs
 simp [e8,e7]
 refine Aak (fun h => ?_) fun h => ?_
 ·have hlt:i < l.length:=by simpa using h
  obtain ⟨v,hv⟩:∃ v,l[i]? = some v:=⟨_,List.getElem?_eq_getElem hlt⟩
  simp [e8,e0,e1,Aki hv,(c36 hB hd v (hf v (List.mem_of_getElem? hv))).go]
  cases hc:sam v d with
  | true =>
   simp
   refine he _ _ _ (by simp) ?_
   simp
   exact (Akg hv (by simp [hc]) hno).symm
  | false =>
   simp [e8,hw]
   refine hn _ _ hlt (by simp) ⟨rfl,fun j v' hj hvj => ?_⟩
   rcases Nat.lt_or_ge j i with h2 | h2
   ·exact hno j v' h2 hvj
   ·obtain rfl:j = i:=by omega
    rw [hv] at hvj
    cases hvj
    simp [hc]
 ·have hge:i = l.length:=by have:=of_decide_eq_false h; omega
  subst hge
  simp
  refine he _ _ _ (by simp) ?_
  simp
  exact (Akh hno).symm
theorem c35 (hB:has m B (enc d).cells) (hd:d.fits) (l:List Dat) (hf:∀ x ∈ l,x.fits) (hl:l.length < 2 ^ 21):EH Tryz.prog cc (.func 35) [.lst (encs l),.fn (.func 36) [] [.ptr B 0]] m (.sc (.bool (l.any fun v => sam v d))) m:=by
 refine Aa1 Tryz.func35 rfl rfl rfl rfl (args1:=[.lst (encs l),.fn (.func 36) [] [.ptr B 0]]) (m1:=m) (by simp [fzvs]) (by simp) (by simp [Tryz.f35]) (by simp [Tryz.f35]) ?_
 simp [Tryz.f35,show cc.keepRes 35 = false from rfl,(c52 hB hd l hf hl).go]
 exact As5 _ _
end
theorem c39 (l:List (List UInt8)) (s0:List UInt8) (hl:l.length < 2 ^ 21):Gives Tryz.prog cc 39 [.lst (strs l),strS s0] (int (fi (fun v => decide (s0 = v)) l)):=by
 have ln:=len24 l
 refine Aaf Tryz.func39 rfl rfl rfl rfl (by simp) (by simp [Tryz.f39]) (by simp [Tryz.f39]) fun m => ?_
 simp [Tryz.f39,show cc.keepRes 39 = false from rfl,ln]
 refine Aan 8 l.length (fun i s m' => m' = m ∧ ∀ j v,j < i → l[j]? = some v → decide (s0 = v) = false) (by simp) (by omega) ⟨rfl,fun _ _ h => by omega⟩ ?_
 rintro i s m' hi e8 ⟨rfl,hno⟩ hs hw Q' hn he
 have e0:s.at 0 = .lst (strs l):=(hs 0 (by kernel_rfl)).trans (by simp)
 have e1:s.at 1 = strS s0:=(hs 1 (by kernel_rfl)).trans (by simp)
 have e7:s.at 7 = int l.length:=(hs 7 (by kernel_rfl)).trans (by simp)
 clear hs
 simp [e8,e7]
 refine Aak (fun h => ?_) fun h => ?_
 ·have hlt:i < l.length:=by simpa using h
  obtain ⟨v,hv⟩:∃ v,l[i]? = some v:=⟨_,List.getElem?_eq_getElem hlt⟩
  simp [e8,e0,e1,Ajr hv]
  by_cases hc:s0 = v
  ·subst hc
   simp
   refine he _ _ _ (by simp) ?_
   simp
   exact (Akg hv (by simp) hno).symm
  ·simp [hc,e8,hw]
   refine hn _ _ hlt (by simp) ⟨rfl,fun j v' hj hvj => ?_⟩
   rcases Nat.lt_or_ge j i with h2 | h2
   ·exact hno j v' h2 hvj
   ·obtain rfl:j = i:=by omega
    rw [hv] at hvj
    cases hvj
    simp [hc]
 ·have hge:i = l.length:=by have:=of_decide_eq_false h; omega
  subst hge
  simp
  refine he _ _ _ (by simp) ?_
  simp
  exact (Akh hno).symm
end Go.Proofs.YtjgnfadoakonfaaGreat
namespace Go.Proofs.YtjgnfadoakonfaaGreat
set_option maxRecDepth 20000
open Go.V
attribute [local simp] Nat.add_assoc
structure PrFit (p:PrM):Prop where
 codes:p.codes.length < 2 ^ 21 ∧ ∀ c ∈ p.codes,CoFit c
 consts:p.consts.length < 2 ^ 21 ∧ ∀ d ∈ p.consts,d.fits
 names:p.names.length < 2 ^ 21 ∧ ∀ s ∈ p.names,s.length < 2 ^ 62
def countsM (p:PrM):Bool:=match p.codes with
 | [] => false
 | c :: _ => decide (p.codes.length ≤ 1024) && (decide (p.consts.length ≤ 1024) && (decide (p.names.length ≤ 1024) && (decide (c.params = 0) && decide (c.caps = 0))))
def constM (p:PrM) (i:Nat) (d:Dat):Bool:=plainM d && !((p.consts.take i).any fun v => sam v d)
def nameM1 (p:PrM) (i:Nat) (s:List UInt8):Bool:=Sym s && decide (fi (fun v => decide (s = v)) p.names = i)
def allAt {α:Type} (f:Nat → α → Bool):Nat → List α → Bool
 | _,[] => true
 | i,x :: l => f i x && allAt f (i + 1) l
theorem Ad6 {α:Type} {f:Nat → α → Bool}:∀ (l:List α) (i:Nat),allAt f i l = true ↔ ∀ (j:Nat) x,l[j]? = some x → f (i + j) x = true
 | [],i => by simp [allAt]
 | y :: l,i => by
  rw [allAt,Bool.and_eq_true,Ad6 l (i + 1)]
  constructor
  ·rintro ⟨h1,h2⟩ j x hj
   cases j with
   | zero => simp at hj; subst hj; exact h1
   | succ j =>
    have:=h2 j x (by simpa using hj)
    rwa [Nat.add_assoc,Nat.add_comm 1] at this
  ·intro h
   refine ⟨h 0 y (by simp),fun j x hj => ?_⟩
   have:=h (j + 1) x (by simpa using hj)
   rwa [Nat.add_assoc,Nat.add_comm 1]
def checkB (p:PrM):Bool:=countsM p && (allAt (constM p) 0 p.consts && (allAt (nameM1 p) 0 p.names && p.codes.all (goodC p)))
def checkM (p:PrM):Int:=if checkB p = true then 0 else 90
theorem Ah2 {α:Type} {f:Nat → α → Bool} {l:List α} {i:Nat} {x:α} (hx:l[i]? = some x) (h:f i x = false):allAt f 0 l = false:=by
 cases hq:allAt f 0 l with
 | false => rfl
 | true =>
  have:=(Ad6 l 0).1 hq i x hx
  rw [Nat.zero_add,h] at this
  cases this
theorem Ajd {p:PrM} {c:CoM} (h:p.codes[0]? = some c):countsM p = true ↔ p.codes.length ≤ 1024 ∧ p.consts.length ≤ 1024 ∧ p.names.length ≤ 1024 ∧ c.params = 0 ∧ c.caps = 0:=by
 unfold countsM
 cases hc:p.codes with
 | nil => rw [hc] at h; simp at h
 | cons d cs =>
  rw [hc] at h
  simp at h
  subst h
  simp
theorem c20 (p:PrM) (hf:PrFit p):Gives Tryz.prog cc 20 [prgA p] (int (checkM p)):=by
 obtain ⟨nC,hC⟩:∃ n,n = p.codes.length:=⟨_,rfl⟩
 obtain ⟨nD,hD⟩:∃ n,n = p.consts.length:=⟨_,rfl⟩
 obtain ⟨nN,hN⟩:∃ n,n = p.names.length:=⟨_,rfl⟩
 have l22:∀ (R:TypeId) (m:Mem),abuiltin Tryz.prog .len #[22] R [.lst (cods p.codes)] m = some (int nC,m):=by rw [hC]; exact len22 p.codes
 have l23:∀ (R:TypeId) (m:Mem),abuiltin Tryz.prog .len #[23] R [.lst (encs p.consts)] m = some (int nD,m):=by rw [hD]; exact len23 p.consts
 have l24:∀ (R:TypeId) (m:Mem),abuiltin Tryz.prog .len #[24] R [.lst (strs p.names)] m = some (int nN,m):=by rw [hN]; exact len24 p.names
 by_cases h0:nC = 0
 ·have hr:checkM p = 90:=by
   have:p.codes = []:=List.length_eq_zero_iff.1 (by omega)
   rw [checkM,if_neg (by simp [checkB,countsM,this])]
  rw [hr]
  refine Aaf Tryz.func20 rfl rfl rfl rfl (by simp) (by simp [Tryz.f20]) (by simp [Tryz.f20]) fun m => ?_
  simp [Tryz.f20,show cc.keepRes 20 = false from rfl,l22,h0,undefV,undef]
 obtain ⟨c,hc⟩:∃ c,p.codes[0]? = some c:=⟨_,List.getElem?_eq_getElem (by omega)⟩
 have ci:=Ajd hc
 rw [← hC,← hD,← hN] at ci
 have hix:aindexAddr Tryz.prog 22 (.lst (cods p.codes)) (int 0) = some ((codA c).cptr 0):=Aet (i:=0) hc
 have bad:¬ (nC ≤ 1024 ∧ nD ≤ 1024 ∧ nN ≤ 1024 ∧ c.params = 0 ∧ c.caps = 0) → checkM p = 90:=by
  intro h
  rw [checkM,if_neg]
  intro hq
  simp only [checkB,Bool.and_eq_true] at hq
  exact h (ci.1 hq.1)
 by_cases h1:1024 < nC
 ·rw [bad (by omega)]
  refine Aaf Tryz.func20 rfl rfl rfl rfl (by simp) (by simp [Tryz.f20]) (by simp [Tryz.f20]) fun m => ?_
  simp [Tryz.f20,show cc.keepRes 20 = false from rfl,l22,h0,show (1024:Int) < nC by omega,undefV,undef]
 by_cases h2:1024 < nD
 ·rw [bad (by omega)]
  refine Aaf Tryz.func20 rfl rfl rfl rfl (by simp) (by simp [Tryz.f20]) (by simp [Tryz.f20]) fun m => ?_
  simp [Tryz.f20,show cc.keepRes 20 = false from rfl,l22,l23,h0,show ¬ (1024:Int) < nC by omega,show (1024:Int) < nD by omega,undefV,undef]
 by_cases h3:1024 < nN
 ·rw [bad (by omega)]
  refine Aaf Tryz.func20 rfl rfl rfl rfl (by simp) (by simp [Tryz.f20]) (by simp [Tryz.f20]) fun m => ?_
  simp [Tryz.f20,show cc.keepRes 20 = false from rfl,l22,l23,l24,h0,show ¬ (1024:Int) < nC by omega,show ¬ (1024:Int) < nD by omega,show (1024:Int) < nN by omega,undefV,undef]
 by_cases h4:c.params = 0
 rotate_left
 ·rw [bad (fun q => h4 q.2.2.2.1)]
  refine Aaf Tryz.func20 rfl rfl rfl rfl (by simp) (by simp [Tryz.f20]) (by simp [Tryz.f20]) fun m => ?_
  simp [Tryz.f20,show cc.keepRes 20 = false from rfl,l22,l23,l24,h0,show ¬ (1024:Int) < nC by omega,show ¬ (1024:Int) < nD by omega,show ¬ (1024:Int) < nN by omega,hix,h4,undefV,undef]
 by_cases h5:c.caps = 0
 rotate_left
 ·rw [bad (fun q => h5 q.2.2.2.2)]
  refine Aaf Tryz.func20 rfl rfl rfl rfl (by simp) (by simp [Tryz.f20]) (by simp [Tryz.f20]) fun m => ?_
  simp [Tryz.f20,show cc.keepRes 20 = false from rfl,l22,l23,l24,h0,show ¬ (1024:Int) < nC by omega,show ¬ (1024:Int) < nD by omega,show ¬ (1024:Int) < nN by omega,hix,h4,h5,undefV,undef]
 have hcm:countsM p = true:=ci.2 ⟨by omega,by omega,by omega,h4,h5⟩
 refine Aaf Tryz.func20 rfl rfl rfl rfl (by simp) (by simp [Tryz.f20]) (by simp [Tryz.f20]) fun m => ?_
 simp only [Tryz.f20,show cc.keepRes 20 = false from rfl]
 obtain ⟨M1,hM1⟩:∃ M1,M1 = m.new [.lst (cods p.codes),.lst (encs p.consts),.lst (strs p.names)] false:=⟨_,rfl⟩
 have k1:Kp m M1:=by rw [hM1]; simp
 have n1:M1.next = m.next + 1:=by rw [hM1]; simp
 have b1:M1.get m.next = some (.cells [.lst (cods p.codes),.lst (encs p.consts),.lst (strs p.names)] false (m.clock + 1)):=by rw [hM1]; simp
 simp [l22,l23,l24,h0,show ¬ (1024:Int) < nC by omega,show ¬ (1024:Int) < nD by omega,show ¬ (1024:Int) < nN by omega,hix,h4,h5]
 rw [← hM1]
 clear hM1
 refine Aan 50 nD (fun i s' m' => Kp M1 m' ∧ ∀ (j:Nat) d,j < i → p.consts[j]? = some d → constM p j d = true) (by simp) (by omega) ⟨.refl _,by omega⟩ ?_
 rintro i s' m' hi e50 ⟨hk,hall⟩ hsame hw Q' hn he
 have e1:s'.at 1 = .ptr m.next 0:=(hsame 1 (by kernel_rfl)).trans (by simp)
 have e48:s'.at 48 = .lst (encs p.consts):=(hsame 48 (by kernel_rfl)).trans (by simp)
 have e49:s'.at 49 = int nD:=(hsame 49 (by kernel_rfl)).trans (by simp)
 clear hsame
 have b1':=(hk.get m.next (by omega)).trans b1
 by_cases hlt:i < nD
 ·obtain ⟨d,hd⟩:∃ d,p.consts[i]? = some d:=⟨_,List.getElem?_eq_getElem (by omega)⟩
  have hdf:=hf.consts.2 d (List.mem_of_getElem? hd)
  obtain ⟨M2,hM2⟩:∃ M2,M2 = (m'.new zeroCells false).set m'.next (enc d).cells:=⟨_,rfl⟩
  have k2:Kp m' M2:=by rw [hM2]; simp
  have g2:M2.get m'.next = some (.cells (enc d).cells false (m'.clock + 2)):=by rw [hM2]; simp
  have n2:M2.next = m'.next + 1:=by rw [hM2]; simp
  have b12:=(k2.get m.next (by have:=hk.next; omega)).trans b1'
  have q34:=c34G d hdf
  have hfail:constM p i d = false → checkM p = 90:=by
   intro h
   rw [checkM,if_neg]
   intro hq
   simp only [checkB,Bool.and_eq_true] at hq
   rw [Ah2 hd h] at hq
   cases hq.2.1
  have hsl:aslice Tryz.prog 23 (.lst (encs p.consts)) none (some (int i)) none = some (.lst (encs (p.consts.take i))):=by
   have:=Acl (P:=Tryz.prog) (T:=23) (xs:=encs p.consts) (k:=6) (lo:=none) (hi:=some (int (i:Int))) (l:=none) (h:=some i) Tryz.underlying23 Abe Aa3 (Abg (n:=i)) (by simp) (by simp; omega) (Abs _)
   rw [this]
   simp [Aa9,List.map_take]
  have q35:=c35 (m:=M2) (B:=m'.next) (d:=d) ⟨by omega,_,g2⟩ hdf (p.consts.take i) (fun x hx => hf.consts.2 x (List.mem_of_mem_take hx)) (by simp; omega)
  simp [e50,e49,hlt,e48,Aki hd]
  rw [← hM2]
  clear hM2
  simp [q34.go,e1,b12]
  cases hp:plainM d with
  | false =>
   have h90:=hfail (by simp [constM,hp])
   simp [undefV,undef]
   refine he _ _ _ (by simp) ?_
   rw [h90]
   simp
   exact (k1.trans hk).trans k2
  | true =>
   simp [e1,b12,hsl,q35.go]
   cases hq:(p.consts.take i).any fun v => sam v d with
   | true =>
    have h90:=hfail (by simp only [constM,hp,hq]; rfl)
    simp
    refine he _ _ _ (by simp) ?_
    rw [h90]
    simp
    exact (k1.trans hk).trans k2
   | false =>
    simp [e50,hw]
    refine hn _ _ hlt (by simp) ⟨hk.trans k2,fun j d' hj hd' => ?_⟩
    rcases Nat.lt_or_ge j i with h2 | h2
    ·exact hall j d' h2 hd'
    ·obtain rfl:j = i:=by omega
     rw [hd] at hd'
     cases hd'
     simp only [constM,hp,hq]
     rfl
 have hge:i = nD:=by omega
 subst hge
 have hcon:allAt (constM p) 0 p.consts = true:=(Ad6 p.consts 0).2 fun j d hj => by
  rw [Nat.zero_add]
  exact hall j d (by have:=(List.getElem?_eq_some_iff.1 hj).1; omega) hj
 simp [e50,e49]
 refine he _ _ _ (by simp) ?_
 clear he hn
 simp [e1,b1',l24]
 refine Aan 70 nN (fun i s' m' => Kp M1 m' ∧ ∀ (j:Nat) d,j < i → p.names[j]? = some d → nameM1 p j d = true) (by simp) (by omega) ⟨hk,by omega⟩ ?_
 clear e48 e49 e50 b1' hk hall hi hw
 rintro i s' m' hi e70 ⟨hk,hall⟩ hsame hw Q' hn he
 have f1:s'.at 1 = .ptr m.next 0:=(hsame 1 (by kernel_rfl)).trans (by simp [e1])
 have f68:s'.at 68 = .lst (strs p.names):=(hsame 68 (by kernel_rfl)).trans (by simp)
 have f69:s'.at 69 = int nN:=(hsame 69 (by kernel_rfl)).trans (by simp)
 clear hsame e1
 have b1':=(hk.get m.next (by omega)).trans b1
 by_cases hlt:i < nN
 ·obtain ⟨d,hd⟩:∃ d,p.names[i]? = some d:=⟨_,List.getElem?_eq_getElem (by omega)⟩
  have hdf:=hf.names.2 d (List.mem_of_getElem? hd)
  have q38:=Akk (g12 d hdf)
  have q39:=c39 p.names d (by omega)
  have hfail:nameM1 p i d = false → checkM p = 90:=by
   intro h
   rw [checkM,if_neg]
   intro hq
   simp only [checkB,Bool.and_eq_true] at hq
   rw [Ah2 hd h] at hq
   cases hq.2.2.1
  simp [e70,f69,hlt,f68,Ajr hd,q38.go]
  cases hp:Sym d with
  | false =>
   have h90:=hfail (by simp [nameM1,hp])
   simp [undefV,undef]
   refine he _ _ _ (by simp) ?_
   rw [h90]
   simp
   exact k1.trans hk
  | true =>
   simp [f1,b1',q39.go]
   by_cases hq:fi (fun v => decide (d = v)) p.names = i
   ·simp [hq,e70,hw]
    refine hn _ _ hlt (by simp) ⟨hk,fun j d' hj hd' => ?_⟩
    rcases Nat.lt_or_ge j i with h2 | h2
    ·exact hall j d' h2 hd'
    ·obtain rfl:j = i:=by omega
     rw [hd] at hd'
     cases hd'
     simp only [nameM1,hp,hq]
     simp
   ·have h90:=hfail (by simp [nameM1,hq])
    simp [hq]
    refine he _ _ _ (by simp) ?_
    rw [h90]
    simp
    exact k1.trans hk
 have hge:i = nN:=by omega
 subst hge
 have hnam:allAt (nameM1 p) 0 p.names = true:=(Ad6 p.names 0).2 fun j d hj => by
  rw [Nat.zero_add]
  exact hall j d (by have:=(List.getElem?_eq_some_iff.1 hj).1; omega) hj
 simp [e70,f69]
 refine he _ _ _ (by simp) ?_
 clear he hn
 simp [f1,b1',l22]
 refine Aan 90 nC (fun i s' m' => Kp M1 m' ∧ ∀ (j:Nat) c,j < i → p.codes[j]? = some c → goodC p c = true) (by simp) (by omega) ⟨hk,by omega⟩ ?_
 clear f68 f69 e70 b1' hk hall hi hw
 rintro i s' m' hi e90 ⟨hk,hall⟩ hsame hw Q' hn he
 have e1:s'.at 1 = .ptr m.next 0:=(hsame 1 (by kernel_rfl)).trans (by simp [f1])
 have f88:s'.at 88 = .lst (cods p.codes):=(hsame 88 (by kernel_rfl)).trans (by simp)
 have f89:s'.at 89 = int nC:=(hsame 89 (by kernel_rfl)).trans (by simp)
 clear hsame f1
 have b1':=(hk.get m.next (by omega)).trans b1
 by_cases hlt:i < nC
 ·obtain ⟨d,hd⟩:∃ d,p.codes[i]? = some d:=⟨_,List.getElem?_eq_getElem (by omega)⟩
  have hdf:=hf.codes.2 d (List.mem_of_getElem? hd)
  have q40:=c40 p d hdf
  obtain ⟨M2,hM2⟩:∃ M2,M2 = (m'.new [int 0,int 0,int 0,int 0,.emp 0] false).set m'.next [int d.params,int d.rest,int d.caps,int d.max,.lst (inss d.ins)]:=⟨_,rfl⟩
  have k2:Kp m' M2:=by rw [hM2]; simp
  have g2:M2.get m'.next = some (.cells [int d.params,int d.rest,int d.caps,int d.max,.lst (inss d.ins)] false (m'.clock + 2)):=by rw [hM2]; simp
  have b12:=(k2.get m.next (by have:=hk.next; omega)).trans b1'
  simp [e90,f89,hlt,f88,Aet hd]
  rw [← hM2]
  clear hM2
  simp [e1,b12,g2,Adh,Ao7,q40.go]
  cases hp:goodC p d with
  | false =>
   have h90:checkM p = 90:=by
    rw [checkM,if_neg]
    intro hq
    simp only [checkB,Bool.and_eq_true,List.all_eq_true] at hq
    rw [hq.2.2.2 d (List.mem_of_getElem? hd)] at hp
    cases hp
   simp
   refine he _ _ _ (by simp) ?_
   rw [h90]
   simp
   exact (k1.trans hk).trans k2
  | true =>
   simp [e90,hw]
   refine hn _ _ hlt (by simp) ⟨hk.trans k2,fun j d' hj hd' => ?_⟩
   rcases Nat.lt_or_ge j i with h2 | h2
   ·exact hall j d' h2 hd'
   ·obtain rfl:j = i:=by omega
    rw [hd] at hd'
    cases hd'
    exact hp
 have hge:i = nC:=by omega
 subst hge
 have hgo:p.codes.all (goodC p) = true:=List.all_eq_true.2 fun c hc => by
  obtain ⟨j,hj⟩:=List.mem_iff_getElem?.1 hc
  exact hall j c (by have:=(List.getElem?_eq_some_iff.1 hj).1; omega) hj
 have h00:checkM p = 0:=by rw [checkM,if_pos (by simp only [checkB,hcm,hcon,hnam,hgo]; rfl)]
 simp [e90,f89]
 refine he _ _ _ (by simp) ?_
 rw [h00]
 simp
 exact k1.trans hk
end Go.Proofs.YtjgnfadoakonfaaGreat
namespace Go.Proofs.YtjgnfadoakonfaaGreat
set_option maxRecDepth 8000
open Go.V
attribute [local simp] Nat.add_assoc
theorem Av4 (l:List InsM):∀ y ∈ inss l,y.cells.length = 3 ∧ (if true then AV.agg y.cells = y else y.cells = [y]):=by
 intro y hy
 obtain ⟨x,_,rfl⟩:=List.mem_map.1 hy
 exact ⟨rfl,rfl⟩
theorem Au5 (l:List (List UInt8)):∀ y ∈ strs l,y.cells.length = 1 ∧ (if false then AV.agg y.cells = y else y.cells = [y]):=by
 intro y hy
 obtain ⟨x,_,rfl⟩:=List.mem_map.1 hy
 simp
theorem Ayh (l:List CoM):∀ y ∈ cods l,y.cells.length = 5 ∧ (if true then AV.agg y.cells = y else y.cells = [y]):=by
 intro y hy
 obtain ⟨x,_,rfl⟩:=List.mem_map.1 hy
 exact ⟨rfl,rfl⟩
@[simp] theorem A4g (l:List (List UInt8)) (m:Mem):fzvs m (strs l) = (strs l,m):=by
 induction l with
 | nil => rfl
 | cons x l ih =>
  have:fzv m (strS x) = (strS x,m):=rfl
  rw [strs,List.map_cons,fzvs,this,← strs]
  simp [ih]
@[simp] theorem A4n (l:List InsM) (m:Mem):fzvs m (inss l) = (inss l,m):=by
 induction l with
 | nil => rfl
 | cons x l ih =>
  rw [inss,List.map_cons,fzvs,Av6,← inss]
  simp [ih]
theorem c31 {m:Mem} (s:List (List UInt8)) (hb:s.length < 2 ^ 21):EH Tryz.prog cc (.func 31) [.lst (strs s)] m (.lst (strs s)) m:=by
 refine Afi rfl (by simp) ?_
 intro x0 l0 e0
 cases s with
 | nil => cases e0
 | cons x s =>
 refine ⟨(m.new [] false).new (flat (strs (x :: s))) false,.inr ⟨1,false,m.next + 1,m.clock + 2,eh_of ?_,by simp,by omega,by simp,rfl,Au5 _,Aiy _⟩⟩
 refine Aah Tryz.func31 rfl rfl (by simp [Tryz.f31]) (by simp [Tryz.f31]) fun Q hQ => ?_
 simp only [Tryz.f31,show cf0.keepRes 31 = true from rfl,show cf0.keepArgs 31 = true from rfl] at hQ ⊢
 have e1:nilTest Tryz.prog 24 (.lst (strs (x :: s))) (.emp 0) = some false:=Ac0 (T:=24) Tryz.underlying24
 have e2:=Acu (m:=m.new [] false) (m':=m.new [] false) (ys:=strs (x :: s)) (ys':=strs (x :: s)) (id:=m.next) (v:=m.clock + 1) (ag':=false) el24 (by simp [strs]) (Aiy _) (by simp [fzx]) (by simp) (by simp at hb ⊢; omega)
 simp [abin,plain,e1,abuildSlice,zeros,fillAt,abuiltin,srcOf,elemsOf,e2]
 refine hQ _ _ _ ⟨.inr rfl,_,rfl,?_⟩
 simp [oneOf]
theorem c42 {m:Mem} (s:List InsM) (hb:s.length < 2 ^ 21):EH Tryz.prog cc (.func 42) [.lst (inss s)] m (.lst (inss s)) m:=by
 refine Afi rfl (by simp) ?_
 intro x0 l0 e0
 cases s with
 | nil => cases e0
 | cons x s =>
 refine ⟨(m.new [] false).new (flat (inss (x :: s))) false,.inr ⟨3,true,m.next + 1,m.clock + 2,eh_of ?_,by simp,by omega,by simp,rfl,Av4 _,Ai0 _⟩⟩
 refine Aah Tryz.func42 rfl rfl (by simp [Tryz.f42]) (by simp [Tryz.f42]) fun Q hQ => ?_
 simp only [Tryz.f42,show cf0.keepRes 42 = true from rfl,show cf0.keepArgs 42 = true from rfl] at hQ ⊢
 have e1:nilTest Tryz.prog 55 (.lst (inss (x :: s))) (.emp 0) = some false:=Ac0 (T:=55) Tryz.underlying55
 have e2:=Acu (m:=m.new [] false) (m':=m.new [] false) (ys:=inss (x :: s)) (ys':=inss (x :: s)) (id:=m.next) (v:=m.clock + 1) (ag':=true) el55 (by simp [inss]) (Ai0 _) (by simp [fzx]) (by simp) (by simp at hb ⊢; omega)
 simp [abin,plain,e1,abuildSlice,zeros,fillAt,abuiltin,srcOf,elemsOf,e2]
 refine hQ _ _ _ ⟨.inr rfl,_,rfl,?_⟩
 simp [oneOf]
theorem Aty {m0 m:Mem} {k:Nat} {ag:Bool} {ys:List AV} {v:AV} (h:Acc m0 m k ag ys v) (ha:(ag || k == 1) = true) (hy:∀ y ∈ ys,y.cells.length = k ∧ (if ag then AV.agg y.cells = y else y.cells = [y])) (ho:okAll k ys = true):∃ m2,fz1 m v = (.lst ys,m2) ∧ KpC (owns v) m m2:=by
 have lv:Lv m0 m k ag ys v:=by
  rcases h with ⟨h1,h2⟩ | ⟨h,id,w,h1,h2,h3,h4⟩
  ·exact .inl ⟨0,by omega,h1,h2⟩
  ·exact .inr (.inr ⟨id,w,none,h1,h2,h3,h4⟩)
 exact lv.fz ha hy ho
theorem As7 (l:List Dat):∀ y ∈ encs l,y.cells.length = 6 ∧ (if true then AV.agg y.cells = y else y.cells = [y]):=by
 intro y hy
 rw [Aa9] at hy
 obtain ⟨x,_,rfl⟩:=List.mem_map.1 hy
 simp
theorem c21 (p:PrM) (hf:PrFit p) (hlen:∀ c ∈ p.codes,c.ins.length < 2 ^ 21) (hchk:∀ d ∈ p.consts,chk d = 0):Gives Tryz.prog cc 21 [prgA p] (prgA p):=by
 obtain ⟨nC,hC⟩:∃ n,n = p.codes.length:=⟨_,rfl⟩
 obtain ⟨nD,hD⟩:∃ n,n = p.consts.length:=⟨_,rfl⟩
 have l22:∀ (R:TypeId) (m:Mem),abuiltin Tryz.prog .len #[22] R [.lst (cods p.codes)] m = some (int nC,m):=by rw [hC]; exact len22 p.codes
 have l23:∀ (R:TypeId) (m:Mem),abuiltin Tryz.prog .len #[23] R [.lst (encs p.consts)] m = some (int nD,m):=by rw [hD]; exact len23 p.consts
 have hcn:=hf.codes.1
 have hdn:=hf.consts.1
 have q31:=fun m:Mem => c31 (m:=m) p.names hf.names.1
 refine Aaf Tryz.func21 rfl rfl rfl rfl (by simp) (by simp [Tryz.f21]) (by simp [Tryz.f21]) fun m => ?_
 simp only [Tryz.f21,show cc.keepRes 21 = false from rfl]
 obtain ⟨M1,hM1⟩:∃ M1,M1 = (((m.new [.lst (cods p.codes),.lst (encs p.consts),.lst (strs p.names)] false).new [.emp 0,.emp 0,.emp 0] false).new [.emp 0,.emp 0,.emp 0] false).set (m.next + 2) [.emp 0,.emp 0,.lst (strs p.names)]:=⟨_,rfl⟩
 have k1:Kp m M1:=by rw [hM1]; simp
 have n1:M1.next = m.next + 3:=by rw [hM1]; simp
 have b1:M1.get m.next = some (.cells [.lst (cods p.codes),.lst (encs p.consts),.lst (strs p.names)] false (m.clock + 1)):=by rw [hM1]; simp
 have b2:M1.get (m.next + 1) = some (.cells [.emp 0,.emp 0,.emp 0] false (m.clock + 2)):=by rw [hM1]; simp
 have b3:M1.get (m.next + 2) = some (.cells [.emp 0,.emp 0,.lst (strs p.names)] false (m.clock + 4)):=by rw [hM1]; simp
 simp [(q31 _).go,l23,abuild,placesOf,fillAt]
 rw [← hM1]
 clear hM1
 refine Aan 15 nD (fun i s' m' => Kp m m' ∧ m.next + 3 ≤ m'.next ∧ m'.get m.next = some (.cells [.lst (cods p.codes),.lst (encs p.consts),.lst (strs p.names)] false (m.clock + 1)) ∧ m'.get (m.next + 1) = some (.cells [.emp 0,.emp 0,.emp 0] false (m.clock + 2)) ∧ ∃ v w,Acc M1 m' 6 true (encs (p.consts.take i)) v ∧ m'.get (m.next + 2) = some (.cells [.emp 0,v,.lst (strs p.names)] false w)) (by simp) (by omega) ⟨k1,by omega,b1,b2,.emp 0,_,.inl ⟨by simp [encs],rfl⟩,b3⟩ ?_
 rintro i s' m' hi e15 ⟨hk,hn3,g1,g2,v,w,hacc,g3⟩ hsame hw Q' hn he
 have e1:s'.at 1 = .ptr m.next 0:=(hsame 1 (by kernel_rfl)).trans (by simp)
 have e2:s'.at 2 = .ptr (m.next + 1) 0:=(hsame 2 (by kernel_rfl)).trans (by simp)
 have e3:s'.at 3 = .ptr (m.next + 2) 0:=(hsame 3 (by kernel_rfl)).trans (by simp)
 have e13:s'.at 13 = .lst (encs p.consts):=(hsame 13 (by kernel_rfl)).trans (by simp)
 have e14:s'.at 14 = int nD:=(hsame 14 (by kernel_rfl)).trans (by simp)
 clear hsame
 have vlt:=Ace hacc
 by_cases hlt:i < nD
 ·obtain ⟨d,hd⟩:∃ d,p.consts[i]? = some d:=⟨_,List.getElem?_eq_getElem (by omega)⟩
  have hdm:=List.mem_of_getElem? hd
  have q41:=Akk (g33 d (hf.consts.2 d hdm))
  rw [cln,if_pos (hchk d hdm)] at q41
  obtain ⟨M2,hM2⟩:∃ M2,M2 = (m'.new zeroCells false).set m'.next (enc d).cells:=⟨_,rfl⟩
  have k2:Kp m' M2:=by rw [hM2]; simp
  have n2:M2.next = m'.next + 1:=by rw [hM2]; simp
  have g2d:M2.get m'.next = some (.cells (enc d).cells false (m'.clock + 2)):=by rw [hM2]; simp
  have g23:=(k2.get (m.next + 2) (by omega)).trans g3
  obtain ⟨M3,hM3⟩:∃ M3,M3 = M2.new (enc d).cells false:=⟨_,rfl⟩
  have k3:Kp M2 M3:=by rw [hM3]; simp
  have n3:M3.next = m'.next + 2:=by rw [hM3]; simp [n2]
  have g33':=(k3.get (m.next + 2) (by omega)).trans g23
  have hsrc:srcOf M3 (.sl M2.next 0 1 6 true (some 1)) = some [enc d]:=by rw [hM3]; exact Adf (w:=M2.clock + 1) (f:=false) rfl (by simp) (by simp) (by simp)
  obtain ⟨v',m4,p1,p2,p3,p4⟩:=Aks (T:=23) (zs:=[enc d]) ((hacc.kp k2).kp k3) (by omega) (Abs _) el23 (by simp [Aal,Abi]) (by simp [fzvs]) (by simp; omega)
  have n4:=p3.next
  have nv:∀ j,j < M1.next → ¬ owns v j:=fun j hj h => by have:=vlt j h; omega
  have g43:=(p3.get (m.next + 2) (by omega) (nv _ (by omega))).trans g33'
  simp [e15,e14,hlt,e13,Aki hd]
  rw [← hM2]
  refine Aaq (by kernel_rfl) ?_
  simp [e3,g23,g2d,q41.go,abuildSlice,fillAt,zeros,abuiltin]
  rw [← hM3,hsrc]
  obtain ⟨o1,o2⟩:=p2.okc
  simp [p1,e3,g43,o1,o2]
  have ge23:=k3.get (m.next + 2) (by omega)
  refine Aa0 (l:=[(1,3),(1,4)]) (by kernel_rfl) (?_:List.all _ _ = true) ?_
  ·simp [metAtD,metOkD,rank,verKeptD,Region.wanted,Mem.ver,g23,g33',ge23]
  simp [e15,hw]
  have nv':∀ j,j < M1.next → ¬ owns v' j:=fun j hj h => by
   have:=(Ace p2 j h).1
   omega
  have hk4:Kp m m4:=Aek p3 ((hk.trans k2).trans k3) fun j h => by have:=vlt j h; omega
  refine hn _ _ hlt (by simp) ⟨hk4.set (by omega) _,by simp; omega,?_,?_,v',m4.clock + 1,?_,by simp⟩
  ·have a:m.next ≠ m.next + 2:=by omega
   simp
   rw [p3.get m.next (by omega) (nv _ (by omega)),k3.get m.next (by omega),k2.get m.next (by omega)]
   exact g1
  ·simp
   rw [p3.get (m.next + 1) (by omega) (nv _ (by omega)),k3.get (m.next + 1) (by omega),k2.get (m.next + 1) (by omega)]
   exact g2
  ·have htk:encs (p.consts.take (i + 1)) = encs (p.consts.take i) ++ [enc d]:=by
    obtain ⟨h1,h2⟩:=List.getElem?_eq_some_iff.1 hd
    rw [List.take_succ_eq_append_getElem h1,h2,Aa9,Aa9]
    simp
   rw [htk]
   exact Aa8 p2 (Aau (m.next + 2) _ m4) fun j h e => by
    have e:j = m.next + 2:=e
    exact nv' j (by omega) h
 have hge:i = nD:=by omega
 subst hge
 have htk:p.consts.take i = p.consts:=List.take_of_length_le (by omega)
 rw [htk] at hacc
 simp [e15,e14]
 refine he _ _ _ (by simp) ?_
 clear he hn
 simp [e1,g1,l22]
 obtain ⟨M5,hM5⟩:∃ M5,M5 = m':=⟨_,rfl⟩
 have hM5n:M5.next = m'.next:=by rw [hM5]
 refine Aan 30 nC (fun i s' m' => Kp m m' ∧ M5.next ≤ m'.next ∧ m'.get m.next = some (.cells [.lst (cods p.codes),.lst (encs p.consts),.lst (strs p.names)] false (m.clock + 1)) ∧ m'.get (m.next + 1) = some (.cells [.emp 0,.emp 0,.emp 0] false (m.clock + 2)) ∧ Acc M1 m' 6 true (encs p.consts) v ∧ ∃ u w,Acc M5 m' 5 true (cods (p.codes.take i)) u ∧ m'.get (m.next + 2) = some (.cells [u,v,.lst (strs p.names)] false w)) (by simp) (by omega) ⟨hk,by omega,g1,g2,hacc,.emp 0,w,.inl ⟨by simp [cods],rfl⟩,g3⟩ ?_
 have n5:m.next + 3 ≤ M5.next:=by omega
 have vlt5:∀ j,owns v j → M1.next ≤ j ∧ j < M5.next:=fun j h => by have:=vlt j h; omega
 clear hM5 hk g1 g2 hacc g3 e13 e14 e15 hw vlt hn3 hi hlt
 rintro i s2 m' hi e30 ⟨hk,hn3,g1,g2,hacc,u,w,hacu,g3⟩ hsame hw Q' hn he
 have f1:s2.at 1 = .ptr m.next 0:=(hsame 1 (by kernel_rfl)).trans (by simp [e1])
 have f2:s2.at 2 = .ptr (m.next + 1) 0:=(hsame 2 (by kernel_rfl)).trans (by simp [e2])
 have f3:s2.at 3 = .ptr (m.next + 2) 0:=(hsame 3 (by kernel_rfl)).trans (by simp [e3])
 have f28:s2.at 28 = .lst (cods p.codes):=(hsame 28 (by kernel_rfl)).trans (by simp)
 have f29:s2.at 29 = int nC:=(hsame 29 (by kernel_rfl)).trans (by simp)
 clear hsame
 have ult:=Ace hacu
 by_cases hlt:i < nC
 ·obtain ⟨d,hd⟩:∃ d,p.codes[i]? = some d:=⟨_,List.getElem?_eq_getElem (by omega)⟩
  have hdm:=List.mem_of_getElem? hd
  have q42:=fun m:Mem => c42 (m:=m) d.ins (hlen d hdm)
  obtain ⟨M2,hM2⟩:∃ M2,M2 = (m'.new [int 0,int 0,int 0,int 0,.emp 0] false).set m'.next [int d.params,int d.rest,int d.caps,int d.max,.lst (inss d.ins)]:=⟨_,rfl⟩
  have k2:Kp m' M2:=by rw [hM2]; simp
  have n2:M2.next = m'.next + 1:=by rw [hM2]; simp
  have g2d:M2.get m'.next = some (.cells [int d.params,int d.rest,int d.caps,int d.max,.lst (inss d.ins)] false (m'.clock + 2)):=by rw [hM2]; simp
  obtain ⟨M2b,hM2b⟩:∃ M2b,M2b = M2.set m'.next [int d.params,int d.rest,int d.caps,int d.max,.lst (inss d.ins)]:=⟨_,rfl⟩
  have k2b:Kp m' M2b:=by rw [hM2b]; exact k2.set (Nat.le_refl _) _
  have n2b:M2b.next = m'.next + 1:=by rw [hM2b]; simp [n2]
  have g2db:M2b.get m'.next = some (.cells [int d.params,int d.rest,int d.caps,int d.max,.lst (inss d.ins)] false (M2.clock + 1)):=by rw [hM2b]; simp
  have g23:=(k2b.get (m.next + 2) (by omega)).trans g3
  obtain ⟨M3,hM3⟩:∃ M3,M3 = M2b.new (codA d).cells false:=⟨_,rfl⟩
  have k3:Kp M2b M3:=by rw [hM3]; simp
  have n3:M3.next = m'.next + 2:=by rw [hM3]; simp [n2b]
  have g33':=(k3.get (m.next + 2) (by omega)).trans g23
  have hsrc:srcOf M3 (.sl M2b.next 0 1 5 true (some 1)) = some [codA d]:=by rw [hM3]; exact Adf (w:=M2b.clock + 1) (f:=false) rfl (by simp) (by simp) (by simp [codA])
  obtain ⟨v',m4,p1,p2,p3,p4⟩:=Aks (T:=22) (zs:=[codA d]) ((hacu.kp k2b).kp k3) (by omega) (Ai1 _) el22 (by simp [Aal,Abi]) (by simp [fzvs]) (by simp; omega)
  have n4:=p3.next
  have nu:∀ j,j < M5.next → ¬ owns u j:=fun j hj h => by have:=ult j h; omega
  have g43:=(p3.get (m.next + 2) (by omega) (nu _ (by omega))).trans g33'
  obtain ⟨o1,o2⟩:=p2.okc
  simp [e30,f29,hlt,f28,Aet hd]
  rw [← hM2]
  simp [g2d,(q42 _).go]
  rw [← hM2b]
  simp [f3,g23,g2db,abuildSlice,fillAt,zeros,abuiltin,Ao7]
  rw [Aqk] at hM3
  rw [← hM3,hsrc]
  simp [p1,f3,g43,o1,o2,e30,hw]
  have nu':∀ j,j < M5.next → ¬ owns v' j:=fun j hj h => by
   have:=(Ace p2 j h).1
   omega
  have hk4:Kp m m4:=Aek p3 ((hk.trans k2b).trans k3) fun j h => by have:=ult j h; omega
  have hset:=Aau (m.next + 2) [v',v,.lst (strs p.names)] m4
  refine hn _ _ hlt (by simp) ⟨hk4.set (by omega) _,by simp; omega,?_,?_,?_,v',m4.clock + 1,?_,by simp⟩
  ·have a:m.next ≠ m.next + 2:=by omega
   simp
   rw [p3.get m.next (by omega) (nu _ (by omega)),k3.get m.next (by omega),k2b.get m.next (by omega)]
   exact g1
  ·simp
   rw [p3.get (m.next + 1) (by omega) (nu _ (by omega)),k3.get (m.next + 1) (by omega),k2b.get (m.next + 1) (by omega)]
   exact g2
  ·exact Aa8 (Aa8 ((hacc.kp k2b).kp k3) p3 fun j h h' => by have:=vlt5 j h; have:=ult j h'; omega) hset fun j h e => by
    have e:j = m.next + 2:=e
    have:=vlt5 j h
    omega
  ·have htk:cods (p.codes.take (i + 1)) = cods (p.codes.take i) ++ [codA d]:=by
    obtain ⟨h1,h2⟩:=List.getElem?_eq_some_iff.1 hd
    rw [List.take_succ_eq_append_getElem h1,h2]
    simp [cods]
   rw [htk]
   exact Aa8 p2 hset fun j h e => by
    have e:j = m.next + 2:=e
    exact nu' j (by omega) h
 have hge:i = nC:=by omega
 subst hge
 have htk:p.codes.take i = p.codes:=List.take_of_length_le (by omega)
 rw [htk] at hacu
 simp [e30,f29]
 refine he _ _ _ (by simp) ?_
 obtain ⟨o1,o2⟩:=hacc.okc
 obtain ⟨o3,o4⟩:=hacu.okc
 simp [f3,g3,f2,g2,o1,o2,o3,o4]
 have hset:=Aau (m.next + 1) [u,v,.lst (strs p.names)] m'
 have kset:Kp m (m'.set (m.next + 1) [u,v,.lst (strs p.names)]):=hk.set (by omega) _
 have hacu':=Aa8 hacu hset fun j h e => by
  have e:j = m.next + 1:=e
  have:=ult j h
  omega
 have hacc':=Aa8 hacc hset fun j h e => by
  have e:j = m.next + 1:=e
  have:=vlt5 j h
  omega
 obtain ⟨m7,z1,z2⟩:=Aty hacu' rfl (Ayh _) (Ai1 _)
 have hacc7:=Aa8 hacc' z2 fun j h h' => by have:=vlt5 j h; have:=ult j h'; omega
 obtain ⟨m8,z3,z4⟩:=Aty hacc7 rfl (As7 _) (Abs _)
 rw [z1]
 simp only
 rw [z3]
 exact ⟨rfl,Aek z4 (Aek z2 kset fun j h => by have:=ult j h; omega) fun j h => by have:=vlt5 j h; omega⟩
def cv1 (s:ArM × List Val × Int) (d:Dat):ArM × List Val × Int:=if s.2.2 ≠ 0 then s else if (ofM d s.1).2.2 ≠ 0 then ((ofM d s.1).1,s.2.1,(ofM d s.1).2.2) else ((ofM d s.1).1,s.2.1 ++ [(ofM d s.1).2.1],0)
def cvM (l:List Dat) (a:ArM):ArM × List Val × Int:=l.foldl cv1 (a,[],0)
theorem Ayf (l:List Dat) (d:Dat) (a:ArM):cvM (l ++ [d]) a = cv1 (cvM l a) d:=by simp [cvM]
theorem Akj:∀ (l:List Dat) (s:ArM × List Val × Int),s.2.2 ≠ 0 → l.foldl cv1 s = s
 | [],s,_ => rfl
 | d :: l,s,h => by rw [List.foldl_cons,cv1,if_pos h]; exact Akj l s h
theorem Aye {l r:List Dat} {a:ArM} (h:(cvM l a).2.2 ≠ 0):cvM (l ++ r) a = cvM l a:=by
 unfold cvM at *
 rw [List.foldl_append]
 exact Akj r _ h
theorem Anv:∀ (l:List Dat) (s:ArM × List Val × Int),(l.foldl cv1 s).2.2 = 0 → (l.foldl cv1 s).2.1.length = s.2.1.length + l.length
 | [],s,_ => rfl
 | d :: l,s,h => by
  rw [List.foldl_cons] at h ⊢
  by_cases h0:s.2.2 ≠ 0
  ·rw [cv1,if_pos h0,Akj l s h0] at h
   exact absurd h h0
  by_cases h1:(ofM d s.1).2.2 ≠ 0
  ·rw [cv1,if_neg h0,if_pos h1,Akj l _ h1] at h
   exact absurd h h1
  ·rw [Anv l _ h,cv1,if_neg h0,if_neg h1]
   simp
   omega
theorem Ar8 {cs:List CoM}:∀ (l:List Dat) (s:ArM × List Val × Int),Nice cs s.1 → NoPrim s.2.1 → Nice cs (l.foldl cv1 s).1 ∧ NoPrim (l.foldl cv1 s).2.1
 | [],s,h,k => ⟨h,k⟩
 | d :: l,s,h,k => by
  rw [List.foldl_cons]
  obtain ⟨n1,n2⟩:=A0p h d
  refine Ar8 l _ ?_ ?_
  ·unfold cv1
   split
   ·exact h
   split <;> exact n1
  ·unfold cv1
   split
   ·exact k
   split
   ·exact k
   ·exact k.app (.one n2)
structure PrB (t:Ro) (P A:Nat) (pr:PrM) (cv:List Val) (a:ArM) (m:Mem):Prop where
 bd:∀ j,t j ≠ none → j < m.next
 tP:t P = some 1
 pg:∃ cx,has m P (pgC A pr cx) ∧ StA t 2 m cx cv
 ar:ArR t A a m
theorem An4 {t:Ro} {A:Nat} {a':ArM} {m m':Mem} (bd:∀ j,t j ≠ none → j < m.next) (u:Up (fun j => t j = some 3) A a' m m'):∃ t',ArR t' A a' m' ∧ Chg (· = 3) t t' m m':=by
 obtain ⟨X',h1,h2,h3⟩:=u
 obtain ⟨tt,M,cs,ns,xs,g1,g2⟩:=id h1
 have c:Chg (· = 3) t (fun j => if tt j ≠ none then some 3 else if t j = some 3 then none else t j) m m':=by
  refine ⟨h2.mono fun j hj => ⟨3,hj,rfl⟩,fun j r hr => ?_,fun j r q hr => ?_,fun j hj => ?_⟩
  ·have hr:r ≠ 3:=hr
   constructor
   ·intro q
    split at q
    ·cases q; exact absurd rfl hr
    ·split at q
     ·cases q
     ·exact q
   ·intro q
    split
    ·rename_i e
     have e2:=g2 j e
     rcases h3 j e2.1 with x | x
     ·rw [q] at x; cases x; exact absurd rfl hr
     ·have:=bd j (by rw [q]; simp); omega
    ·rw [if_neg (by rw [q]; simp; exact hr)]; exact q
  ·have hr:r = 3:=hr
   subst hr
   split at q
   ·rename_i e
    rcases h3 j (g2 j e).1 with x | x
    ·exact .inl ⟨3,x,rfl⟩
    ·exact .inr x
   ·split at q
    ·cases q
    ·rename_i e; exact absurd q e
  ·split at hj
   ·rename_i e; exact (g2 j e).2
   ·split at hj
    ·exact absurd rfl hj
    ·exact Nat.lt_of_lt_of_le (bd j hj) h2.next
 refine ⟨_,⟨tt,M,cs,ns,xs,g1,fun j hj => ⟨?_,(g2 j hj).2⟩⟩,c⟩
 show (if tt j ≠ none then some 3 else _) = some 3
 rw [if_pos hj]
theorem Ao8 {p:PrM} (h:checkM p = 0):(∀ d ∈ p.consts,chk d = 0) ∧ (∀ c ∈ p.codes,c.ins.length < 2 ^ 21) ∧ (∀ c ∈ p.codes,goodC p c = true) ∧ countsM p = true:=by
 have hb:checkB p = true:=by
  unfold checkM at h
  split at h
  ·rename_i q; exact q
  ·cases h
 simp only [checkB,Bool.and_eq_true,List.all_eq_true] at hb
 obtain ⟨h1,h2,h3,h4⟩:=hb
 refine ⟨fun d hd => ?_,fun c hc => ?_,h4,h1⟩
 ·obtain ⟨j,hj⟩:=List.mem_iff_getElem?.1 hd
  have:=(Ad6 p.consts 0).1 h2 j d hj
  simp only [constM,Bool.and_eq_true,plainM,decide_eq_true_eq] at this
  exact this.1.1
 ·have:=h4 c hc
  simp only [goodC,Bool.and_eq_true,decide_eq_true_eq] at this
  have:=this.1.1.2
  omega
theorem Al9 {p:PrM} (h:countsM p = true):p.codes.length ≤ 1024 ∧ p.consts.length ≤ 1024 ∧ 1 ≤ p.codes.length ∧ ∀ c,p.codes[0]? = some c → c.params = 0 ∧ c.caps = 0:=by
 cases hc:p.codes with
 | nil => simp [countsM,hc] at h
 | cons c cs =>
  have h0:p.codes[0]? = some c:=by rw [hc]; rfl
  obtain ⟨a,b,_,d,e⟩:=(Ajd h0).1 h
  rw [hc] at a
  refine ⟨a,b,by simp,fun c' hc' => ?_⟩
  have:c = c':=by simpa using hc'
  rw [← this]
  exact ⟨d,e⟩
section
variable {t:Ro} {P A:Nat} {pr:PrM} {a:ArM} {m:Mem}
theorem w7 (har:ArR t A a m) (bd:∀ j,t j ≠ none → j < m.next) (hsm:Small a) (hf:PrFit pr):wph Tryz.prog ca (.func 7) [.ptr A 0,prgA pr] m fun v m' => ∃ t',Chg (fun r => r = 1 ∨ r = 2 ∨ r = 3) t t' m m' ∧
  (if checkM pr ≠ 0 then v = .tup [nilA,int (checkM pr)] else if (cvM pr.consts a).2.2 ≠ 0 then v = .tup [nilA,int (cvM pr.consts a).2.2]
  else ∃ P,v = .tup [.ptr P 0,int 0] ∧ PrB t' P A pr (cvM pr.consts a).2.1 (cvM pr.consts a).1 m'):=by
 obtain ⟨M1,hM1⟩:∃ M1,M1 = m.new [.lst (cods pr.codes),.lst (encs pr.consts),.lst (strs pr.names)] false:=⟨_,rfl⟩
 have k1:Kp m M1:=by rw [hM1]; simp
 have n1:M1.next = m.next + 1:=by rw [hM1]; simp
 have b0:M1.get m.next = some (.cells [.lst (cods pr.codes),.lst (encs pr.consts),.lst (strs pr.names)] false (m.clock + 1)):=by rw [hM1]; simp
 have c1:Chg (fun _ => False) t t m M1:=Chg.refl bd k1
 have har1:=har.keep c1.kt (by simp)
 have q20:=Amd (c20 pr hf)
 have l23:=len23 pr.consts
 obtain ⟨nD,hD⟩:∃ n,n = pr.consts.length:=⟨_,rfl⟩
 rw [← hD] at l23
 refine Aah Tryz.func7 rfl rfl (by simp [Tryz.f7]) (by simp [Tryz.f7]) fun Q hQ => ?_
 simp only [Tryz.f7,show ca.keepRes 7 = false from rfl,show ca.keepArgs 7 = false from rfl] at hQ ⊢
 simp
 rw [← hM1]
 clear hM1
 refine Aac (q37 har1 hsm) ?_
 rintro _ m2 ⟨⟨i,rfl⟩,k2⟩
 have b02:=(k2.get m.next (by omega)).trans b0
 have c2:Chg (fun _ => False) t t m m2:=c1.trans (Chg.refl c1.bd k2)
 have har2:=har.keep c2.kt (by simp)
 simp [Ahv,b02,Adh,q20.go]
 by_cases hchk:checkM pr = 0
 rotate_left
 ·simp [hchk]
  refine hQ _ _ _ ?_
  rw [Aed]
  refine ⟨t,?_,?_⟩
  ·simp [Adn,fzvs]
   exact c2.mono fun _ e => e.elim
  ·rw [if_pos hchk]
   simp [Adn,fzvs]
 obtain ⟨ok1,ok2,ok3,ok4⟩:=Ao8 hchk
 have qC:=Amd (c21 pr hf ok2 ok1)
 simp only [hchk,ne_eq,not_true_eq_false,if_false] at hQ
 have n02:m.next ≠ m2.next:=by have:=k2.next; omega
 simp [hchk,(qC m2 [prgA pr] m2 (by simp [fzvs])).go,b02,Adh,abuild,placesOf,fillAt,n02,l23]
 obtain ⟨P,hP⟩:∃ P,P = m2.next:=⟨_,rfl⟩
 obtain ⟨M3,hM3⟩:∃ M3,M3 = m2.new [.ptr A 0,.lst (cods pr.codes),.lst (encs pr.consts),.lst (strs pr.names),.emp 0,.emp 0] false:=⟨_,rfl⟩
 have k3:Kp m2 M3:=by rw [hM3]; simp
 have n3:M3.next = m2.next + 1:=by rw [hM3]; simp
 have g3:M3.get P = some (.cells [.ptr A 0,.lst (cods pr.codes),.lst (encs pr.consts),.lst (strs pr.names),.emp 0,.emp 0] false (m2.clock + 1)):=by rw [hM3,hP]; simp
 have b03:=(k3.get m.next (by have:=k2.next; omega)).trans b02
 rw [← hM3,← hP]
 clear hM3
 have c3:Chg (· = 1) t (upd t P 1) m2 M3:=Chg.upd (R:=(· = 1)) c2.bd (.of (.of k3)) rfl (by omega) (by omega)
 have har3:=har2.keep c3.kt (by simp)
 have call3:Chg (fun r => r = 1 ∨ r = 2 ∨ r = 3) t (upd t P 1) m M3:=(c2.mono fun _ e => e.elim).trans (c3.mono fun _ e => .inl e)
 refine Aan 28 nD (fun i s' m' => ∃ t',(cvM (pr.consts.take i) a).2.2 = 0 ∧ PrB t' P A pr (cvM (pr.consts.take i) a).2.1 (cvM (pr.consts.take i) a).1 m' ∧ Chg (fun r => r = 1 ∨ r = 2 ∨ r = 3) t t' m m' ∧ m.next < m'.next) (by simp) (by have:=hf.consts.1; omega) ⟨upd t P 1,rfl,⟨c3.bd,Acg _ _ _,⟨.emp 0,⟨by omega,_,g3⟩,.inl ⟨rfl,.inl rfl⟩⟩,har3⟩,call3,by have:=k2.next; omega⟩ ?_
 rintro i s' m' hi e28 ⟨t',hz,hpb,hc,hlt'⟩ hsame hw Q' hn he
 have e0:s'.at 0 = .ptr A 0:=(hsame 0 (by kernel_rfl)).trans (by simp)
 have e7:s'.at 7 = .ptr P 0:=(hsame 7 (by kernel_rfl)).trans (by simp)
 have e26:s'.at 26 = .lst (encs pr.consts):=(hsame 26 (by kernel_rfl)).trans (by simp)
 have e27:s'.at 27 = int nD:=(hsame 27 (by kernel_rfl)).trans (by simp)
 clear hsame
 by_cases hlt:i < nD
 rotate_left
 ·have hge:i = nD:=by omega
  subst hge
  have htk:pr.consts.take i = pr.consts:=List.take_of_length_le (by omega)
  rw [htk] at hz hpb
  simp [e28,e27]
  refine he _ _ _ (by simp) ?_
  simp [e7]
  refine hQ _ _ _ ?_
  rw [Aed]
  refine ⟨t',by simpa [Adn,fzvs] using hc,?_⟩
  rw [if_neg (by simp [hz])]
  exact ⟨P,by simp [Adn,fzvs],by simpa [Adn,fzvs] using hpb⟩
 obtain ⟨d,hd⟩:∃ d,pr.consts[i]? = some d:=⟨_,List.getElem?_eq_getElem (by omega)⟩
 have hdf:=hf.consts.2 d (List.mem_of_getElem? hd)
 obtain ⟨M4,hM4⟩:∃ M4,M4 = (m'.new zeroCells false).set m'.next (enc d).cells:=⟨_,rfl⟩
 have k4:Kp m' M4:=by rw [hM4]; simp
 have n4:M4.next = m'.next + 1:=by rw [hM4]; simp
 have g4:M4.get m'.next = some (.cells (enc d).cells false (m'.clock + 2)):=by rw [hM4]; simp
 have c4:Chg (fun _ => False) t' t' m' M4:=Chg.refl hpb.bd k4
 have har4:=hpb.ar.keep c4.kt (by simp)
 have hsnoc:cvM (pr.consts.take (i + 1)) a = cv1 (cvM (pr.consts.take i) a) d:=by
  obtain ⟨h1,h2⟩:=List.getElem?_eq_some_iff.1 hd
  rw [List.take_succ_eq_append_getElem h1,h2,Ayf]
 obtain ⟨ai,hai⟩:∃ ai,ai = (cvM (pr.consts.take i) a).1:=⟨_,rfl⟩
 obtain ⟨cvi,hcvi⟩:∃ cvi,cvi = (cvM (pr.consts.take i) a).2.1:=⟨_,rfl⟩
 rw [← hai] at har4 hpb
 rw [← hcvi] at hpb
 simp [e28,e27,hlt,e26,Anu hd]
 rw [← hM4]
 clear hM4
 simp [e0,g4]
 refine Aac (q21 har4 d hdf) ?_
 rintro _ m5 ⟨rfl,hup⟩
 obtain ⟨t5,har5,c5⟩:=An4 c4.bd hup
 have n5:=c5.kc.next
 obtain ⟨cx,hPh,hcx⟩:=hpb.pg
 have hPh5:has m5 P (pgC A pr cx):=c5.kt.has hpb.tP (by simp) (c4.kt.has hpb.tP (by simp) hPh)
 have hcx5:=(hcx.keep c4.kt (by simp)).keep c5.kt (by simp)
 have tP5:t5 P = some 1:=(c5.same P 1 (by simp)).2 hpb.tP
 have call5:Chg (fun r => r = 1 ∨ r = 2 ∨ r = 3) t t5 m m5:=hc.trans ((c4.mono fun _ e => e.elim).trans (c5.mono fun _ e => .inr (.inr e)))
 obtain ⟨r,hr⟩:∃ r,r = ofM d ai:=⟨_,rfl⟩
 rw [← hr] at har5 ⊢
 obtain ⟨M6,hM6⟩:∃ M6,M6 = (m5.new [int 0,int 0] false).set m5.next [int r.2.1.1,int r.2.1.2]:=⟨_,rfl⟩
 have k6:Kp m5 M6:=by rw [hM6]; simp
 have n6:M6.next = m5.next + 1:=by rw [hM6]; simp
 have g6:M6.get m5.next = some (.cells [int r.2.1.1,int r.2.1.2] false (m5.clock + 2)):=by rw [hM6]; simp
 have c6:Chg (fun _ => False) t5 t5 m5 M6:=Chg.refl c5.bd k6
 by_cases he0:r.2.2 = 0
 rotate_left
 ·simp [he0]
  rw [← hM6]
  refine he _ _ _ (by simp) ?_
  simp
  refine hQ _ _ _ ?_
  rw [Aed]
  have hst:cvM (pr.consts.take (i + 1)) a = (r.1,cvi,r.2.2):=by
   rw [hsnoc,cv1,if_neg (by simp [hz]),← hai,← hr,if_pos he0,← hcvi]
  have hall:cvM pr.consts a = (r.1,cvi,r.2.2):=by
   have:=Aye (l:=pr.consts.take (i + 1)) (r:=pr.consts.drop (i + 1)) (a:=a) (by rw [hst]; exact he0)
   rw [List.take_append_drop,hst] at this
   exact this
  refine ⟨t5,by simpa [Adn,fzvs] using call5.trans (c6.mono fun _ e => e.elim),?_⟩
  rw [hall,if_pos he0]
  simp [Adn,fzvs]
 ·obtain ⟨M7,hM7⟩:∃ M7,M7 = M6.new [int r.2.1.1,int r.2.1.2] false:=⟨_,rfl⟩
  have k7:Kp M6 M7:=by rw [hM7]; simp
  have hsrc:srcOf M7 (.sl M6.next 0 1 2 true (some 1)) = some [valA r.2.1]:=by rw [hM7]; exact Ag5
  have c7:Chg (fun _ => False) t5 t5 M6 M7:=Chg.refl c6.bd k7
  have hlen:cvi.length ≤ 4096:=by
   rw [hcvi]
   have h1:=Anv (pr.consts.take i) (a,[],0) hz
   have h2:(cvM (pr.consts.take i) a).2.1.length = 0 + (pr.consts.take i).length:=h1
   rw [h2]
   have:=(Al9 ok4).2.1
   simp
   omega
  obtain ⟨cx',m8,t8,p1,p2,p3⟩:=((hcx5.keep c6.kt (by simp)).keep c7.kt (by simp)).put c7.bd hlen r.2.1
  have hP6:=c6.kt.has tP5 (by simp) hPh5
  have hP7:=c7.kt.has tP5 (by simp) hP6
  have hP8:=p3.kt.has tP5 (by simp) hP7
  obtain ⟨_,wP6,gP6⟩:=hP6
  obtain ⟨_,wP7,gP7⟩:=hP7
  obtain ⟨hPl8,wP8,gP8⟩:=hP8
  obtain ⟨o1,o2⟩:=p2.okc
  simp only [pgC] at gP6 gP7 gP8
  simp [he0]
  rw [← hM6]
  refine Aaq (by kernel_rfl) ?_
  simp [e7,gP6,g6,abuildSlice,fillAt,zeros,abuiltin,Aad]
  rw [← hM7,hsrc]
  simp [p1,e7,gP8,o1,o2]
  have gk:=k7.get P (by omega)
  refine Aa0 (l:=[(4,6)]) (by kernel_rfl) (?_:List.all _ _ = true) ?_
  ·simp [metAtD,metOkD,rank,verKeptD,Region.wanted,Mem.ver,gP6,gk]
  simp [e28,hw]
  have hst:cvM (pr.consts.take (i + 1)) a = (r.1,cvi ++ [r.2.1],0):=by
   rw [hsnoc,cv1,if_neg (by simp [hz]),← hai,← hr,if_neg (by simp [he0]),← hcvi]
  have tP8:t8 P = some 1:=(p3.same P 1 (by simp)).2 tP5
  have cset:Chg (· = 1) t8 t8 m8 (m8.set P (pgC A pr cx')):=Chg.set (R:=(· = 1)) p3.bd tP8 rfl _
  refine hn _ _ hlt (by simp) ⟨t8,by rw [hst],?_,?_,?_⟩
  ·rw [hst]
   exact ⟨cset.bd,tP8,⟨cx',⟨by simpa using hPl8,m8.clock + 1,by simp [pgC]⟩,p2.keep cset.kt (by simp)⟩,(((har5.keep c6.kt (by simp)).keep c7.kt (by simp)).keep p3.kt (by simp)).keep cset.kt (by simp)⟩
  ·exact call5.trans ((c6.mono fun _ e => e.elim).trans ((c7.mono fun _ e => e.elim).trans ((p3.mono fun _ e => .inr (.inl e)).trans (cset.mono fun _ e => .inl e))))
  ·have:=k7.next
   have:=p3.kc.next
   simp
   omega
end
def s0 (a:ArM):MaM:=⟨a,[⟨0,0,[],[],[]⟩],1,0,0,(0,0)⟩
def pg0 (pr:PrM) (cv:List Val):PgM:=⟨pr.codes,cv,pr.names.length⟩
section
variable {t:Ro} {P A:Nat} {pr:PrM} {cv:List Val} {a:ArM} {m:Mem}
theorem w23 (h:PrB t P A pr cv a m):EH Tryz.prog ca (.func 23) [.ptr P 0] m (.sc (.bool false)) m:=by
 obtain ⟨cx,⟨hP,w,g⟩,_⟩:=h.pg
 refine Aa1 Tryz.func23 rfl rfl rfl rfl (args1:=[.ptr P 0]) (m1:=m) (by simp) (by simp) (by simp [Tryz.f23]) (by simp [Tryz.f23]) ?_
 simp [Tryz.f23,show ca.keepRes 23 = false from rfl,ptr34,g,pgC,Ahv]
theorem w8 (h:PrB t P A pr cv a m):wph Tryz.prog ca (.func 8) [.ptr P 0] m fun v m' => ∃ T F t' q,v = .ptr T 0 ∧ TkA t' T P A pr (pg0 pr cv) (s0 a) (.ptr F 0) q m' ∧ ChA t' m' (s0 a).frames (.ptr F 0) ∧ Chg RM t t' m m':=by
 have q23:=w23 h
 obtain ⟨M1,hM1⟩:∃ M1,M1 = m.new (frC ⟨0,0,[],[],[]⟩ 0 (.emp 0) (.emp 0) (.emp 0) nilA) false:=⟨_,rfl⟩
 have k1:Kp m M1:=by rw [hM1]; simp
 have n1:M1.next = m.next + 1:=by rw [hM1]; simp
 obtain ⟨M2,hM2⟩:∃ M2,M2 = M1.new (tkC P (s0 a) (.ptr m.next 0) ⟨[],0,.emp 0,0,(0,0)⟩) false:=⟨_,rfl⟩
 have k2:Kp M1 M2:=by rw [hM2]; simp
 have n2:M2.next = m.next + 2:=by rw [hM2]; simp [n1]
 have c1:Chg (· = roF 0) t (upd t m.next (roF 0)) m M1:=Chg.upd (R:=(· = roF 0)) h.bd (.of (.of k1)) rfl (Nat.le_refl _) (by omega)
 have c2:Chg (· = 0) (upd t m.next (roF 0)) (upd (upd t m.next (roF 0)) M1.next 0) M1 M2:=Chg.upd (R:=(· = 0)) c1.bd (.of (.of k2)) rfl (Nat.le_refl _) (by omega)
 have nr:roF 0 = 10:=rfl
 have nP:roP 0 = 11:=rfl
 have nS:roS 0 = 12:=rfl
 refine Aah Tryz.func8 rfl rfl (by simp [Tryz.f8]) (by simp [Tryz.f8]) fun Q hQ => ?_
 simp only [Tryz.f8,show ca.keepRes 8 = false from rfl,show ca.keepArgs 8 = false from rfl] at hQ ⊢
 simp [q23.go,abuild,placesOf,fillAt]
 have hM1':M1 = m.new [int 0,int 0,nilA,.emp 0,.emp 0,.emp 0,nilA,int 1] false:=by rw [hM1]; rfl
 have hM2':M2 = M1.new [.ptr P 0,int 1,int 0,.ptr m.next 0,int 0,strS [],int 0,.emp 0,int 0,int 0,int 0,int 0,int 0] false:=by rw [hM2]; rfl
 rw [← hM1',← n1,← hM2']
 refine hQ _ _ _ ?_
 rw [Abm]
 refine ⟨M1.next,m.next,upd (upd t m.next (roF 0)) M1.next 0,⟨[],0,.emp 0,0,(0,0)⟩,by simp,?_,?_,?_⟩
 ·obtain ⟨cx,hp,hcx⟩:=h.pg
  have tP1:(upd t m.next (roF 0)) P = some 1:=(c1.same P 1 (by simp [nr])).2 h.tP
  have key:TkA (upd (upd t m.next (roF 0)) M1.next 0) M1.next P A pr (pg0 pr cv) (s0 a) (.ptr m.next 0) ⟨[],0,.emp 0,0,(0,0)⟩ M2:=by
   refine ⟨⟨c2.bd,Acg _ _ _,(c2.same P 1 (by simp)).2 tP1,⟨cx,c2.kt.has tP1 (by simp) (c1.kt.has h.tP (by simp [nr]) hp),(hcx.keep c1.kt (by simp [nr])).keep c2.kt (by simp)⟩,(h.ar.keep c1.kt (by simp [nr])).keep c2.kt (by simp),rfl⟩,⟨by omega,M1.clock + 1,by rw [hM2]; simp⟩,.inl rfl⟩
  simpa using key
 ·have key:ChA (upd (upd t m.next (roF 0)) M1.next 0) M2 (s0 a).frames (.ptr m.next 0):=by
   refine ⟨m.next,nilA,rfl,⟨.emp 0,.emp 0,.emp 0,⟨(c2.same m.next (roF 0) (by simp [nr])).2 (Acg _ _ _),c2.kt.has (Acg _ _ _) (by simp [nr]) ⟨by omega,m.clock + 1,by rw [hM1]; simp⟩,.inl ⟨rfl,.inl rfl⟩,.inr ⟨rfl,rfl⟩,.inl ⟨rfl,.inl rfl⟩⟩⟩,rfl⟩
  simpa using key
 ·have key:Chg RM t (upd (upd t m.next (roF 0)) M1.next 0) m M2:=(c1.mono fun r e => .inr (.inr (by have e:r = roF 0:=e; omega))).trans (c2.mono fun r e => .inl e)
  simpa using key
end
end Go.Proofs.YtjgnfadoakonfaaGreat
namespace Go.Proofs.YtjgnfadoakonfaaGreat
set_option maxRecDepth 4000
open Go.V
attribute [local simp] Nat.add_assoc
theorem StA.any {t:Ro} {r:Nat} {m:Mem} {x:AV} {l:List Val} (h:StA t r m x l):StA (fun _ => some 0) 0 m x l:=by
 rcases h with h | ⟨id,e,w,h1,h2,h3,h4⟩
 ·exact .inl h
 ·exact .inr ⟨id,e,w,rfl,h2,h3,h4⟩
theorem w28 (x:AV) (m:Mem) (hx:x.okc = true ∧ x.cells = [x]):EH Tryz.prog ca (.func 28) [x] m (.fn (.func 46) [] [.ptr m.next 0]) (m.new [x] false):=by
 obtain ⟨o1,o2⟩:=hx
 refine eh_of (Aah Tryz.func28 rfl rfl (by simp [Tryz.f28]) (by simp [Tryz.f28]) fun Q hQ => ?_)
 simp only [Tryz.f28,show ca.keepRes 28 = false from rfl,show ca.keepArgs 28 = true from rfl] at hQ ⊢
 simp [o1,o2]
 exact hQ _ _ _ ⟨.inr rfl,_,rfl,by simp [oneOf]⟩
theorem A3x {J:Nat → Mem → Prop} {lo db:Nat} {sx:AV} (l:List Val) (hl:l.length ≤ 4096)
  (hJ:∀ k x m,l[k]? = some x → J (k + 1) m → wph Tryz.prog ca (.yield lo) [int k,valA x] m fun v m' => v = .sc (.bool true) ∧ J k m')
  (hb:∀ k m,J k m → has m db [sx] ∧ StA (fun _ => some 0) 0 m sx l) (m:Mem) (h:J l.length m):wph Tryz.prog ca (.func 46) [.yl lo,.ptr db 0] m fun v m' => v = .tup [] ∧ J 0 m':=by
 refine Aah Tryz.func46 rfl rfl (by simp [Tryz.f46]) (by simp [Tryz.f46]) fun Q hQ => ?_
 simp only [Tryz.f46,show ca.keepRes 46 = false from rfl,show ca.keepArgs 46 = false from rfl] at hQ ⊢
 obtain ⟨⟨bl,bv,be⟩,st⟩:=hb _ _ h
 have w0:IntKind.i64.wrap ((l.length:Int) - 1) = (l.length:Int) - 1:=IntWalk.i64_in _ (by omega)
 have ln:∀ (R:TypeId) (m':Mem),abuiltin Tryz.prog .len #[48] R [sx] m' = some (int l.length,m'):=by
  intro R m'
  rcases st with ⟨rfl,rfl | rfl⟩ | ⟨id,e,w,_,_,rfl,_⟩
  ·rw [Ach Tryz.underlying48]; rfl
  ·rw [Ach Tryz.underlying48]; rfl
  ·rw [Ab6 Tryz.underlying48]
 simp [be,w0,ln]
 refine Abo (fun k s m' => k ≤ l.length ∧ s.at 3 = int ((k:Int) - 1) ∧ s.at 0 = .yl lo ∧ s.at 1 = .ptr db 0 ∧ J k m') l.length ⟨Nat.le_refl _,by simp,by simp,by simp,h⟩ ?_
 rintro k s m' ⟨hk,e3,e0,e1,hJk⟩ Q' hn he
 obtain ⟨⟨bl,bv,be⟩,st⟩:=hb _ _ hJk
 simp [e3]
 cases k with
 | zero =>
  simp
  refine he _ _ _ (by simp) ?_
  simp
  exact hQ _ _ _ (by rw [Af2 (.inl rfl)]; exact ⟨rfl,hJk⟩)
 | succ k =>
  obtain ⟨x,hx⟩:∃ x,l[k]? = some x:=⟨_,List.getElem?_eq_getElem (by omega)⟩
  have e3':s.at 3 = int (k:Int):=by rw [e3]; congr 3; omega
  have ek:((k:Int) + 1 - 1) = (k:Int):=by omega
  have hxv:atV l k = x:=by rw [atV,List.getD_eq_getElem?_getD,hx]; rfl
  obtain ⟨id,w,e,_,hid,hsx,hg,hix,h6,h7⟩:=st.at (i:=(k:Int)) (by omega) (by omega)
  rw [Int.toNat_natCast] at hix h6 h7
  rw [hxv] at h7
  have h0:(0:Int) ≤ k:=by omega
  have w1:IntKind.i64.wrap ((k:Int) - 1) = (k:Int) - 1:=IntWalk.i64_in _ (by omega)
  have h1:(1:Int) ≤ (k:Int) + 1:=by omega
  simp [e0,e1,e3',be,hix,ek,h1,hg,h6,h7,Aad]
  refine Aac (hJ k x m' hx hJk) ?_
  rintro v m2 ⟨rfl,hJ2⟩
  simp [e3',w1]
  refine hn k _ _ (by omega) ⟨by omega,by simp,by simp [e0],by simp [e1],hJ2⟩
structure TellV (J:List Val → (Nat → Prop) → Mem → Prop) (lo:Nat):Prop where
 keep:∀ l F m m',J l F m → KpC (fun i => ¬ F i) m m' → J l F m'
 lt:∀ l F m,J l F m → ∀ i,F i → i < m.next
 see:∀ l F m v,J l F m → l.length ≤ 4096 → wph Tryz.prog ca (.yield lo) [valA v] m fun r m' => r = .sc (.bool true) ∧ ∃ F',J (l ++ [v]) F' m' ∧ (∀ i,F' i → F i ∨ m.next ≤ i) ∧ KpC F m m'
section
variable {t:Ro} {T P A:Nat} {pr:PrM} {p:PgM} {s:MaM} {q:RestA} {now:AV} {m:Mem}
theorem w27 {J:List Val → (Nat → Prop) → Mem → Prop} {lo B:Nat} (hJ:TellV J lo) (hB:has m B [.ptr T 0]) (h:has m T (tkC P s now q)) (hc:ChA t m s.frames now) (hop:s.status = 2 → s.op ≠ 4) (hl:∀ f ∈ s.frames,f.stack.length ≤ 4096) (F0:Nat → Prop) (hJ0:J [] F0 m) (hold:∀ i,F0 i → t i = none) :
  wph Tryz.prog ca (.func 27) [.yl lo,.ptr B 0] m fun _ m' => ∃ F',J (stackM s).reverse F' m' ∧ (∀ i,F' i → F0 i ∨ m.next ≤ i) ∧ KpC F0 m m':=by
 obtain ⟨M1,hM1⟩:∃ M1,M1 = m.new [.yl lo] false:=⟨_,rfl⟩
 have k1:Kp m M1:=by rw [hM1]; simp
 have n1:M1.next = m.next + 1:=by rw [hM1]; simp
 have b0:M1.get m.next = some (.cells [.yl lo] false (m.clock + 1)):=by rw [hM1]; simp
 obtain ⟨Bl,wB,gB⟩:=hB
 have gB1:=(k1.get B Bl).trans gB
 have hT1:has M1 T (tkC P s now q):=h.kp k1
 have nowM:now = nilA ∨ ∃ F,F < M1.next ∧ now = .ptr F 0:=hc.nowOk.imp id fun ⟨F,a,b⟩ => ⟨F,by omega,b⟩
 have q26:=w26 hT1 hop nowM
 have hs:=Aol hc
 have hlt:=hJ.lt _ _ _ hJ0
 refine Aah Tryz.func27 rfl rfl (by simp [Tryz.f27]) (by simp [Tryz.f27]) fun Q hQ => ?_
 simp only [Tryz.f27,show ca.keepRes 27 = false from rfl,show ca.keepArgs 27 = false from rfl] at hQ ⊢
 simp
 rw [← hM1]
 clear hM1
 unfold stackM at hQ
 generalize (if s.status = 1 ∨ s.status = 2 then now else nilA) = u at q26 hs
 have nB:B ≠ m.next:=by omega
 simp [nB,gB,q26.go]
 cases hsh:shownM s with
 | nil =>
  rw [hsh] at hs hQ
  have hs:u = nilA:=hs
  subst hs
  simp [Aov]
  exact hQ _ _ _ ⟨.inr rfl,[],rfl,F0,hJ.keep _ _ _ _ hJ0 (.of (.of k1)),fun i hi => .inl hi,.of (.of k1)⟩
 | cons f fs =>
  rw [hsh] at hs hQ
  obtain ⟨F,u',rfl,⟨px,cx,sx,hf⟩,_⟩:=hs
  obtain ⟨hFl,wF,gF⟩:=hf.get
  have gF1:=(k1.get F hFl).trans gF
  have hfl:f.stack.length ≤ 4096:=by
   have hm:f ∈ s.frames:=by
    have:f ∈ shownM s:=by rw [hsh]; simp
    unfold shownM at this
    split at this
    ·exact this
    ·cases this
   exact hl f hm
  simp [Aop,gF1,frC,(w28 sx _ hf.stk.okc).go]
  refine Afd (f:=46) (a:=[]) (b:=[.ptr M1.next 0]) (by simp) (by kernel_rfl) ?_
  simp only [List.nil_append,List.singleton_append]
  generalize hcd:LCode.mk _ _ _ _ _ = c
  obtain ⟨lo2,hlo0⟩:∃ lo2,lo2 = (M1.new [sx] false).next:=⟨_,rfl⟩
  have hlo2:lo2 = m.next + 2:=by rw [hlo0]; simp [n1]
  obtain ⟨M3,hM3⟩:∃ M3,M3 = (M1.new [sx] false).newLoop c:=⟨_,rfl⟩
  have n3:M3.next = m.next + 3:=by rw [hM3]; simp [n1]
  have k13:Kp M1 M3:=by
   rw [hM3]
   refine ⟨by simp,fun id hi => ?_,fun id hi => ?_⟩
   ·have a1:id ≠ M1.next:=by omega
    have a2:id ≠ M1.next + 1:=by omega
    simp [a1,a2]
   ·have a2:id ≠ M1.next + 1:=by omega
    simp [a2]
  have k3:Kp m M3:=k1.trans k13
  have g3d:M3.get M1.next = some (.cells [sx] false (M1.clock + 1)):=by rw [hM3]; simp
  have g3b:M3.get m.next = some (.cells [.yl lo] false (m.clock + 1)):=by rw [k13.get m.next (by omega)]; exact b0
  have g3l:∃ w,M3.loop lo2 = some ⟨.ready,none,c,w⟩:=by rw [hM3,hlo0]; exact ⟨_,by simp; rfl⟩
  rw [← hM3,← hlo0]
  have stM3:StA (fun _ => some 0) 0 M3 sx f.stack:=by
   rcases hf.stk with h | ⟨id,e,w,h1,h2,h3,h4⟩
   ·exact .inl h
   ·exact .inr ⟨id,e,w,rfl,by omega,h3,by rw [k3.get id h2]; exact h4⟩
  have nst:∀ {m'},KpC (fun i => F0 i ∨ i = lo2) M3 m' → StA (fun _ => some 0) 0 m' sx f.stack:=by
   intro m' kc
   rcases hf.stk with h | ⟨id,e,w,h1,h2,h3,h4⟩
   ·exact .inl h
   ·have hn:¬ (F0 id ∨ id = lo2):=by
     rintro (a | a)
     ·rw [hold id a] at h1; cases h1
     ·omega
    have:=kc.next
    exact .inr ⟨id,e,w,rfl,by omega,h3,by rw [kc.get id (by omega) hn,k3.get id h2]; exact h4⟩
  refine Abv (A3x (J:=fun k m' => ∃ F,J (f.stack.drop k).reverse F m' ∧ (∀ i,F i → F0 i ∨ M3.next ≤ i) ∧ KpC (fun i => F0 i ∨ i = lo2) M3 m' ∧ ∃ w,m'.loop lo2 = some ⟨.ready,none,c,w⟩) (sx:=sx) f.stack hfl ?_ ?_ M3 ⟨F0,by rw [List.drop_length]; exact hJ.keep _ _ _ _ hJ0 (.of (.of k3)),fun i hi => .inl hi,.refl _ _,g3l⟩) ?_
  ·rintro k x m' hx ⟨F,hJF,hF,kc,w,hw⟩
   refine Ad0 hw (by rw [← hcd]; rfl) ?_
   have c1:=congrArg LCode.assign hcd
   have c2:=congrArg LCode.body hcd
   have c3:=congrArg LCode.N hcd
   have c4:=congrArg LCode.s hcd
   have c5:=congrArg LCode.ps hcd
   dsimp only at c1 c2 c3 c4 c5
   simp only [← c1,← c2,← c3,← c4,← c5]
   have kn:=kc.next
   have gb:=(kc.get m.next (by omega) (by rintro (a | a); have:=hlt _ a; omega; omega)).trans g3b
   have nb:m.next ≠ m'.next:=by omega
   have nlo:lo2 ≠ m'.next:=by omega
   simp [Sl.puts,hw,gb,nb,Aad]
   obtain ⟨m4,hm4⟩:∃ m4:Mem,m4 = ((m'.new [int 0,int 0] false).set m'.next [int x.1,int x.2]).setLoop lo2 .busy none c:=⟨_,rfl⟩
   have kl:KpC (fun i => i = lo2) m' m4:=by
    rw [hm4]
    refine ⟨by simp,fun id hi _ => by have:id ≠ m'.next:=(by omega); simp [this],fun id hi hx => by have:id ≠ lo2:=hx; simp [this]⟩
   have l4:∃ w,m4.loop lo2 = some ⟨.busy,none,c,w⟩:=by rw [hm4]; exact ⟨_,by simp; rfl⟩
   obtain ⟨w4,l4⟩:=l4
   have n4:m4.next = m'.next + 1:=by rw [hm4]; simp
   have nF:¬ F lo2:=fun h => by
    rcases hF _ h with a | a
    ·have:=hlt _ a; omega
    ·omega
   have hlen:(f.stack.drop (k + 1)).reverse.length ≤ 4096:=by simp; omega
   rw [← hm4]
   refine Aac (hJ.see (f.stack.drop (k + 1)).reverse F m4 x (hJ.keep _ _ _ _ hJF (kl.mono fun i e => by have e:i = lo2:=e; rw [e]; exact nF)) hlen) ?_
   rintro _ m5 ⟨rfl,F',hJ5,hF5,kc5⟩
   have l5:=(kc5.x lo2 (by omega) nF).1.trans l4
   have n5:=kc5.next
   have nF':¬ F' lo2:=fun h => by
    rcases hF5 _ h with a | a
    ·exact nF a
    ·omega
   simp [l5]
   obtain ⟨m6,hm6⟩:∃ m6:Mem,m6 = m5.setLoop lo2 .ready none c:=⟨_,rfl⟩
   have kl6:KpC (fun i => i = lo2) m5 m6:=by
    rw [hm6]
    refine ⟨by simp,fun id hi _ => by simp,fun id hi hx => by have:id ≠ lo2:=hx; simp [this]⟩
   have l6:∃ w,m6.loop lo2 = some ⟨.ready,none,c,w⟩:=by rw [hm6]; exact ⟨_,by simp; rfl⟩
   have hrev:(f.stack.drop k).reverse = (f.stack.drop (k + 1)).reverse ++ [x]:=by
    obtain ⟨h1,h2⟩:=List.getElem?_eq_some_iff.1 hx
    rw [← List.getElem_cons_drop h1,h2,List.reverse_cons]
   rw [← hm6]
   refine ⟨F',?_,fun i hi => ?_,?_⟩
   ·rw [hrev]
    exact hJ.keep _ _ _ _ hJ5 (kl6.mono fun i e => by have e:i = lo2:=e; rw [e]; exact nF')
   ·rcases hF5 i hi with a | a
    ·exact hF i a
    ·exact .inr (by omega)
   ·refine KpC.cut (((kc.mono fun i h => .inl h).trans (kl.mono fun i e => .inl (.inr e))).trans ((kc5.mono fun i h => ?_).trans (kl6.mono fun i e => .inl (.inr e))))
    rcases hF i h with a | a
    ·exact .inl (.inl a)
    ·exact .inr a
  ·rintro k m' ⟨F,hJF,hF,kc,w,hw⟩
   have kn:=kc.next
   exact ⟨⟨by omega,_,(kc.get M1.next (by omega) (by rintro (a | a); have:=hlt _ a; omega; omega)).trans g3d⟩,nst kc⟩
  ·rintro v m' ⟨rfl,F,hJF,hF,kc,w,hw⟩
   refine ⟨_,.normal,hw,by simp,rfl,?_⟩
   simp
   have kk:KpC (fun i => i = lo2) m' (m'.killLoop lo2):=⟨Nat.le_refl _,fun _ _ _ => rfl,fun id hi hx => by
    have:id ≠ lo2:=hx
    simp [this]⟩
   have kn:=kc.next
   have nF:¬ F lo2:=fun h => by
    rcases hF _ h with a | a
    ·have:=hlt _ a; omega
    ·omega
   refine hQ _ _ _ ⟨.inl rfl,[],rfl,F,?_,fun i hi => ?_,?_⟩
   ·rw [List.drop_zero] at hJF
    exact hJ.keep _ _ _ _ hJF (kk.mono fun i e => by have e:i = lo2:=e; rw [e]; exact nF)
   ·rcases hF i hi with a | a
    ·exact .inl a
    ·exact .inr (by omega)
   ·refine KpC.cut ((KpC.of (.of k3)).trans ((kc.mono fun i h => ?_).trans (kk.mono fun i e => ?_)))
    ·rcases h with h | h
     ·exact .inl h
     ·exact .inr (by omega)
    ·have e:i = lo2:=e
     exact .inr (by omega)
end
theorem A1q {x y:Operand} {f:Fn} {a b:List AV}:abin Tryz.prog .eql 51 x y (.fn f a b) (.sc .nilFunc) = some (.sc (.bool false)):=by
 have:nilTest Tryz.prog 51 (.fn f a b) (.sc .nilFunc) = some false:=by
  unfold nilTest
  rw [Tryz.underlying51]
 simp [abin,plain,this]
theorem w16 (T:Nat) (m:Mem):EH Tryz.prog ca (.func 16) [.ptr T 0] m (.fn (.func 27) [] [.ptr m.next 0]) (m.new [.ptr T 0] false):=by
 refine eh_of (Aah Tryz.func16 rfl rfl (by simp [Tryz.f16]) (by simp [Tryz.f16]) fun Q hQ => ?_)
 simp only [Tryz.f16,show ca.keepRes 16 = false from rfl,show ca.keepArgs 16 = false from rfl] at hQ ⊢
 simp
 exact hQ _ _ _ ⟨.inr rfl,_,rfl,by simp [oneOf]⟩
def StkJ (m0:Mem) (lo a b:Nat) (c:LCode) (l:List Val) (F:Nat → Prop) (m:Mem):Prop :=
 ∃ x ver,F = (fun i => i = lo ∨ i = a ∨ i = b ∨ owns x i) ∧ lo < m.next ∧ has m a [int 1048576] ∧ has m b [x] ∧ Acc m0 m 2 true (vals l) x ∧ ¬ owns x a ∧ ¬ owns x b ∧ ¬ owns x lo ∧ m.loop lo = some ⟨.ready,none,c,ver⟩
theorem Az5 {m0:Mem} {lo a b:Nat} {c:LCode} {l:List Val} {F:Nat → Prop} {m:Mem} (h:StkJ m0 lo a b c l F m):∀ i,F i → i < m.next:=by
 obtain ⟨v,ver,rfl,h1,h2,h3,h4,_⟩:=h
 rintro i (rfl | rfl | rfl | h)
 ·exact h1
 ·exact h2.1
 ·exact h3.1
 ·exact (Ace h4 i h).2
theorem Arn {m0:Mem} {lo a b:Nat} {c:LCode} {l:List Val} {F:Nat → Prop} {m m':Mem} (h:StkJ m0 lo a b c l F m) (k:KpC (fun i => ¬ F i) m m'):StkJ m0 lo a b c l F m':=by
 obtain ⟨v,ver,rfl,h1,h2,h3,h4,h5,h6,hvlo,h7⟩:=h
 refine ⟨v,ver,rfl,Nat.lt_of_lt_of_le h1 k.next,h2.kc k (by simp),h3.kc k (by simp),Aa8 h4 k (fun j hj hn => hn (.inr (.inr (.inr hj)))),h5,h6,hvlo,?_⟩
 rw [(k.x lo h1 (by simp)).1]
 exact h7
section
variable {t:Ro} {T P A:Nat} {pr:PrM} {p:PgM} {s:MaM} {q:RestA} {now:AV} {m:Mem}
theorem w15 {B:Nat} (bd:∀ j,t j ≠ none → j < m.next) (hB:has m B [.ptr T 0]) (h:has m T (tkC P s now q)) (hc:ChA t m s.frames now) (hop:s.status = 2 → s.op ≠ 4) (hl:∀ f ∈ s.frames,f.stack.length ≤ 4096) :
  EH Tryz.prog ca (.func 15) [.fn (.func 27) [] [.ptr B 0],int 1048576] m (.lst (vals (stackM s).reverse)) m:=by
 have hsl:(stackM s).length ≤ 4096:=by
  unfold stackM
  cases hsh:shownM s with
  | nil => simp
  | cons f fs =>
   have hm:f ∈ s.frames:=by
    have:f ∈ shownM s:=by rw [hsh]; simp
    unfold shownM at this
    split at this
    ·exact this
    ·cases this
   exact hl f hm
 have hBl:=hB.1
 refine Aa1 Tryz.func15 rfl rfl rfl rfl (args1:=[.fn (.func 27) [] [.ptr B 0],int 1048576]) (m1:=m) (by simp [fzvs,fzv,fz1]) (by simp [AV.bel]) (by simp [Tryz.f15]) (by simp [Tryz.f15]) ?_
 simp only [Tryz.f15,show ca.keepRes 15 = false from rfl]
 obtain ⟨M2,hM2⟩:∃ M2,M2 = (m.new [int 1048576] false).new [.emp 0] false:=⟨_,rfl⟩
 have k2:Kp m M2:=by rw [hM2]; simp
 have n2:M2.next = m.next + 2:=by rw [hM2]; simp
 have ga:M2.get m.next = some (.cells [int 1048576] false (m.clock + 1)):=by rw [hM2]; simp
 have gb:M2.get (m.next + 1) = some (.cells [.emp 0] false (m.clock + 2)):=by rw [hM2]; simp
 simp [A1q]
 rw [← hM2]
 clear hM2
 refine Afd (f:=27) (a:=[]) (b:=[.ptr B 0]) (by simp) (by kernel_rfl) ?_
 simp only [List.nil_append,List.singleton_append]
 generalize hcd:LCode.mk _ _ _ _ _ = c
 obtain ⟨lo,hlo⟩:∃ lo,lo = M2.next:=⟨_,rfl⟩
 rw [← hlo]
 have T15:TellV (StkJ m lo m.next (m.next + 1) c) lo:=by
  refine ⟨fun l F m m' h k => Arn h k,fun l F m h => Az5 h,?_⟩
  rintro l F m1 x ⟨v,ver,rfl,h1,h2,h3,h4,h5,h6,hvlo,h7⟩ hlen
  refine Ad0 h7 (by rw [← hcd]; rfl) ?_
  obtain ⟨al,av,ae⟩:=h2
  obtain ⟨bl,bv,be⟩:=h3
  have c1:=congrArg LCode.assign hcd
  have c2:=congrArg LCode.body hcd
  have c3:=congrArg LCode.N hcd
  have c4:=congrArg LCode.s hcd
  have c5:=congrArg LCode.ps hcd
  dsimp only at c1 c2 c3 c4 c5
  simp only [← c1,← c2,← c3,← c4,← c5]
  have nb:m.next + 1 ≠ m1.next:=by omega
  have na:m.next ≠ m1.next:=by omega
  have hlp:∀ (m':Mem),abuiltin Tryz.prog .len #[48] 3 [v] m' = some (int l.length,m'):=by
   intro m'
   rcases h4 with ⟨h1,rfl⟩ | ⟨h,id,w,rfl,h2,h3,h4⟩
   ·have:l = []:=by cases l with | nil => rfl | cons a b => simp [vals] at h1
    rw [this]; exact Ach Tryz.underlying48
   ·rw [Ab6 Tryz.underlying48]; simp
  have hge:¬ (1048576:Int) ≤ l.length:=by omega
  obtain ⟨m2,hm2⟩:∃ m2:Mem,m2 = ((m1.new [int 0,int 0] false).set m1.next [int x.1,int x.2]).setLoop lo .busy none c:=⟨_,rfl⟩
  have hk:KpC (fun i => i = lo) m1 m2:=by
   rw [hm2]
   refine ⟨by simp,fun id hi _ => by have:id ≠ m1.next:=(by omega); simp [this],fun id hi hx => by have:id ≠ lo:=hx; simp [this]⟩
  have n2':m2.next = m1.next + 1:=by rw [hm2]; simp
  have nloa:m.next ≠ lo:=by omega
  have nlob:m.next + 1 ≠ lo:=by omega
  have g2a:=(hk.get m.next al nloa).trans ae
  have g2b:=(hk.get (m.next + 1) bl nlob).trans be
  have g2x:m2.get m1.next = some (.cells [int x.1,int x.2] false (m1.clock + 2)):=by rw [hm2]; simp
  have l2:∃ w,m2.loop lo = some ⟨.busy,none,c,w⟩:=by rw [hm2]; exact ⟨_,by simp; rfl⟩
  obtain ⟨w2,l2⟩:=l2
  have h4':=Aa8 h4 hk fun j hj h => hvlo (h ▸ hj)
  obtain ⟨m3,hm3⟩:∃ m3,m3 = m2.new [int x.1,int x.2] false:=⟨_,rfl⟩
  have k3:Kp m2 m3:=by rw [hm3]; simp
  have hsrc:srcOf m3 (.sl m2.next 0 1 2 true (some 1)) = some [valA x]:=by rw [hm3]; exact Ag5
  obtain ⟨v',m4,q1,q2,q3,q4⟩:=Aks (T:=48) (zs:=[valA x]) (h4'.kp k3) (by have:=k3.next; omega) (Aa5 _) el48 (by simp [Aal,Abi]) (by simp [fzvs]) (by simp; omega)
  obtain ⟨o1,o2⟩:=q2.okc
  have ovl:=Ace h4
  have n3:=k3.next
  have n4:=q3.next
  have g4b:=(q3.get (m.next + 1) (by omega) h6).trans ((k3.get (m.next + 1) (by omega)).trans g2b)
  have g4a:=(q3.get m.next (by omega) h5).trans ((k3.get m.next (by omega)).trans g2a)
  simp [Sl.puts,h7,nb,be]
  rw [← hm2]
  simp [hlp,g2a,g2b,g2x,hge,Aad]
  simp [abuildSlice,fillAt,zeros,abuiltin]
  rw [← hm3,hsrc]
  simp [q1,g4b,o1,o2]
  have l4:∃ w,m4.loop lo = some ⟨.busy,none,c,w⟩:=⟨w2,by rw [(q3.x lo (by omega) hvlo).1,(k3.x lo (by omega)).1]; exact l2⟩
  obtain ⟨w4,l4⟩:=l4
  simp [l4]
  obtain ⟨m6,hm6⟩:∃ m6:Mem,m6 = (m4.set (m.next + 1) [v']).setLoop lo .ready none c:=⟨_,rfl⟩
  have k6:KpC (fun i => i = lo ∨ i = m.next + 1) m4 m6:=by
   rw [hm6]
   refine ⟨by simp,fun id hi hx => by have:id ≠ m.next + 1:=fun e => hx (.inr e); simp [this],fun id hi hx => by have:id ≠ lo:=fun e => hx (.inl e); simp [this]⟩
  have l6:∃ w,m6.loop lo = some ⟨.ready,none,c,w⟩:=by rw [hm6]; exact ⟨_,by simp; rfl⟩
  obtain ⟨w6,l6⟩:=l6
  have g6b:∃ w,m6.get (m.next + 1) = some (.cells [v'] false w):=by rw [hm6]; exact ⟨_,by simp; rfl⟩
  have n6:m6.next = m4.next:=by rw [hm6]; simp
  have nv':∀ j,j < m1.next → owns v' j → owns v j:=fun j hj h => (q4 j h).elim id fun a => by omega
  rw [← hm6]
  refine ⟨_,⟨v',w6,rfl,by omega,⟨by omega,av,?_⟩,⟨by omega,g6b⟩,?_,fun h => h5 (nv' _ (by omega) h),fun h => h6 (nv' _ (by omega) h),fun h => hvlo (nv' _ (by omega) h),l6⟩,fun i hi => ?_,?_⟩
  ·rw [k6.get m.next (by omega) (by omega)]; exact g4a
  ·rw [Ak2]
   exact Aa8 q2 k6 fun j hj h => by
    rcases h with e | e
    ·exact hvlo (nv' j (by omega) hj |> fun a => e ▸ a)
    ·exact h6 (nv' j (by omega) hj |> fun a => e ▸ a)
  ·rcases hi with h | h | h | h
   ·exact .inl (.inl h)
   ·exact .inl (.inr (.inl h))
   ·exact .inl (.inr (.inr (.inl h)))
   ·rcases q4 i h with a | a
    ·exact .inl (.inr (.inr (.inr a)))
    ·exact .inr (by omega)
  ·refine ((hk.mono fun i e => .inl e).trans ((KpC.of (.of k3)).trans ((q3.mono fun i h => .inr (.inr (.inr h))).trans (k6.mono fun i h => ?_))))
   rcases h with e | e
   ·exact .inl e
   ·exact .inr (.inr (.inl e))
 obtain ⟨M3,hM3⟩:∃ M3,M3 = M2.newLoop c:=⟨_,rfl⟩
 have n3:M3.next = m.next + 3:=by rw [hM3]; simp [n2]
 have k3:Kp m M3:=by
  rw [hM3]
  refine ⟨by simp; omega,fun id hi => ?_,fun id hi => ?_⟩
  ·have a1:id ≠ M2.next:=by omega
   simp [a1,k2.get id hi]
  ·have a1:id ≠ M2.next:=by omega
   have:=k2.x id hi
   simp [a1]
   exact this
 have g3a:M3.get m.next = some (.cells [int 1048576] false (m.clock + 1)):=by
  have:m.next ≠ M2.next:=by omega
  rw [hM3]; simp [this,ga]
 have g3b:M3.get (m.next + 1) = some (.cells [.emp 0] false (m.clock + 2)):=by
  have:m.next + 1 ≠ M2.next:=by omega
  rw [hM3]; simp [this,gb]
 have g3l:∃ w,M3.loop lo = some ⟨.ready,none,c,w⟩:=by rw [hM3,hlo]; exact ⟨_,by simp; rfl⟩
 obtain ⟨w3,g3l⟩:=g3l
 have c3:Chg (fun _ => False) t t m M3:=Chg.refl bd k3
 rw [← hM3]
 have hno:∀ i,m.next ≤ i → t i = none:=fun i hi => by
  cases hj:t i with
  | none => rfl
  | some r => have:=bd i (by rw [hj]; simp); omega
 refine Abv (w27 (t:=t) T15 (hB.kp k3) (h.kp k3) (ChA.keep c3.kt _ _ (by simp) hc) hop hl (fun i => i = lo ∨ i = m.next ∨ i = m.next + 1 ∨ owns (.emp 0) i) ⟨.emp 0,w3,rfl,by omega,⟨by omega,_,g3a⟩,⟨by omega,_,g3b⟩,.inl ⟨rfl,rfl⟩,fun h => h,fun h => h,fun h => h,g3l⟩ fun i hi => ?_) ?_
 ·rcases hi with e | e | e | e
  ·exact hno i (by omega)
  ·exact hno i (by omega)
  ·exact hno i (by omega)
  ·exact e.elim
 rintro v m2 ⟨F',⟨x,ver,rfl,h1,h2,h3,h4,h5,h6,hvlo,h7⟩,h8,h9⟩
 refine ⟨_,.normal,h7,by simp,rfl,?_⟩
 obtain ⟨bl,bv,be⟩:=h3
 have gk:(m2.killLoop lo).get (m.next + 1) = some (.cells [x] false bv):=by simpa using be
 have kl:KpC (fun i => i = lo) m2 (m2.killLoop lo):=⟨Nat.le_refl _,fun _ _ _ => rfl,fun id hi hx => by
  have:id ≠ lo:=hx
  simp [this]⟩
 have kf:Kp m (m2.killLoop lo):=Aek (X:=fun i => i = lo ∨ i = m.next ∨ i = m.next + 1 ∨ owns (.emp 0) i) ((h9.trans (kl.mono fun i e => .inl e))) k3 fun j e => by
  rcases e with e | e | e | e
  ·omega
  ·omega
  ·omega
  ·exact e.elim
 have h4':Acc m (m2.killLoop lo) 2 true (vals (stackM s).reverse) x:=Aa8 h4 kl fun j hj e => hvlo (e ▸ hj)
 obtain ⟨m3,q1,q2⟩:=h4'.fz kf rfl (Add _) (Aa5 _)
 simp [gk]
 rw [h4'.fzr,q1]
 exact ⟨rfl,q2⟩
theorem w14 (l:List Val) (hl:l.length ≤ 4096):Gives Tryz.prog ca 14 [.lst (vals l),.lst (vals l)] (.sc (.bool true)):=by
 have ln:∀ (R:TypeId) (m:Mem),abuiltin Tryz.prog .len #[48] R [.lst (vals l)] m = some (int l.length,m):=fun R m => by rw [Abn Tryz.underlying48,Aav]
 refine Aaf Tryz.func14 rfl rfl rfl rfl (by simp) (by simp [Tryz.f14]) (by simp [Tryz.f14]) fun m => ?_
 simp [Tryz.f14,show ca.keepRes 14 = false from rfl,ln]
 refine Aan 13 l.length (fun i s m' => m' = m) (by simp) (by omega) rfl ?_
 rintro i s m' hi e13 rfl hs hw Q' hn he
 have e0:s.at 0 = .lst (vals l):=(hs 0 (by kernel_rfl)).trans (by simp)
 have e1:s.at 1 = .lst (vals l):=(hs 1 (by kernel_rfl)).trans (by simp)
 have e12:s.at 12 = int l.length:=(hs 12 (by kernel_rfl)).trans (by simp)
 clear hs
 simp [e13,e12]
 refine Aak (fun h => ?_) fun h => ?_
 ·have hlt:i < l.length:=by simpa using h
  obtain ⟨v,hv⟩:∃ v,l[i]? = some v:=⟨_,List.getElem?_eq_getElem hlt⟩
  have hne:∀ {xo yo:Operand},abin Tryz.prog .neq 44 xo yo (valA v) (valA v) = some (.sc (.bool false)):=by
   intro xo yo
   have:=(Aph (xo:=xo) (yo:=yo) two51 (x1:=.int .i64 v.1) (y1:=.int .i64 v.1) (x2:=.int .i64 v.2) (y2:=.int .i64 v.2) (b1:=decide (v.1 = v.1)) (b2:=decide (v.2 = v.2)) (fun d => by rw [Adq Tryz.underlying3]) (fun d => by rw [Adq Tryz.underlying2])).2
   simp only [decide_true,Bool.and_self,Bool.not_true] at this
   exact this
  simp
  refine Aat (by kernel_rfl) (by kernel_rfl) ?_
  simp [e0,e1,Abw hv,Aad,hne,e13,hw]
  exact hn _ _ hlt (by simp) rfl
 ·have hge:i = l.length:=by have:=of_decide_eq_false h; omega
  subst hge
  simp
  refine he _ _ _ (by simp) ?_
  simp
end
end Go.Proofs.YtjgnfadoakonfaaGreat
namespace Go.Proofs.YtjgnfadoakonfaaGreat
set_option maxRecDepth 20000
open Go.V
attribute [local simp] Nat.add_assoc
def fewD:Dat → Bool
 | .mk K N S M L T => decide (S.length ≤ 1000) && (decide (M.length ≤ 100) && (decide (L.length ≤ 300) && (decide (T.length ≤ 10) && decide (siz (.mk K N S M L T) ≤ 400))))
def fewM (p:PrM):Bool:=(decide (p.codes.length ≤ 60) && (decide (p.consts.length ≤ 60) && decide (p.names.length ≤ 60))) && ((p.codes.all fun c => decide (c.ins.length ≤ 600)) && ((p.consts.all fewD) && p.names.all fun s => decide (s.length ≤ 1000)))
theorem Ah1 {α:Type} {f:α → Bool} {l:List α} {x:α} (hx:x ∈ l) (h:f x = false):l.all f = false:=List.all_eq_false.2 ⟨x,hx,by simp [h]⟩
theorem c5 (p:PrM) (hf:PrFit p):Gives Tryz.prog ca 5 [prgA p] (.sc (.bool (fewM p))):=by
 obtain ⟨nC,hC⟩:∃ n,n = p.codes.length:=⟨_,rfl⟩
 obtain ⟨nD,hD⟩:∃ n,n = p.consts.length:=⟨_,rfl⟩
 obtain ⟨nN,hN⟩:∃ n,n = p.names.length:=⟨_,rfl⟩
 have l22:∀ (R:TypeId) (m:Mem),abuiltin Tryz.prog .len #[22] R [.lst (cods p.codes)] m = some (int nC,m):=by rw [hC]; exact len22 p.codes
 have l23:∀ (R:TypeId) (m:Mem),abuiltin Tryz.prog .len #[23] R [.lst (encs p.consts)] m = some (int nD,m):=by rw [hD]; exact len23 p.consts
 have l24:∀ (R:TypeId) (m:Mem),abuiltin Tryz.prog .len #[24] R [.lst (strs p.names)] m = some (int nN,m):=by rw [hN]; exact len24 p.names
 have bad:¬ (nC ≤ 60 ∧ nD ≤ 60 ∧ nN ≤ 60) → fewM p = false:=by
  intro h
  rw [hC,hD,hN] at h
  by_cases a:p.codes.length ≤ 60
  ·by_cases b:p.consts.length ≤ 60
   ·have c:¬ p.names.length ≤ 60:=fun c => h ⟨a,b,c⟩
    simp [fewM,c]
   ·simp [fewM,b]
  ·simp [fewM,a]
 by_cases h1:60 < nC
 ·rw [bad (by omega)]
  refine Aaf Tryz.func5 rfl rfl rfl rfl (by simp) (by simp [Tryz.f5]) (by simp [Tryz.f5]) fun m => ?_
  simp [Tryz.f5,show ca.keepRes 5 = false from rfl,l22,show (60:Int) < nC by omega,undefV,undef]
 by_cases h2:60 < nD
 ·rw [bad (by omega)]
  refine Aaf Tryz.func5 rfl rfl rfl rfl (by simp) (by simp [Tryz.f5]) (by simp [Tryz.f5]) fun m => ?_
  simp [Tryz.f5,show ca.keepRes 5 = false from rfl,l22,l23,show ¬ (60:Int) < nC by omega,show (60:Int) < nD by omega,undefV,undef]
 by_cases h3:60 < nN
 ·rw [bad (by omega)]
  refine Aaf Tryz.func5 rfl rfl rfl rfl (by simp) (by simp [Tryz.f5]) (by simp [Tryz.f5]) fun m => ?_
  simp [Tryz.f5,show ca.keepRes 5 = false from rfl,l22,l23,l24,show ¬ (60:Int) < nC by omega,show ¬ (60:Int) < nD by omega,show (60:Int) < nN by omega,undefV,undef]
 have hcnt:(decide (p.codes.length ≤ 60) && (decide (p.consts.length ≤ 60) && decide (p.names.length ≤ 60))) = true:=by
  simp; omega
 refine Aaf Tryz.func5 rfl rfl rfl rfl (by simp) (by simp [Tryz.f5]) (by simp [Tryz.f5]) fun m => ?_
 simp only [Tryz.f5,show ca.keepRes 5 = false from rfl]
 obtain ⟨M1,hM1⟩:∃ M1,M1 = m.new [.lst (cods p.codes),.lst (encs p.consts),.lst (strs p.names)] false:=⟨_,rfl⟩
 have k1:Kp m M1:=by rw [hM1]; simp
 have n1:M1.next = m.next + 1:=by rw [hM1]; simp
 have b1:M1.get m.next = some (.cells [.lst (cods p.codes),.lst (encs p.consts),.lst (strs p.names)] false (m.clock + 1)):=by rw [hM1]; simp
 simp [l22,l23,l24,show ¬ (60:Int) < nC by omega,show ¬ (60:Int) < nD by omega,show ¬ (60:Int) < nN by omega]
 rw [← hM1]
 clear hM1
 refine Aan 28 nC (fun i s' m' => Kp M1 m' ∧ ∀ (j:Nat) c,j < i → p.codes[j]? = some c → c.ins.length ≤ 600) (by simp) (by omega) ⟨.refl _,by omega⟩ ?_
 rintro i s' m' hi e28 ⟨hk,hall⟩ hsame hw Q' hn he
 have e1:s'.at 1 = .ptr m.next 0:=(hsame 1 (by kernel_rfl)).trans (by simp)
 have e26:s'.at 26 = .lst (cods p.codes):=(hsame 26 (by kernel_rfl)).trans (by simp)
 have e27:s'.at 27 = int nC:=(hsame 27 (by kernel_rfl)).trans (by simp)
 clear hsame
 have b1':=(hk.get m.next (by omega)).trans b1
 by_cases hlt:i < nC
 ·obtain ⟨d,hd⟩:∃ d,p.codes[i]? = some d:=⟨_,List.getElem?_eq_getElem (by omega)⟩
  have l55:∀ (R:TypeId) (m:Mem),abuiltin Tryz.prog .len #[55] R [.lst (inss d.ins)] m = some (int d.ins.length,m):=len55 d.ins
  obtain ⟨M2,hM2⟩:∃ M2,M2 = (m'.new [int 0,int 0,int 0,int 0,.emp 0] false).set m'.next [int d.params,int d.rest,int d.caps,int d.max,.lst (inss d.ins)]:=⟨_,rfl⟩
  have k2:Kp m' M2:=by rw [hM2]; simp
  have g2:M2.get m'.next = some (.cells [int d.params,int d.rest,int d.caps,int d.max,.lst (inss d.ins)] false (m'.clock + 2)):=by rw [hM2]; simp
  simp [e28,e27,hlt,e26,Aet hd]
  rw [← hM2]
  clear hM2
  by_cases h6:600 < d.ins.length
  ·have hfm:fewM p = false:=by
    rw [fewM,Ah1 (List.mem_of_getElem? hd) (by simpa using h6)]
    simp
   simp [g2,l55,show (600:Int) < d.ins.length by omega]
   refine he _ _ _ (by simp) ?_
   rw [hfm]
   simp
   exact (k1.trans hk).trans k2
  ·simp [g2,l55,show ¬ (600:Int) < d.ins.length by omega,e28,hw]
   refine hn _ _ hlt (by simp) ⟨hk.trans k2,fun j d' hj hd' => ?_⟩
   rcases Nat.lt_or_ge j i with h2 | h2
   ·exact hall j d' h2 hd'
   ·obtain rfl:j = i:=by omega
    rw [hd] at hd'
    cases hd'
    omega
 have hge:i = nC:=by omega
 subst hge
 have hcod:(p.codes.all fun c => decide (c.ins.length ≤ 600)) = true:=List.all_eq_true.2 fun c hc => by
  obtain ⟨j,hj⟩:=List.mem_iff_getElem?.1 hc
  simpa using hall j c (by have:=(List.getElem?_eq_some_iff.1 hj).1; omega) hj
 simp [e28,e27]
 refine he _ _ _ (by simp) ?_
 clear he hn
 simp [e1,b1',l23]
 refine Aan 40 nD (fun i s' m' => Kp M1 m' ∧ ∀ (j:Nat) d,j < i → p.consts[j]? = some d → fewD d = true) (by simp) (by omega) ⟨hk,by omega⟩ ?_
 clear e26 e27 e28 b1' hk hall hi hw
 rintro i s' m' hi e40 ⟨hk,hall⟩ hsame hw Q' hn he
 have f1:s'.at 1 = .ptr m.next 0:=(hsame 1 (by kernel_rfl)).trans (by simp [e1])
 have f38:s'.at 38 = .lst (encs p.consts):=(hsame 38 (by kernel_rfl)).trans (by simp)
 have f39:s'.at 39 = int nD:=(hsame 39 (by kernel_rfl)).trans (by simp)
 clear hsame e1
 have b1':=(hk.get m.next (by omega)).trans b1
 by_cases hlt:i < nD
 ·obtain ⟨d,hd⟩:∃ d,p.consts[i]? = some d:=⟨_,List.getElem?_eq_getElem (by omega)⟩
  have hdf:=hf.consts.2 d (List.mem_of_getElem? hd)
  have hdm:=List.mem_of_getElem? hd
  have hat:=Anu hd
  have q18:=Akl (g34 d hdf)
  have hfail:fewD d = false → fewM p = false:=by
   intro h
   rw [fewM,hcnt,hcod,Ah1 hdm h]
   rfl
  have q18':=fun M:Mem => (q18 M [enc d] M (by simp [fzvs]))
  have nxt:fewD d = true → ∀ (s9:Sl) (M9:Mem),Kp m' M9 → s9.at 40 = int ((i:Int) + 1) → Q' .normal s9 M9:=by
   intro h s9 M9 hk9 h9
   refine hn _ _ hlt h9 ⟨hk.trans hk9,fun j d' hj hd' => ?_⟩
   rcases Nat.lt_or_ge j i with h2 | h2
   ·exact hall j d' h2 hd'
   ·obtain rfl:j = i:=by omega
    rw [hd] at hd'
    cases hd'
    exact h
  obtain ⟨K,N,Sx,M,L,Tx⟩:=d
  have hcells:(enc (.mk K N Sx M L Tx)).cells = [int K,int N,.sc (.string ⟨⟨Sx⟩⟩),.lst (M.map int),.lst (encs L),.lst (encs Tx)]:=rfl
  obtain ⟨M2,hM2⟩:∃ M2,M2 = (m'.new zeroCells false).set m'.next [int K,int N,.sc (.string ⟨⟨Sx⟩⟩),.lst (M.map int),.lst (encs L),.lst (encs Tx)]:=⟨_,rfl⟩
  have k2:Kp m' M2:=by rw [hM2]; simp
  have g2:M2.get m'.next = some (.cells [int K,int N,.sc (.string ⟨⟨Sx⟩⟩),.lst (M.map int),.lst (encs L),.lst (encs Tx)] false (m'.clock + 2)):=by rw [hM2]; simp
  have eag:AV.agg [int K,int N,.sc (.string ⟨⟨Sx⟩⟩),.lst (M.map int),.lst (encs L),.lst (encs Tx)] = enc (.mk K N Sx M L Tx):=rfl
  have kk:=(k1.trans hk).trans k2
  simp [e40,f39,hlt,f38,hat,hcells]
  rw [← hM2]
  clear hM2
  by_cases a1:1000 < Sx.length
  ·have h0:=hfail (by simp [fewD]; intros; omega)
   simp [show (1000:Int) < Sx.length by omega,undefV,undef]
   refine he _ _ _ (by simp) ?_
   rw [h0]
   simp
   exact kk
  by_cases a2:100 < M.length
  ·have h0:=hfail (by simp [fewD]; intros; omega)
   simp [show ¬ (1000:Int) < Sx.length by omega,g2,show (100:Int) < M.length by omega,undefV,undef]
   refine he _ _ _ (by simp) ?_
   rw [h0]
   simp
   exact kk
  by_cases a3:300 < L.length
  ·have h0:=hfail (by simp [fewD]; intros; omega)
   simp [show ¬ (1000:Int) < Sx.length by omega,g2,show ¬ (100:Int) < M.length by omega,show (300:Int) < L.length by omega,undefV,undef]
   refine he _ _ _ (by simp) ?_
   rw [h0]
   simp
   exact kk
  by_cases a4:10 < Tx.length
  ·have h0:=hfail (by simp [fewD]; intros; omega)
   simp [show ¬ (1000:Int) < Sx.length by omega,g2,show ¬ (100:Int) < M.length by omega,show ¬ (300:Int) < L.length by omega,show (10:Int) < Tx.length by omega,undefV,undef]
   refine he _ _ _ (by simp) ?_
   rw [h0]
   simp
   exact kk
  by_cases a5:400 < siz (.mk K N Sx M L Tx)
  ·have h0:=hfail (by simp [fewD,a5])
   simp [show ¬ (1000:Int) < Sx.length by omega,g2,show ¬ (100:Int) < M.length by omega,show ¬ (300:Int) < L.length by omega,show ¬ (10:Int) < Tx.length by omega,eag,(q18' _).go,a5]
   refine he _ _ _ (by simp) ?_
   rw [h0]
   simp
   exact kk
  ·have hok:fewD (.mk K N Sx M L Tx) = true:=by
    simp [fewD]
    omega
   simp [show ¬ (1000:Int) < Sx.length by omega,g2,show ¬ (100:Int) < M.length by omega,show ¬ (300:Int) < L.length by omega,show ¬ (10:Int) < Tx.length by omega,eag,(q18' _).go,a5,e40,hw]
   exact nxt hok _ _ k2 (by simp)
 have hge:i = nD:=by omega
 subst hge
 have hcon:p.consts.all fewD = true:=List.all_eq_true.2 fun c hc => by
  obtain ⟨j,hj⟩:=List.mem_iff_getElem?.1 hc
  exact hall j c (by have:=(List.getElem?_eq_some_iff.1 hj).1; omega) hj
 simp [e40,f39]
 refine he _ _ _ (by simp) ?_
 clear he hn
 simp [f1,b1',l24]
 refine Aan 75 nN (fun i s' m' => Kp M1 m' ∧ ∀ (j:Nat) d,j < i → p.names[j]? = some d → d.length ≤ 1000) (by simp) (by omega) ⟨hk,by omega⟩ ?_
 clear f38 f39 e40 b1' hk hall hi hw f1
 rintro i s' m' hi e75 ⟨hk,hall⟩ hsame hw Q' hn he
 have f73:s'.at 73 = .lst (strs p.names):=(hsame 73 (by kernel_rfl)).trans (by simp)
 have f74:s'.at 74 = int nN:=(hsame 74 (by kernel_rfl)).trans (by simp)
 clear hsame
 by_cases hlt:i < nN
 ·obtain ⟨d,hd⟩:∃ d,p.names[i]? = some d:=⟨_,List.getElem?_eq_getElem (by omega)⟩
  simp [e75,f74,hlt,f73,Ajr hd]
  by_cases a1:1000 < d.length
  ·have hfm:fewM p = false:=by
    rw [fewM,Ah1 (l:=p.names) (List.mem_of_getElem? hd) (by simpa using a1)]
    simp
   simp [show (1000:Int) < d.length by omega]
   refine he _ _ _ (by simp) ?_
   rw [hfm]
   simp
   exact k1.trans hk
  ·simp [show ¬ (1000:Int) < d.length by omega,e75,hw]
   refine hn _ _ hlt (by simp) ⟨hk,fun j d' hj hd' => ?_⟩
   rcases Nat.lt_or_ge j i with h2 | h2
   ·exact hall j d' h2 hd'
   ·obtain rfl:j = i:=by omega
    rw [hd] at hd'
    cases hd'
    omega
 have hge:i = nN:=by omega
 subst hge
 have hnam:(p.names.all fun s => decide (s.length ≤ 1000)) = true:=List.all_eq_true.2 fun c hc => by
  obtain ⟨j,hj⟩:=List.mem_iff_getElem?.1 hc
  simpa using hall j c (by have:=(List.getElem?_eq_some_iff.1 hj).1; omega) hj
 have hfm:fewM p = true:=by rw [fewM,hcnt,hcod,hcon,hnam]; rfl
 simp [e75,f74]
 refine he _ _ _ (by simp) ?_
 rw [hfm]
 simp
 exact k1.trans hk
end Go.Proofs.YtjgnfadoakonfaaGreat
namespace Go.Proofs.YtjgnfadoakonfaaGreat
open Go.V
theorem run4:(afn Tryz.prog cka 30 (.func 4) [] Mem.empty).map (·.1) = some (.sc (.bool true)):=by kernel_rfl
theorem c4 (m:Mem):EH Tryz.prog ca (.func 4) [] m (.sc (.bool true)) m:=Ay8 rfl run4 rfl
end Go.Proofs.YtjgnfadoakonfaaGreat
