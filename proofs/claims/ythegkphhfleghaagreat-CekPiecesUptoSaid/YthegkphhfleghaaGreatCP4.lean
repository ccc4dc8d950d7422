/- Part of a proof. -/
import Derived.Test.YthegkphhfleghaaGreatCP3
import Derived.IntWalk
set_option maxHeartbeats 64000000
set_option linter.unusedSimpArgs false
set_option linter.unusedVariables false
set_option linter.unusedSectionVars false
namespace Go.V
variable {P:Program} {cfg:Cfg}
def Evt (p:Nat → Prop):Prop:=∃ n0,∀ n,n0 ≤ n → p n
theorem Evt.all {p:Nat → Prop} (h:∀ n,p n):Evt p:=⟨0,fun n _ => h n⟩
theorem Evt.mono {p q:Nat → Prop} (h:Evt p) (k:∀ n,p n → q n):Evt q:=let ⟨n0,hn⟩:=h; ⟨n0,fun n l => k n (hn n l)⟩
theorem Evt.and {p q:Nat → Prop} (h:Evt p) (k:Evt q):Evt fun n => p n ∧ q n :=
 let ⟨a,ha⟩:=h; let ⟨b,hb⟩:=k
 ⟨a + b,fun n l => ⟨ha n (by omega),hb n (by omega)⟩⟩
theorem Evt.both {p q r:Nat → Prop} (h:Evt p) (k:Evt q) (f:∀ n,p n → q n → r n):Evt r:=(h.and k).mono fun n x => f n x.1 x.2
theorem Evt.one {p:Nat → Prop} (h:Evt p):∃ n,p n:=let ⟨n0,hn⟩:=h; ⟨n0,hn n0 (Nat.le_refl _)⟩
def EH (P:Program) (cfg:Cfg) (fn:Fn) (args:List AV) (m:Mem) (r:AV) (m':Mem):Prop:=Evt fun n => afn P cfg n fn args m = some (r,m')
def wph (P:Program) (cfg:Cfg) (fn:Fn) (args:List AV) (m:Mem) (K:AV → Mem → Prop):Prop:=∃ v m1,EH P cfg fn args m v m1 ∧ K v m1
def wpR (r:Option (AV × Mem)) (K:AV → Mem → Prop):Prop:=match r with | some (v,m) => K v m | none => False
def wpP (r:Option Sl) (K:Sl → Prop):Prop:=match r with | some s => K s | none => False
def wpIf (t:Bool) (A B:Prop):Prop:=match t with | true => A | false => B
def wpB (v:AV) (K:Bool → Prop):Prop:=match v with | .sc (.bool t) => K t | _ => False
def wpF (v:AV) (args:List AV) (K:Fn → List AV → Prop):Prop:=match v with | .fn (.func f) a b => K (.func f) (a ++ args ++ b) | .yl id => K (.yield id) args | _ => False
@[congr] theorem A4s {fn:Fn} {args args':List AV} {m:Mem} {K:AV → Mem → Prop} (h:args = args'):wph P cfg fn args m K = wph P cfg fn args' m K:=by rw [h]
def wps (P:Program) (cfg:Cfg) (s:Sl) (o:Oper) (m:Mem) (K:AV → Mem → Prop):Prop :=
 match o.op with
 | .call { callee:=.value f,args,.. } => wpF (ev s f) (args.toList.map (ev s)) fun fn as => wph P cfg fn as m K
 | _ => wpR (aop P s o m) K
theorem Alj {s:Sl} {o:Oper} {m:Mem} {K:AV → Mem → Prop} (h:wps P cfg s o m K):∃ v m1,Evt (fun n => astep P (afn P cfg n) s o m = some (v,m1)) ∧ K v m1:=by
 unfold wps at h
 split at h
 ·rename_i f args ts ho
  unfold wpF at h
  split at h
  ·rename_i fn a b hf
   obtain ⟨v,m1,h1,h2⟩:=h
   exact ⟨v,m1,h1.mono fun n hn => by unfold astep; rw [ho]; dsimp only; rw [hf]; exact hn,h2⟩
  ·rename_i id hf
   obtain ⟨v,m1,h1,h2⟩:=h
   exact ⟨v,m1,h1.mono fun n hn => by unfold astep; rw [ho]; dsimp only; rw [hf]; exact hn,h2⟩
  ·exact h.elim
 ·rename_i ho
  unfold wpR at h
  split at h
  ·rename_i v m1 hr
   refine ⟨v,m1,.all fun n => ?_,h⟩
   unfold astep
   split
   ·rename_i f args ts hc; exact absurd hc (ho f args ts)
   ·exact hr
  ·exact h.elim
def wpo (P:Program) (cfg:Cfg) (N:Nat) (all:Array Oper):List Oper → Sl → Mem → (Sl → Mem → Prop) → Prop
 | [],s,m,K => K s m
 | o :: rest,s,m,K => wpIf (Region.wanted o (ayields all s)) (wps P cfg s o m fun v m1 => wpP (aput N s o.dst v) fun s1 => wpo P cfg N all rest s1 m1 K) (wpP (aput N s o.dst undefV) fun s1 => wpo P cfg N all rest s1 m K)
def orE {α:Type}:Option α → Option α → Option α
 | some a,_ => some a
 | Option.none,b => b
theorem Ayg {α:Type} {a:α} {b:Option α}:orE (some a) b = some a:=rfl
theorem Ayh {α:Type} {b:Option α}:orE Option.none b = b:=rfl
@[congr] theorem A49 {α:Type} {a a' b:Option α} (h:a = a'):orE a b = orE a' b:=by rw [h]
def wpsU (P:Program) (cfg:Cfg) (s:Sl) (o:Oper) (m:Mem) (K:AV → Mem → Prop):Prop :=
 match o.op with
 | .slice T x lo hi mx => wpR (orE ((aslice P T (ev s x) (lo.map (ev s)) (hi.map (ev s)) (mx.map (ev s))).map (·,m)) (amlen P s o m)) K
 | .convert T U x => wpR (orE ((aconvert P T U (ev s x)).map (·,m)) (amlen P s o m)) K
 | _ => wps P cfg s o m K
theorem Anb {P:Program} {H:Calls1} {s:Sl} {o:Oper} {m:Mem}:astepU P H s o m = orE (astep P H s o m) (amlen P s o m):=by
 unfold astepU
 cases astep P H s o m <;> rfl
theorem Asy {r:Option (AV × Mem)} {K:AV → Mem → Prop} (h:wpR r K):∃ v m1,r = some (v,m1) ∧ K v m1:=by
 unfold wpR at h
 split at h
 ·rename_i v m1; exact ⟨v,m1,rfl,h⟩
 ·exact h.elim
theorem Aq4 {s:Sl} {o:Oper} {m:Mem} {K:AV → Mem → Prop} (h:wpsU P cfg s o m K):∃ v m1,Evt (fun n => astepU P (afn P cfg n) s o m = some (v,m1)) ∧ K v m1:=by
 unfold wpsU at h
 split at h
 ·rename_i T x lo hi mx ho
  obtain ⟨v,m1,h1,h2⟩:=Asy h
  refine ⟨v,m1,.all fun n => ?_,h2⟩
  rw [Anb,← h1]
  congr 1
  unfold astep
  rw [ho]
  dsimp only
  unfold aop
  rw [ho]
 ·rename_i T U x ho
  obtain ⟨v,m1,h1,h2⟩:=Asy h
  refine ⟨v,m1,.all fun n => ?_,h2⟩
  rw [Anb,← h1]
  congr 1
  unfold astep
  rw [ho]
  dsimp only
  unfold aop
  rw [ho]
 ·obtain ⟨v,m1,h1,h2⟩:=Alj h
  exact ⟨v,m1,h1.mono fun n hn => Aik hn,h2⟩
def wpoU (P:Program) (cfg:Cfg) (N:Nat) (all:Array Oper):List Oper → Sl → Mem → (Sl → Mem → Prop) → Prop
 | [],s,m,K => K s m
 | o :: rest,s,m,K => wpIf (Region.wanted o (ayields all s)) (wpsU P cfg s o m fun v m1 => wpP (aput N s o.dst v) fun s1 => wpoU P cfg N all rest s1 m1 K) (wpP (aput N s o.dst undefV) fun s1 => wpoU P cfg N all rest s1 m K)
theorem Acd {N:Nat} {all:Array Oper}:∀ (l:List Oper) (s:Sl) (m:Mem) (K:Sl → Mem → Prop),wpoU P cfg N all l s m K → ∃ s' m',Evt (fun n => aops P (afn P cfg n) N all l s m = some (s',m')) ∧ K s' m'
 | [],s,m,K,h => ⟨s,m,.all fun n => rfl,h⟩
 | o :: rest,s,m,K,h => by
  simp only [wpoU] at h
  cases hw:Region.wanted o (ayields all s) with
  | true =>
   rw [hw] at h
   obtain ⟨v,m1,h1,h2⟩:=Aq4 h
   unfold wpP at h2
   split at h2
   ·rename_i s1 hs
    obtain ⟨s',m',h3,h4⟩:=Acd rest s1 m1 K h2
    exact ⟨s',m',h1.both h3 fun n a b => by simp only [aops]; rw [if_pos hw,a]; dsimp only; rw [hs]; exact b,h4⟩
   ·exact h2.elim
  | false =>
   rw [hw] at h
   unfold wpIf wpP at h
   dsimp only at h
   split at h
   ·rename_i s1 hs
    obtain ⟨s',m',h3,h4⟩:=Acd rest s1 m K h
    exact ⟨s',m',h3.mono fun n b => by simp only [aops]; rw [if_neg (by rw [hw]; simp),hs]; exact b,h4⟩
   ·exact h.elim
def wpt (P:Program) (cfg:Cfg) (N:Nat) (all:Array Oper):List Oper → Sl → Mem → List (Sl × Mem) → (List (Sl × Mem) → Sl → Mem → Prop) → Prop
 | [],s,m,acc,K => K (acc ++ [(s,m)]) s m
 | o :: rest,s,m,acc,K => wpIf (Region.wanted o (ayields all s)) (wps P cfg s o m fun v m1 => wpP (aput N s o.dst v) fun s1 => wpt P cfg N all rest s1 m1 (acc ++ [(s,m)]) K) (wpP (aput N s o.dst undefV) fun s1 => wpt P cfg N all rest s1 m (acc ++ [(s,m)]) K)
theorem Ahh {N:Nat} {all:Array Oper}:∀ (l:List Oper) (s:Sl) (m:Mem) (acc:List (Sl × Mem)) (K:List (Sl × Mem) → Sl → Mem → Prop),wpt P cfg N all l s m acc K → ∃ s' m' ms,Evt (fun n => aopsT P (afn P cfg n) N all l s m = some (s',m',ms)) ∧ ms.length = l.length + 1 ∧ K (acc ++ ms) s' m'
 | [],s,m,acc,K,h => ⟨s,m,[(s,m)],.all fun n => rfl,rfl,h⟩
 | o :: rest,s,m,acc,K,h => by
  simp only [wpt] at h
  cases hw:Region.wanted o (ayields all s) with
  | true =>
   rw [hw] at h
   obtain ⟨v,m1,h1,h2⟩:=Alj h
   unfold wpP at h2
   split at h2
   ·rename_i s1 hs
    obtain ⟨s',m',ms,h3,hl,h4⟩:=Ahh rest s1 m1 _ K h2
    exact ⟨s',m',(s,m) :: ms,h1.both h3 fun n a b => by simp only [aopsT]; rw [if_pos hw,Awg a]; dsimp only; rw [hs]; dsimp only; rw [b]; rfl,by simp [hl],by simpa using h4⟩
   ·exact h2.elim
  | false =>
   rw [hw] at h
   unfold wpIf wpP at h
   dsimp only at h
   split at h
   ·rename_i s1 hs
    obtain ⟨s',m',ms,h3,hl,h4⟩:=Ahh rest s1 m _ K h
    exact ⟨s',m',(s,m) :: ms,h3.mono fun n b => by simp only [aopsT]; rw [if_neg (by rw [hw]; simp),hs]; dsimp only; rw [b]; rfl,by simp [hl],by simpa using h4⟩
   ·exact h.elim
def thn (A:Sl → Mem → Prop) (Q:Ex → Sl → Mem → Prop) (e:Ex) (s:Sl) (m:Mem):Prop:=match e with | .normal => A s m | e => Q e s m
def blk (id:Nat) (Q:Ex → Sl → Mem → Prop) (e:Ex) (s:Sl) (m:Mem):Prop:=match e with | .exit id' => if id' = id then Q .normal s m else Q (.exit id') s m | e => Q e s m
def wpc (P:Program) (cfg:Cfg) (N:Nat):Code → Sl → Mem → (Ex → Sl → Mem → Prop) → Prop
 | .skip,s,m,Q | .label _,s,m,Q => Q .normal s m
 | .exit id,s,m,Q => Q (.exit id) s m
 | .ret,s,m,Q => Q .ret s m
 | .region _ ops draw,s,m,Q => if draw then (∃ os,normO ops = some os ∧ (wpt P cfg N os os.toList s m [] (fun ms s m => (metL os).all (metAt os ms) = true ∧ Q .normal s m) ∨ (calm os = true ∧ metL os = [] ∧ wpoU P cfg N os os.toList s m (Q .normal)))) else wpoU P cfg N ops ops.toList s m (Q .normal)
 | .seq a b,s,m,Q => wpc P cfg N a s m (thn (fun s m => wpc P cfg N b s m Q) Q)
 | .cond c x y,s,m,Q => wpB (ev s c) fun t => wpIf t (wpc P cfg N x s m Q) (wpc P cfg N y s m Q)
 | .block id b,s,m,Q => wpc P cfg N b s m (blk id Q)
 | .loop b,s,m,Q => ∃ (I:Nat → Sl → Mem → Prop) (k:Nat),I k s m ∧ ∀ k s m,I k s m → wpc P cfg N b s m (thn (fun s m => ∃ k',k' < k ∧ I k' s m) Q)
 | .rangeFunc g ps x y,s,m,Q => match ev s g with
  | .fn (.func f) a b => ((P.funcs[f]?).bind (·.body)).isSome = true ∧ wph P cfg (.func f) (a ++ [.yl m.next] ++ b) (m.newLoop ⟨s,ps,x,y,N⟩) fun _ m2 => ∃ L e,m2.loop m.next = some L ∧ L.st ≠ .busy ∧ exOf L.pend = some e ∧ Q e s (m2.killLoop m.next)
  | _ => False
 | _,_,_,_ => False
theorem Ac5 {N:Nat}:∀ (c:Code) (s:Sl) (m:Mem) (Q:Ex → Sl → Mem → Prop),wpc P cfg N c s m Q → ∃ e s' m',Evt (fun n => acode P (afn P cfg n) N n c s m = some (e,s',m')) ∧ Q e s' m':=by
 intro c
 induction c with
 | skip => intro s m Q h; exact ⟨.normal,s,m,.all fun n => rfl,h⟩
 | label l => intro s m Q h; exact ⟨.normal,s,m,.all fun n => rfl,h⟩
 | exit l => intro s m Q h; exact ⟨.exit l,s,m,.all fun n => rfl,h⟩
 | ret => intro s m Q h; exact ⟨.ret,s,m,.all fun n => rfl,h⟩
 | region id ops draw =>
  intro s m Q h
  simp only [wpc] at h
  split at h
  ·rename_i hd
   obtain ⟨os,h1,h2⟩:=h
   rcases h2.symm with ⟨hc,hm,h2⟩ | h2
   ·obtain ⟨s',m',h3,h5⟩:=Acd _ _ _ _ h2
    refine ⟨.normal,s',m',h3.mono fun n hn => ?_,h5⟩
    obtain ⟨ms,hn⟩:=Awi hc _ _ _ _ _ hn
    simp only [acode]
    rw [if_pos hd,h1]
    dsimp only
    rw [hn]
    dsimp only
    rw [hm]
    rfl
   obtain ⟨s',m',ms,h3,hl,h4,h5⟩:=Ahh _ _ _ _ _ h2
   refine ⟨.normal,s',m',h3.mono fun n hn => ?_,h5⟩
   simp only [acode]
   rw [if_pos hd,h1]
   dsimp only
   rw [hn]
   dsimp only
   rw [if_pos (by simpa using h4)]
  ·rename_i hd
   obtain ⟨s',m',h3,h5⟩:=Acd _ _ _ _ h
   refine ⟨.normal,s',m',h3.mono fun n hn => ?_,h5⟩
   simp only [acode]
   rw [if_neg hd,hn]
 | seq a b iha ihb =>
  intro s m Q h
  obtain ⟨e,s1,m1,h1,h2⟩:=iha _ _ _ h
  cases e with
  | normal =>
   obtain ⟨e,s2,m2,h3,h4⟩:=ihb _ _ _ h2
   exact ⟨e,s2,m2,h1.both h3 fun n a b => by simp only [acode]; rw [a]; exact b,h4⟩
  | _ => exact ⟨_,s1,m1,h1.mono fun n a => by simp only [acode]; rw [a],h2⟩
 | cond c x y ihx ihy =>
  intro s m Q h
  simp only [wpc] at h
  unfold wpB at h
  split at h
  ·rename_i t ht
   cases t with
   | true =>
    obtain ⟨e,s2,m2,h3,h4⟩:=ihx _ _ _ h
    exact ⟨e,s2,m2,h3.mono fun n a => by simp only [acode]; rw [ht]; exact a,h4⟩
   | false =>
    obtain ⟨e,s2,m2,h3,h4⟩:=ihy _ _ _ h
    exact ⟨e,s2,m2,h3.mono fun n a => by simp only [acode]; rw [ht]; exact a,h4⟩
  ·exact h.elim
 | block id b ih =>
  intro s m Q h
  obtain ⟨e,s1,m1,h1,h2⟩:=ih _ _ _ h
  cases e with
  | exit id' =>
   simp only [blk] at h2
   split at h2
   ·rename_i hid
    exact ⟨.normal,s1,m1,h1.mono fun n a => by simp only [acode]; rw [a]; dsimp only; rw [if_pos hid],h2⟩
   ·rename_i hid
    exact ⟨.exit id',s1,m1,h1.mono fun n a => by simp only [acode]; rw [a]; dsimp only; rw [if_neg hid],h2⟩
  | _ => exact ⟨_,s1,m1,h1.mono fun n a => by simp only [acode]; rw [a],h2⟩
 | loop b ih =>
  intro s m Q h
  simp only [wpc] at h
  obtain ⟨I,k,hI,hr⟩:=h
  have key:∀ k s m,I k s m → ∃ e s' m',(∃ n0,∀ n f,n0 ≤ n → n0 ≤ f → aloop (acode P (afn P cfg n) N n b) f s m = some (e,s',m')) ∧ Q e s' m':=by
   intro k
   induction k using Nat.strongRecOn with
   | _ k ihk =>
    intro s m hI
    obtain ⟨e,s1,m1,⟨n1,h1⟩,h2⟩:=ih _ _ _ (hr k s m hI)
    cases e with
    | normal =>
     obtain ⟨k',hk,hI'⟩:=h2
     obtain ⟨e,s2,m2,⟨n2,h3⟩,h4⟩:=ihk k' hk _ _ hI'
     refine ⟨e,s2,m2,⟨n1 + n2 + 1,fun n f hn hf => ?_⟩,h4⟩
     obtain ⟨f,rfl⟩:∃ f',f = f' + 1:=⟨f - 1,by omega⟩
     simp only [aloop]
     rw [h1 n (by omega)]
     exact h3 n f (by omega) (by omega)
    | _ =>
     refine ⟨_,s1,m1,⟨n1 + 1,fun n f hn hf => ?_⟩,h2⟩
     obtain ⟨f,rfl⟩:∃ f',f = f' + 1:=⟨f - 1,by omega⟩
     simp only [aloop]
     rw [h1 n (by omega)]
  obtain ⟨e,s',m',⟨n0,h1⟩,h2⟩:=key k s m hI
  exact ⟨e,s',m',⟨n0,fun n hn => h1 n n hn hn⟩,h2⟩
 | rangeFunc g ps x y =>
  intro s m Q h
  simp only [wpc] at h
  split at h
  ·rename_i f a b hf
   obtain ⟨hb,v,m2,h1,L,e,h2,h3,h4,h5⟩:=h
   refine ⟨e,s,m2.killLoop m.next,h1.mono fun n hn => ?_,h5⟩
   simp only [acode,hf]
   rw [if_pos hb,hn]
   dsimp only
   rw [h2]
   dsimp only
   rw [if_neg h3,h4]
  ·exact h.elim
 | _ => intro s m Q h; exact h.elim
theorem Akf {r:Option (AV × Mem)} {K K':AV → Mem → Prop} (h:wpR r K) (k:∀ v m,K v m → K' v m):wpR r K':=by
 unfold wpR at h ⊢
 split at h
 ·exact k _ _ h
 ·exact h.elim
theorem Aco {r:Option Sl} {K K':Sl → Prop} (h:wpP r K) (k:∀ s,K s → K' s):wpP r K':=by
 unfold wpP at h ⊢
 split at h
 ·exact k _ h
 ·exact h.elim
theorem Ab2 {t:Bool} {A B A' B':Prop} (h:wpIf t A B) (a:A → A') (b:B → B'):wpIf t A' B':=by
 cases t
 ·exact b h
 ·exact a h
theorem Ae1 {s:Sl} {o:Oper} {m:Mem} {K K':AV → Mem → Prop} (h:wps P cfg s o m K) (k:∀ v m,K v m → K' v m):wps P cfg s o m K':=by
 unfold wps at h ⊢
 split at h
 ·unfold wpF at h ⊢
  split at h
  ·obtain ⟨v,m1,h1,h2⟩:=h; exact ⟨v,m1,h1,k _ _ h2⟩
  ·obtain ⟨v,m1,h1,h2⟩:=h; exact ⟨v,m1,h1,k _ _ h2⟩
  ·exact h.elim
 ·exact Akf h k
theorem Alk {s:Sl} {o:Oper} {m:Mem} {K K':AV → Mem → Prop} (h:wpsU P cfg s o m K) (k:∀ v m,K v m → K' v m):wpsU P cfg s o m K':=by
 unfold wpsU at h ⊢
 split at h
 ·exact Akf h k
 ·exact Akf h k
 ·exact Ae1 h k
theorem Ac3 {N:Nat} {all:Array Oper}:∀ (l:List Oper) (s:Sl) (m:Mem) (K K':Sl → Mem → Prop),wpoU P cfg N all l s m K → (∀ s m,K s m → K' s m) → wpoU P cfg N all l s m K'
 | [],s,m,K,K',h,k => k _ _ h
 | o :: l,s,m,K,K',h,k => by
  simp only [wpoU] at h ⊢
  exact Ab2 h (fun h => Alk h fun v m1 h => Aco h fun s1 h => Ac3 l s1 m1 K K' h k) (fun h => Aco h fun s1 h => Ac3 l s1 m K K' h k)
theorem Adf {N:Nat} {all:Array Oper}:∀ (l:List Oper) (s:Sl) (m:Mem) (acc:List (Sl × Mem)) (K K':List (Sl × Mem) → Sl → Mem → Prop),wpt P cfg N all l s m acc K → (∀ a s m,K a s m → K' a s m) → wpt P cfg N all l s m acc K'
 | [],s,m,acc,K,K',h,k => k _ _ _ h
 | o :: l,s,m,acc,K,K',h,k => by
  simp only [wpt] at h ⊢
  exact Ab2 h (fun h => Ae1 h fun v m1 h => Aco h fun s1 h => Adf l s1 m1 _ K K' h k) (fun h => Aco h fun s1 h => Adf l s1 m _ K K' h k)
theorem Abf {N:Nat}:∀ {c:Code} {s:Sl} {m:Mem} {Q Q':Ex → Sl → Mem → Prop},wpc P cfg N c s m Q → (∀ e s m,Q e s m → Q' e s m) → wpc P cfg N c s m Q':=by
 intro c
 induction c with
 | skip => intro s m Q Q' h k; exact k _ _ _ h
 | label l => intro s m Q Q' h k; exact k _ _ _ h
 | exit l => intro s m Q Q' h k; exact k _ _ _ h
 | ret => intro s m Q Q' h k; exact k _ _ _ h
 | region id ops draw =>
  intro s m Q Q' h k
  simp only [wpc] at h ⊢
  split at h
  ·rename_i hd
   rw [if_pos hd]
   exact h.imp fun os h => ⟨h.1,h.2.elim (fun h => .inl (Adf _ _ _ _ _ _ h fun a s m h => ⟨h.1,k _ _ _ h.2⟩)) fun h => .inr ⟨h.1,h.2.1,Ac3 _ _ _ _ _ h.2.2 fun s m h => k _ _ _ h⟩⟩
  ·rename_i hd
   rw [if_neg hd]
   exact Ac3 _ _ _ _ _ h fun s m h => k _ _ _ h
 | seq a b iha ihb =>
  intro s m Q Q' h k
  refine iha h fun e s m h => ?_
  cases e with
  | normal => exact ihb h k
  | _ => exact k _ _ _ h
 | cond c x y ihx ihy =>
  intro s m Q Q' h k
  simp only [wpc] at h ⊢
  unfold wpB at h ⊢
  split at h
  ·exact Ab2 h (fun h => ihx h k) (fun h => ihy h k)
  ·exact h.elim
 | block id b ih =>
  intro s m Q Q' h k
  refine ih h fun e s m h => ?_
  cases e with
  | exit id' =>
   simp only [blk] at h ⊢
   split at h
   ·rename_i e; rw [if_pos e]; exact k _ _ _ h
   ·rename_i e; rw [if_neg e]; exact k _ _ _ h
  | _ => exact k _ _ _ h
 | loop b ih =>
  intro s m Q Q' h k
  simp only [wpc] at h ⊢
  obtain ⟨I,n,h1,h2⟩:=h
  refine ⟨I,n,h1,fun n s m hI => ih (h2 n s m hI) fun e s m h => ?_⟩
  cases e with
  | normal => exact h
  | _ => exact k _ _ _ h
 | rangeFunc g ps x y =>
  intro s m Q Q' h k
  simp only [wpc] at h ⊢
  split at h
  ·obtain ⟨hb,v,m2,h1,L,e,h2,h3,h4,h5⟩:=h
   exact ⟨hb,v,m2,h1,L,e,h2,h3,h4,k _ _ _ h5⟩
  ·exact h.elim
 | _ => intro s m Q Q' h; exact h.elim
def leave (P:Program) (keep:Bool) (rs:List ResultVar) (K:AV → Mem → Prop) (e:Ex) (s:Sl) (m:Mem):Prop :=
 (e = .normal ∨ e = .ret) ∧ ∃ vs,aresult P s m rs = some vs ∧ K (if keep then (oneOf vs,m) else fzr m (oneOf vs)).1 (if keep then (oneOf vs,m) else fzr m (oneOf vs)).2
def XK (m m':Mem):Prop:=∀ id,id < m.next → m'.loop id = m.loop id ∧ m'.map id = m.map id
theorem XK.refl (m:Mem):XK m m:=fun _ _ => ⟨rfl,rfl⟩
theorem XK.trans {a b c:Mem} (hn:a.next ≤ b.next) (h:XK a b) (k:XK b c):XK a c:=fun id hi => ⟨(k id (Nat.lt_of_lt_of_le hi hn)).1.trans (h id hi).1,(k id (Nat.lt_of_lt_of_le hi hn)).2.trans (h id hi).2⟩
theorem XK.same {a b c:Mem} (h:XK a b) (h1:c.lp = b.lp) (h2:c.mp = b.mp):XK a c:=fun id hi => ⟨by unfold Mem.loop; rw [h1]; exact (h id hi).1,by unfold Mem.map; rw [h2]; exact (h id hi).2⟩
structure Kp (m m':Mem):Prop where
 next:m.next ≤ m'.next
 get:∀ id,id < m.next → m'.get id = m.get id
 x:XK m m'
theorem Kp.refl (m:Mem):Kp m m:=⟨Nat.le_refl _,fun _ _ => rfl,.refl m⟩
theorem Kp.trans {a b c:Mem} (h:Kp a b) (k:Kp b c):Kp a c:=⟨Nat.le_trans h.next k.next,fun id hi => (k.get id (Nat.lt_of_lt_of_le hi h.next)).trans (h.get id hi),h.x.trans h.next k.x⟩
theorem Kp.new (m:Mem) (cs:List AV) (f:Bool):Kp m (m.new cs f):=⟨by simp [Mem.next_new],fun id hi => by rw [Mem.get_new,if_neg (by omega)],(XK.refl m).same rfl rfl⟩
theorem Ajk (o:Option ALoop):sameL o o = true:=by cases o <;> simp [sameL]
theorem Ajj (o:Option AMap):sameM o o = true:=by cases o <;> simp [sameM]
theorem Aji (o:Option AObj):sameO o o = true:=by
 unfold sameO
 cases o with
 | none => rfl
 | some o => obtain ⟨cs,f,v⟩:=o; simp
def gcK (k:Nat) (m:Mem) (K:AV → Mem → Prop) (v:AV) (m':Mem):Prop:=∃ r,gcw k m (v,m') = some r ∧ K r.1 r.2
theorem gcK_0 {m m':Mem} {K:AV → Mem → Prop} {v:AV} (h:K v m'):gcK 0 m K v m':=⟨(v,m'),rfl,h⟩
theorem gcK_1 {m m':Mem} {K:AV → Mem → Prop} {v:AV} (hb:v.bel m.next = true) (hk:Kp m m') (h:K v m):gcK 1 m K v m':=by
 refine ⟨(v,m),?_,h⟩
 simp only [gcw]
 rw [if_pos]
 simp only [sameX,Bool.and_eq_true,List.all_eq_true,List.mem_range]
 exact ⟨⟨hb,fun id hi => by rw [hk.get id hi]; exact Aji _⟩,fun id hi => by rw [(hk.x id hi).1,(hk.x id hi).2]; exact ⟨Ajk _,Ajj _⟩⟩
theorem Aqy {H:Calls1} {N n:Nat} {c:Code} {s:Sl} {m:Mem} {e:Ex} {s':Sl} {m':Mem} (h:acode P H N n c s m = some (e,s',m')):bodyR P H N n c s m = some (e,m'):=by unfold bodyR; rw [h]
theorem Asx {id:Nat} {args:List AV} {m:Mem} {K:AV → Mem → Prop} {L:ALoop} (hL:m.loop id = some L) (hl:args.length = L.c.ps.size)
  (h:wpc P cfg L.c.N L.c.assign (Sl.puts L.c.N L.c.s L.c.ps.toList args) m fun e s1 m1 => e = .normal ∧ ∃ L1,m1.loop id = some L1 ∧ L1.st = .ready ∧ wpc P cfg L.c.N L.c.body s1 (m1.setLoop id .busy L1.pend L1.c) fun e _ m2 => ∃ L2,m2.loop id = some L2 ∧ K (.sc (.bool (pendOf e).isNone)) (m2.setLoop id (if (pendOf e).isNone then .ready else .done) (pendOf e) L2.c)):wph P cfg (.yield id) args m K:=by
 obtain ⟨e1,s1,m1,h1,rfl,L1,h2,h3,h4⟩:=Ac5 _ _ _ _ h
 obtain ⟨e2,s2,m2,h5,L2,h6,h7⟩:=Ac5 _ _ _ _ h4
 refine ⟨_,_,?_,h7⟩
 obtain ⟨n0,hn0⟩:=h1.and h5
 refine ⟨n0 + 1,fun n hle => ?_⟩
 obtain ⟨k,rfl⟩:∃ k,n = k + 1:=⟨n - 1,by omega⟩
 obtain ⟨a,b⟩:=hn0 k (by omega)
 simp only [afn,around,hL]
 rw [if_pos hl,a]
 dsimp only
 rw [h2]
 dsimp only
 rw [if_pos h3,Aqy b]
 dsimp only
 rw [h6]
theorem Agz {f : FuncId} {fn : Func} {c : Code} {args : List AV} {m : Mem} {K : AV → Mem → Prop} (hf : P.funcs[f]? = some fn) (hb : fn.body = some c) (hk : cfg.hook f = none) (hn : fn.name ≠ "runtime.NumGoroutine") (hl : args.length ≤ fn.ntmps)
  (h:wpc P cfg fn.ntmps c (Sl.putAll .nil 0 (if cfg.keepArgs f then (args,m) else fzvs m args).1) (if cfg.keepArgs f then (args,m) else fzvs m args).2 (leave P (cfg.keepRes f) fn.results.toList (gcK (cfg.gc f) (if cfg.keepArgs f then (args,m) else fzvs m args).2 K))):wph P cfg (.func f) args m K:=by
 obtain ⟨e,s',m',h1,he,vs,h2,r,h4,h3⟩:=Ac5 _ _ _ _ h
 refine ⟨r.1,r.2,?_,h3⟩
 obtain ⟨n0,hn0⟩:=h1
 refine ⟨n0 + 1,fun n hle => ?_⟩
 obtain ⟨k,rfl⟩:∃ k,n = k + 1:=⟨n - 1,by omega⟩
 simp only [afn,hk,abody,hf,hb]
 rw [if_pos ⟨hn,hl⟩,hn0 k (by omega)]
 rcases he with rfl | rfl
 ·simp only [h2]; exact h4
 ·simp only [h2]; exact h4
theorem Abe {fn:Fn} {args:List AV} {m:Mem} {K K':AV → Mem → Prop} (h:wph P cfg fn args m K) (k:∀ v m,K v m → K' v m):wph P cfg fn args m K':=let ⟨v,m1,a,b⟩:=h; ⟨v,m1,a,k _ _ b⟩
theorem Aq7 {f:FuncId} {fn:Func} {args:List AV} {vs:List Value} {r:Value} {m:Mem} {K:AV → Mem → Prop} (hf:P.funcs[f]? = some fn) (hb:fn.body = none) (hk:cfg.hook f = none) (hs:scals args = some vs)
  (hr:pureRun P (callFunc f vs.toArray) = some (.value r)) (h:K (.sc r) m):wph P cfg (.func f) args m K:=by
 refine ⟨.sc r,m,⟨1,fun n hn => ?_⟩,h⟩
 obtain ⟨k,rfl⟩:∃ k,n = k + 1:=⟨n - 1,by omega⟩
 simp only [afn,hk,abody,hf,hb,hs,hr]
variable {P:Program} {cfg:Cfg}
def HLe (H H':Calls1):Prop:=∀ fn args m r,H fn args m = some r → H' fn args m = some r
theorem Aj7 {H H':Calls1} (h:HLe H H') {s:Sl} {o:Oper} {m:Mem} {r:AV × Mem} (e:astep P H s o m = some r):astep P H' s o m = some r:=by
 unfold astep at e ⊢
 split at e
 ·split at e
  ·exact h _ _ _ _ e
  ·exact h _ _ _ _ e
  ·cases e
 ·exact e
theorem Ail {H H':Calls1} (h:HLe H H') {s:Sl} {o:Oper} {m:Mem} {r:AV × Mem} (e:astepU P H s o m = some r):astepU P H' s o m = some r:=by
 unfold astepU at e ⊢
 split at e
 ·rename_i q hq
  rw [Aj7 h hq]
  exact e
 ·rename_i hq
  have:astep P H' s o m = astep P H s o m:=by
   have e':=e
   unfold amlen at e'
   split at e'
   ·rename_i ho
    simp only [astep,ho]
   ·rename_i ho
    simp only [astep,ho]
   ·rename_i ho
    simp only [astep,ho]
   ·cases e'
  rw [this,hq]
  exact e
theorem Ad3 {H H':Calls1} (h:HLe H H') {N:Nat} {all:Array Oper}:∀ (l:List Oper) (s:Sl) (m:Mem) (r:Sl × Mem),aops P H N all l s m = some r → aops P H' N all l s m = some r
 | [],s,m,r,e => e
 | o :: l,s,m,r,e => by
  simp only [aops] at e ⊢
  split at e
  ·rename_i hw
   rw [if_pos hw]
   split at e
   ·rename_i v m' he
    rw [Ail h he]
    dsimp only at e ⊢
    split at e
    ·exact Ad3 h l _ _ _ e
    ·cases e
   ·cases e
  ·rename_i hw
   rw [if_neg hw]
   split at e
   ·exact Ad3 h l _ _ _ e
   ·cases e
theorem Ao4 {H H':Calls1} (h:HLe H H') {q:Bool} {s:Sl} {o:Oper} {m:Mem} {r:AV × Mem} (e:astepT P q H s o m = some r):astepT P q H' s o m = some r:=by
 unfold astepT at e ⊢
 split at e
 ·rename_i hq
  rw [if_pos hq]
  exact Ail h e
 ·rename_i hq
  rw [if_neg hq]
  exact Aj7 h e
theorem Agi {H H':Calls1} (h:HLe H H') {N:Nat} {all:Array Oper}:∀ (l:List Oper) (s:Sl) (m:Mem) (r:Sl × Mem × List (Sl × Mem)),aopsT P H N all l s m = some r → aopsT P H' N all l s m = some r
 | [],s,m,r,e => e
 | o :: l,s,m,r,e => by
  simp only [aopsT] at e ⊢
  split at e
  ·rename_i hw
   rw [if_pos hw]
   split at e
   ·rename_i v m' he
    rw [Ao4 h he]
    dsimp only at e ⊢
    split at e
    ·rw [Option.map_eq_some_iff] at e
     obtain ⟨x,h1,h2⟩:=e
     rw [Agi h l _ _ _ h1,← h2]
     rfl
    ·cases e
   ·cases e
  ·rename_i hw
   rw [if_neg hw]
   split at e
   ·rw [Option.map_eq_some_iff] at e
    obtain ⟨x,h1,h2⟩:=e
    rw [Agi h l _ _ _ h1,← h2]
    rfl
   ·cases e
theorem Aka {b b':Sl → Mem → Option (Ex × Sl × Mem)} (hb:∀ s m r,b s m = some r → b' s m = some r):∀ (n n':Nat),n ≤ n' → ∀ (s:Sl) (m:Mem) (r:Ex × Sl × Mem),aloop b n s m = some r → aloop b' n' s m = some r
 | 0,n',hn,s,m,r,e => by cases e
 | n + 1,n',hn,s,m,r,e => by
  obtain ⟨n',rfl⟩:∃ k,n' = k + 1:=⟨n' - 1,by omega⟩
  simp only [aloop] at e ⊢
  split at e
  ·rename_i s' m' h1
   rw [hb _ _ _ h1]
   exact Aka hb n n' (by omega) _ _ _ e
  ·rename_i h1
   rw [hb _ _ _ e]
   split
   ·rename_i s' m' h2
    cases h2
    exact absurd e (h1 s' m')
   ·rfl
theorem Acg {H H':Calls1} (h:HLe H H') {N n n':Nat} (hn:n ≤ n'):∀ (c:Code) (s:Sl) (m:Mem) (r:Ex × Sl × Mem),acode P H N n c s m = some r → acode P H' N n' c s m = some r:=by
 intro c
 induction c with
 | skip => intro s m r e; exact e
 | label l => intro s m r e; exact e
 | exit l => intro s m r e; exact e
 | ret => intro s m r e; exact e
 | region id ops draw =>
  intro s m r e
  simp only [acode] at e ⊢
  split at e
  ·rename_i hd
   rw [if_pos hd]
   split at e
   ·rename_i o' hk
    split at e
    ·rename_i s' m' ms he
     rw [Agi h _ _ _ _ he]
     exact e
    ·cases e
   ·cases e
  ·rename_i hd
   rw [if_neg hd]
   split at e
   ·rename_i s' m' he
    rw [Ad3 h _ _ _ _ he]
    exact e
   ·cases e
 | seq a b iha ihb =>
  intro s m r e
  simp only [acode] at e ⊢
  split at e
  ·rename_i s' m' h1
   rw [iha _ _ _ h1]
   exact ihb _ _ _ e
  ·rename_i h1
   rw [iha _ _ _ e]
   split
   ·rename_i s' m' h2
    cases h2
    exact absurd e (h1 s' m')
   ·rfl
 | cond c x y ihx ihy =>
  intro s m r e
  simp only [acode] at e ⊢
  split at e
  ·rename_i t ht
   cases t
   ·exact ihy _ _ _ e
   ·exact ihx _ _ _ e
  ·cases e
 | scope b ih =>
  intro s m r e
  simp only [acode] at e ⊢
  cases hb:acode P H N n b s m with
  | none => rw [hb] at e; cases e
  | some q =>
   rw [hb] at e
   rw [ih _ _ _ hb]
   exact e
 | block id b ih =>
  intro s m r e
  simp only [acode] at e ⊢
  split at e
  ·rename_i id' s' m' h1
   rw [ih _ _ _ h1]
   exact e
  ·rename_i h1
   rw [ih _ _ _ e]
   split
   ·rename_i id' s' m' h2
    cases h2
    exact absurd e (h1 id' s' m')
   ·rfl
 | loop b ih =>
  intro s m r e
  simp only [acode] at e ⊢
  exact Aka ih n n' hn s m r e
 | rangeFunc g ps x y =>
  intro s m r e
  simp only [acode] at e ⊢
  split at e
  ·split at e
   ·rename_i hb
    rw [if_pos hb]
    split at e
    ·rename_i v m2 hc
     rw [h _ _ _ _ hc]
     exact e
    ·cases e
   ·cases e
  ·cases e
 | _ => intro s m r e; simp [acode] at e
theorem Aqu {H:Calls1} {N n id:Nat} {ops:Array Oper} (hc:isCho ops = true) (s:Sl) (m:Mem):acode P H N n (.region id ops true) s m = none:=by
 unfold isCho at hc
 rw [Bool.and_eq_true] at hc
 have h2:=hc.2
 simp only [Bool.and_eq_true] at h2
 obtain ⟨⟨hd,hm⟩,hs⟩:=h2
 clear hc
 simp only [acode,if_true,Aku hd]
 split
 ·rename_i s' m' ms hr
  rw [if_neg]
  intro hall
  have h12:=List.all_eq_true.1 hall (1,2) (by simpa using hm)
  split at hs
  ·rename_i a b c d hl
   simp only [Bool.and_eq_true] at hs
   obtain ⟨⟨⟨g1,g2⟩,g3⟩,g4⟩:=hs
   have o1:ops[1]? = some b:=by rw [← Array.getElem?_toList,hl]; rfl
   have o2:ops[2]? = some c:=by rw [← Array.getElem?_toList,hl]; rfl
   split at g4
   ·rename_i t1 x1 v1 t2 x2 v2 hb hcc
    have hx:x1 = x2:=by simpa using g4
    subst hx
    rw [hl] at hr
    have w1:∀ y,Region.wanted b y = true:=by intro y; simp [Region.wanted,Option.isNone_iff_eq_none.1 g1]
    have w2:∀ y,Region.wanted c y = true:=by intro y; simp [Region.wanted,Option.isNone_iff_eq_none.1 g2]
    have dst:=Option.isNone_iff_eq_none.1 g3
    obtain ⟨s1,m1,m2,q,hms⟩:∃ s1 m1 m2,∃ q:List (Sl × Mem),ms = (s,m) :: (s1,m1) :: (s1,m2) :: q:=by
     have step:∀ (o:Oper) (rest:List Oper) (s m:_) (r:Sl × Mem × List (Sl × Mem)),aopsT P H N ops (o :: rest) s m = some r → ∃ s1 m1 r1,aopsT P H N ops rest s1 m1 = some r1 ∧ r.2.2 = (s,m) :: r1.2.2 ∧ (o.dst = none → s1 = s):=by
      intro o rest s m r e
      simp only [aopsT] at e
      split at e
      ·split at e
       ·split at e
        ·rename_i s1 hp
         obtain ⟨r1,h1,rfl⟩:=Option.map_eq_some_iff.1 e
         refine ⟨_,_,r1,h1,rfl,fun hd => ?_⟩
         rw [hd] at hp
         simpa [aput] using hp.symm
        ·cases e
       ·cases e
      ·split at e
       ·rename_i s1 hp
        obtain ⟨r1,h1,rfl⟩:=Option.map_eq_some_iff.1 e
        refine ⟨_,_,r1,h1,rfl,fun hd => ?_⟩
        rw [hd] at hp
        simpa [aput] using hp.symm
       ·cases e
     obtain ⟨s1,m1,r1,e1,f1,_⟩:=step _ _ _ _ _ hr
     obtain ⟨s2,m2,r2,e2,f2,k2⟩:=step _ _ _ _ _ e1
     obtain ⟨s3,m3,r3,e3,f3,_⟩:=step _ _ _ _ _ e2
     rw [k2 dst] at f3
     exact ⟨s1,m1,m2,r3.2.2,by rw [show ms = (s,m) :: r1.2.2 from f1,f2,f3]⟩
    rw [hms] at h12
    simp only [metAt,o1,o2] at h12
    rw [if_neg (by decide)] at h12
    simp only [metOk,List.getElem?_cons_succ,List.getElem?_cons_zero,w1,w2,Bool.not_true,Bool.or_self] at h12
    have r1:rank b = 3:=by unfold rank; rw [hb]
    have r2:rank c = 3:=by unfold rank; rw [hcc]
    have ob:objOf s1 b = objOf s1 c:=by unfold objOf; rw [hb,hcc]
    simp only [r1,r2,ob] at h12
    revert h12
    cases objOf s1 c <;> simp
   ·cases g4
  ·cases hs
 ·rfl
theorem Alp {f:Sl → Mem → Option (List (Ex × Sl × Mem))} {s:Sl} {m:Mem}:thenL f [(.normal,s,m)] = f s m:=by
 simp only [thenL]
 cases f s m <;> simp
theorem Ais {H:Calls1} {N n:Nat}:∀ (c:Code) (s:Sl) (m:Mem) (r:Ex × Sl × Mem),acode P H N n c s m = some r → acodeL P H N n c s m = some [r]:=by
 intro c
 induction c with
 | seq a b iha ihb =>
  intro s m r e
  simp only [acode] at e
  simp only [acodeL]
  split at e
  ·rename_i s' m' h1
   rw [iha _ _ _ h1]
   dsimp only
   rw [Alp]
   exact ihb _ _ _ e
  ·rename_i h1
   rw [iha _ _ _ e]
   obtain ⟨e1,s1,m1⟩:=r
   cases e1 with
   | normal => exact absurd e (h1 s1 m1)
   | _ => rfl
 | cond c x y ihx ihy =>
  intro s m r e
  simp only [acode] at e
  simp only [acodeL]
  split at e
  ·rename_i t ht
   cases t
   ·exact ihy _ _ _ e
   ·exact ihx _ _ _ e
  ·cases e
 | block id b ih =>
  intro s m r e
  simp only [acode] at e
  simp only [acodeL]
  split at e
  ·rename_i id' s' m' h1
   rw [ih _ _ _ h1]
   split at e
   ·rename_i hid; cases e; simp [outB,hid]
   ·rename_i hid; cases e; simp [outB,hid]
  ·rename_i h1
   rw [ih _ _ _ e]
   obtain ⟨e1,s1,m1⟩:=r
   cases e1 with
   | exit id' => exact absurd e (h1 id' s1 m1)
   | _ => rfl
 | region id ops draw => intro s m r e; simp only [acodeL,e]
 | _ => intro s m r e; simp only [acodeL,e]; rfl
theorem Ajc {f f':Sl → Mem → Option (List (Ex × Sl × Mem))} (h:∀ s m l,f s m = some l → f' s m = some l):∀ (a l:List (Ex × Sl × Mem)),thenL f a = some l → thenL f' a = some l
 | [],l,e => e
 | (x,s,m) :: a,l,e => by
  simp only [thenL] at e ⊢
  split at e
  ·rename_i p q hp hq
   rw [Ajc h a q hq]
   cases x with
   | normal => have:=h _ _ _ hp; simp only [this]; exact e
   | exit i => cases hp; exact e
   | goto i => cases hp; exact e
   | ret => cases hp; exact e
  ·cases e
theorem Aph {H H':Calls1} (h:HLe H H') {N n n':Nat} (hn:n ≤ n'):∀ (c:Code) (s:Sl) (m:Mem) (l:List (Ex × Sl × Mem)),acodeL P H N n c s m = some l → acodeL P H' N n' c s m = some l:=by
 intro c
 have other:∀ (c:Code) (s:Sl) (m:Mem) (l:List (Ex × Sl × Mem)),(acode P H N n c s m).map (fun r => [r]) = some l → (acode P H' N n' c s m).map (fun r => [r]) = some l:=by
  intro c s m l e
  obtain ⟨q,hq,rfl⟩:=Option.map_eq_some_iff.1 e
  rw [Acg h hn _ _ _ _ hq]
  rfl
 induction c with
 | seq a b iha ihb =>
  intro s m l e
  simp only [acodeL] at e ⊢
  split at e
  ·rename_i x hx
   rw [iha _ _ _ hx]
   exact Ajc (fun s m l => ihb s m l) x l e
  ·cases e
 | cond c x y ihx ihy =>
  intro s m l e
  simp only [acodeL] at e ⊢
  split at e
  ·rename_i t ht
   cases t
   ·exact ihy _ _ _ e
   ·exact ihx _ _ _ e
  ·cases e
 | block id b ih =>
  intro s m l e
  simp only [acodeL] at e ⊢
  obtain ⟨q,hq,rfl⟩:=Option.map_eq_some_iff.1 e
  rw [ih _ _ _ hq]
  rfl
 | region id ops draw =>
  intro s m l e
  simp only [acodeL] at e ⊢
  split at e
  ·rename_i r hr
   rw [Acg h hn _ _ _ _ hr]
   exact e
  ·split at e
   ·rename_i hdc
    have hdc':=hdc
    rw [Bool.and_eq_true] at hdc'
    have hno:acode P H' N n' (.region id ops draw) s m = none:=by rw [hdc'.1]; exact Aqu hdc'.2 s m
    rw [hno]
    dsimp only
    rw [if_pos hdc]
    unfold choL at e ⊢
    split at e
    ·rename_i a b c d hl
     split at e
     ·rename_i r r' h1 h2
      rw [Ad3 h _ _ _ _ h1,Ad3 h _ _ _ _ h2]
      exact e
     ·cases e
    ·cases e
   ·cases e
 | _ => intro s m l e; exact other _ s m l e
theorem Asl {H H':Calls1} (h:HLe H H') {N n n':Nat} (hn:n ≤ n') {c:Code} {s:Sl} {m:Mem} {r:Ex × Mem} (e:bodyR P H N n c s m = some r):bodyR P H' N n' c s m = some r:=by
 unfold bodyR at e
 split at e
 ·rename_i e1 s1 m1 h1
  rw [Aqy (Acg h hn _ _ _ _ h1)]
  exact e
 ·obtain ⟨l,h1,h2⟩:=Option.bind_eq_some_iff.1 e
  have h3:=Aph h hn _ _ _ _ h1
  unfold bodyR
  cases h4:acode P H' N n' c s m with
  | some q =>
   have:=Ais _ _ _ _ h4
   rw [h3] at this
   cases this
   simp [joinL] at h2
  | none =>
   dsimp only
   rw [h3]
   exact h2
theorem Ao5 {H H':Calls1} (h:HLe H H') {n n' id:Nat} (hn:n ≤ n') {args:List AV} {m:Mem} {r:AV × Mem} (e:around P H n id args m = some r):around P H' n' id args m = some r:=by
 unfold around at e ⊢
 split at e
 ·split at e
  ·rename_i hl
   rw [if_pos hl]
   split at e
   ·rename_i s1 m1 h1
    rw [Acg h hn _ _ _ _ h1]
    dsimp only
    split at e
    ·split at e
     ·rename_i hs
      rw [if_pos hs]
      split at e
      ·rename_i e2 m2 h2
       rw [Asl h hn h2]
       exact e
      ·cases e
     ·cases e
    ·cases e
   ·cases e
  ·cases e
 ·cases e
theorem Afo:∀ (n:Nat),HLe (afn P cfg n) (afn P cfg (n + 1))
 | 0,fn,args,m,r,e => by cases e
 | n + 1,fn,args,m,r,e => by
  cases fn with
  | func f =>
   simp only [afn] at e ⊢
   split at e
   ·exact e
   ·unfold abody at e ⊢
    split at e
    ·rename_i fn hf
     split at e
     ·rename_i c hb
      split at e
      ·rename_i hc
       rw [if_pos hc]
       dsimp only at e ⊢
       obtain ⟨am,ham⟩:∃ am,(if cfg.keepArgs f = true then (args,m) else fzvs m args) = am:=⟨_,rfl⟩
       rw [ham] at e ⊢
       split at e
       ·rename_i s m2 ha
        rw [Acg (Afo n) (Nat.le_succ n) _ _ _ _ ha]
        exact e
       ·rename_i s m2 ha
        rw [Acg (Afo n) (Nat.le_succ n) _ _ _ _ ha]
        exact e
       ·cases e
      ·cases e
     ·exact e
    ·cases e
  | yield id => exact Ao5 (Afo n) (Nat.le_succ n) e
  | _ => cases e
theorem A1f {n n':Nat} (h:n ≤ n'):HLe (afn P cfg n) (afn P cfg n'):=by
 induction h with
 | refl => exact fun _ _ _ _ e => e
 | step _ ih => exact fun fn args m r e => Afo _ fn args m r (ih fn args m r e)
theorem EH.of {n:Nat} {fn:Fn} {args:List AV} {m m':Mem} {r:AV} (h:afn P cfg n fn args m = some (r,m')):EH P cfg fn args m r m':=⟨n,fun _ hk => A1f hk _ _ _ _ h⟩
variable {P:Program} {B:Bs} {W:World} {g:G} {m:Mem} {w:World}
theorem Mem.get_skip (m:Mem) (i:Nat):m.skip.get i = if i = m.next then none else m.get i:=by
 unfold Mem.skip
 rw [Mem.get_kill,Mem.get_new]
 by_cases h:i = m.next <;> simp [h]
theorem Mem.next_skip (m:Mem):m.skip.next = m.next + 1:=rfl
theorem WR.skip (h:WR B W g m w):WR B W (g.new 0 0 0 0) m.skip w:=by
 have hle:=G.le_new g 0 0 0 0
 have lt:∀ id o,m.skip.get id = some o → m.get id = some o ∧ id < g.n:=by
  intro id o hg
  rw [Mem.get_skip] at hg
  split at hg
  ·cases hg
  ·exact ⟨hg,h.ids id o hg⟩
 refine ⟨h.below,h.base,?_,?_,?_,?_,h.fz,h.x.step hle rfl rfl rfl rfl (fun _ _ k _ => k) rfl fun b o _ p => ⟨p.here,p.fz,fun i hi => ?_⟩⟩
 ·rw [Mem.next_skip,h.n]; rfl
 ·intro id o hg
  have:=(lt id o hg).2
  show id < g.n + 1
  omega
 ·intro id cs f ver hg
  obtain ⟨h1,h2⟩:=lt id _ hg
  exact (h.objs id cs f ver h1).mono hle h2 fun _ _ hv => hv
 ·intro i j hi hj he
  obtain ⟨o,ho⟩:=Option.isSome_iff_exists.1 hi
  obtain ⟨o',ho'⟩:=Option.isSome_iff_exists.1 hj
  obtain ⟨a1,a2⟩:=lt i o ho
  obtain ⟨b1,b2⟩:=lt j o' ho'
  rw [hle.mu i a2,hle.mu j b2] at he
  exact h.inj i j (by rw [a1]; rfl) (by rw [b1]; rfl) he
 ·obtain ⟨o',ho'⟩:=Option.isSome_iff_exists.1 hi
  obtain ⟨a1,a2⟩:=lt i o' ho'
  rw [hle.mu i a2]
  exact p.obj i (by rw [a1]; rfl)
theorem VM.skip (m:Mem):VM m m.skip:=(VM.new m [] false).trans (.kill _ _)
theorem Amf:Hooks P B W cf0:=⟨fun f h e => (by cases e),fun f h e => (by cases e)⟩
theorem Aei (W:World) {f:FuncId} {args:List AV} {m m':Mem} {v:AV} (e:cloneH P f args m = some (v,m')):VM m m':=by
 unfold cloneH at e
 split at e
 ·split at e
  ·cases e; exact .skip _
  ·exact Adr (B:=Bs.bare 0) (W:=W) Amf _ _ _ _ _ _ e
  ·cases e
 ·cases e
structure CloneAt (P:Program) (f:FuncId):Prop where
 nil:∀ m,afn P cf0 4 (.func f) [.emp 0] m = some (.emp 0,m)
 empty:∀ m,∃ k ag,afn P cf0 4 (.func f) [.emp 2] m = some (.sl m.next 0 0 k ag (some 0),m.new [] false)
theorem Ab5 (hP:P.follows .mixedOrders = true) {f:FuncId} (hf:CloneAt P f) {args:List AV} {m m':Mem} {v:AV} (e:cloneH P f args m = some (v,m')) (hv:VI m):CallOk P B W f args m v m':=by
 unfold cloneH at e
 split at e
 ·rename_i x
  split at e
  ·rename_i he
   cases e
   have snd:=(Ab6 (B:=B) (W:=W) hP Amf 4).func f
   intro g w vals k h
   simp only [Rels] at k
   obtain ⟨u,_,rfl,hr,rfl⟩:=k
   have cases3:(u = .slice none 0 0) ∨ ∃ a c,u = .slice (some a) 0 c:=by
    cases x with
    | emp n =>
     match n,hr with
     | 0,hr => exact .inl hr
     | 1,hr =>
      simp only [Rel] at hr
      obtain ⟨a,rfl⟩:=hr
      cases a with
      | none => exact .inl rfl
      | some a => exact .inr ⟨a,0,rfl⟩
     | 2,hr => exact .inr hr
     | n + 3,hr => exact hr.elim
    | lst xs =>
     simp only [elemsOf,Option.some.injEq] at he
     subst he
     simp only [Rel] at hr
     obtain ⟨a,c,vs,q,rfl,_,⟨_,hn⟩,_⟩:=hr
     cases a with
     | none => rw [hn rfl]; exact .inl rfl
     | some a => exact .inr ⟨a,c,rfl⟩
    | sl id off len q ag cap =>
     simp only [Rel] at hr
     obtain ⟨_,a,c,rfl,_⟩:=hr
     simp only [elemsOf] at he
     split at he
     ·split at he
      ·cases len with
       | zero => exact .inr ⟨a,c,rfl⟩
       | succ n => simp [chunk] at he
      ·cases he
     ·cases he
    | _ => cases he
   rcases cases3 with rfl | ⟨a,c,rfl⟩
   ·have h1:=snd [.emp 0] m _ _ (hf.nil m) hv g w [.slice none 0 0] (.one rfl) h
    rcases h1 with ⟨h2,h3⟩ | ⟨v',g',w',h2,h3,h4,h5⟩
    ·refine .inl ⟨h2,h3.mono fun e w' ⟨v',g',h4,h5,h6,h7⟩ => ⟨v',_,h4,h5.trans (G.le_new g' 0 0 0 0),?_,h7.skip⟩⟩
     simp only [Rel] at h6 ⊢
     exact ⟨none,h6⟩
    ·refine .inr ⟨v',_,w',h2,h3.trans (G.le_new g' 0 0 0 0),?_,h5.skip⟩
     simp only [Rel] at h4 ⊢
     exact ⟨none,h4⟩
   ·obtain ⟨kk,ag,ha⟩:=hf.empty m
    have h1:=snd [.emp 2] m _ _ ha hv g w [.slice (some a) 0 c] (.one ⟨a,c,rfl⟩) h
    have res:∀ {g':G} {v':Value},Rel g' (.sl m.next 0 0 kk ag (some 0)) v' → Rel g' (.emp 1) v':=by
     intro g' v' hr
     simp only [Rel] at hr ⊢
     obtain ⟨_,b,d,rfl,_,_,hd,_⟩:=hr
     rw [hd 0 rfl]
     exact ⟨_,rfl⟩
    rcases h1 with ⟨h2,h3⟩ | ⟨v',g',w',h2,h3,h4,h5⟩
    ·exact .inl ⟨h2,h3.mono fun e w' ⟨v',g',h4,h5,h6,h7⟩ => ⟨v',g',h4,h5,res h6,h7.kill _⟩⟩
    ·exact .inr ⟨v',g',w',h2,h3,res h4,h5.kill _⟩
  ·exact (Ab6 hP Amf 4).func f _ _ _ _ e hv
  ·cases e
 ·cases e
open Classical in
noncomputable def lim (P:Program) (cfg:Cfg) (fn:Fn) (args:List AV) (m:Mem):Option (AV × Mem):=if h:∃ r:AV × Mem,EH P cfg fn args m r.1 r.2 then some (Classical.choose h) else none
theorem EH.unique {cfg:Cfg} {fn:Fn} {args:List AV} {m:Mem} {v v':AV} {m1 m2:Mem} (h:EH P cfg fn args m v m1) (k:EH P cfg fn args m v' m2):v' = v ∧ m2 = m1:=by
 obtain ⟨n,h1,h2⟩:=(Evt.and h k).one
 rw [h1] at h2
 cases h2
 exact ⟨rfl,rfl⟩
theorem Afh {cfg:Cfg} {fn:Fn} {args:List AV} {m m':Mem} {v:AV} (h:EH P cfg fn args m v m'):lim P cfg fn args m = some (v,m'):=by
 have hx:∃ r:AV × Mem,EH P cfg fn args m r.1 r.2:=⟨(v,m'),h⟩
 unfold lim
 rw [dif_pos hx]
 obtain ⟨h1,h2⟩:=EH.unique h (Classical.choose_spec hx)
 rw [Option.some.injEq]
 exact Prod.ext h1 h2
theorem Aqh {cfg:Cfg} {fn:Fn} {args:List AV} {m:Mem} {r:AV × Mem} (h:lim P cfg fn args m = some r):EH P cfg fn args m r.1 r.2:=by
 unfold lim at h
 split at h
 ·rename_i hx
  cases h
  exact Classical.choose_spec hx
 ·cases h
noncomputable def cloneL (P:Program) (f:FuncId) (args:List AV) (m:Mem):Option (AV × Mem) :=
 match args with
 | [x] => match elemsOf m x with
  | some [] => some (.emp 1,m.skip)
  | some _ => lim P cf0 (.func f) [x] m
  | _ => none
 | _ => none
theorem Agg (W:World) {f:FuncId} {args:List AV} {m m':Mem} {v:AV} (e:cloneL P f args m = some (v,m')):VM m m':=by
 unfold cloneL at e
 split at e
 ·split at e
  ·cases e; exact .skip _
  ·obtain ⟨n,hn⟩:=(Aqh e).one
   exact Adr (B:=Bs.bare 0) (W:=W) Amf _ _ _ _ _ _ hn
  ·cases e
 ·cases e
theorem Agu (hP:P.follows .mixedOrders = true) {f:FuncId} (hf:CloneAt P f) {args:List AV} {m m':Mem} {v:AV} (e:cloneL P f args m = some (v,m')) (hv:VI m):CallOk P B W f args m v m':=by
 unfold cloneL at e
 split at e
 ·rename_i x
  split at e
  ·rename_i he
   refine Ab5 hP hf (args:=[x]) ?_ hv
   simp only [cloneH,he]
   exact e
  ·obtain ⟨n,hn⟩:=(Aqh e).one
   exact (Ab6 hP Amf n).func f _ _ _ _ hn hv
  ·cases e
 ·cases e
noncomputable def cloneP (P:Program) (f:FuncId) (args:List AV) (m:Mem):Option (AV × Mem) :=
 match cloneL P f (fzvs m args).1 (fzvs m args).2 with
 | some r => gcw 1 (fzvs m args).2 (fzr r.2 r.1)
 | none => none
theorem Asi (W:World) {f:FuncId} {args:List AV} {m m':Mem} {v:AV} (e:cloneP P f args m = some (v,m')):VM m m':=by
 unfold cloneP at e
 split at e
 ·rename_i r hr
  exact (VM.fzvs args m).trans (VM.gcw ((Agg W hr).trans (VM.fzr r.2 r.1)) e)
 ·cases e
theorem Am7 (hP:P.follows .mixedOrders = true) {f:FuncId} (hf:CloneAt P f) {args:List AV} {m m':Mem} {v:AV} (e:cloneP P f args m = some (v,m')) (hv:VI m):CallOk P B W f args m v m':=by
 unfold cloneP at e
 split at e
 ·rename_i r hr
  intro g w vals k h
  obtain ⟨g1,l1,w1,k1⟩:=Abn args h k
  have hv1:=(VM.fzvs args m).inv hv
  have vm:=(Agg W hr).trans (VM.fzr r.2 r.1)
  have fin:∀ (v':Value) (g':G) (w':World),g1.le g' → Rel g' r.1 v' → WR B W g' r.2 w' → ∃ g4,g.le g4 ∧ Rel g4 v v' ∧ WR B W g4 m' w':=by
   intro v' g' w' l2 r2 w2
   obtain ⟨g3,l3,w3,r3⟩:=Amw w2 r2
   obtain ⟨g4,l4,r4,w4⟩:=Aic w1 hv1 vm (l2.trans l3) w3 r3 e
   exact ⟨g4,l1.trans l4,r4,w4⟩
  rcases Agu hP hf hr hv1 g1 w vals k1 w1 with ⟨h2,h3⟩ | ⟨v',g',w',h2,h3,h4,h5⟩
  ·refine .inl ⟨h2,h3.mono fun e w' ⟨v',g',h4,h5,h6,h7⟩ => ?_⟩
   obtain ⟨g4,a,b,c⟩:=fin v' g' w' h5 h6 h7
   exact ⟨v',g4,h4,a,b,c⟩
  ·obtain ⟨g4,a,b,c⟩:=fin v' g' w' h3 h4 h5
   exact .inr ⟨v',g4,w',h2,a,b,c⟩
 ·cases e
variable {P:Program} {cfg:Cfg}
abbrev Dg:=Bool × Option Nat × Mem
def objV:AV → Option Nat
 | .ptr id _ => some id
 | _ => Option.none
def objE (s:Sl):Op → Option Nat
 | .load _ a => objV (ev s a)
 | .store _ a _ => objV (ev s a)
 | _ => Option.none
def dgOf (all:Array Oper) (s:Sl) (m:Mem) (o:Oper):Dg:=(Region.wanted o (ayields all s),objE s o.op,m)
def wpd (P:Program) (cfg:Cfg) (N:Nat) (all:Array Oper):List Oper → Sl → Mem → List Dg → (List Dg → Sl → Mem → Prop) → Prop
 | [],s,m,acc,K => K (acc ++ [(false,Option.none,m)]) s m
 | o :: rest,s,m,acc,K => wpIf (Region.wanted o (ayields all s)) (wps P cfg s o m fun v m1 => wpP (aput N s o.dst v) fun s1 => wpd P cfg N all rest s1 m1 (acc ++ [dgOf all s m o]) K) (wpP (aput N s o.dst undefV) fun s1 => wpd P cfg N all rest s1 m (acc ++ [dgOf all s m o]) K)
def verKeptD (ds:List Dg) (j:Nat) (id:Nat):Bool :=
 match ds[j]?,ds[j + 1]? with
 | some a,some b => (a.2.2.ver id).isSome && a.2.2.ver id == b.2.2.ver id
 | _,_ => false
def metOkD (ds:List Dg) (i j:Nat) (x y:Oper):Bool :=
 match ds[i]?,ds[j]? with
 | some si,some sj =>
  if !si.1 || !sj.1 then true
  else if rank x == 1 && decide (2 ≤ rank y) then (match si.2.1 with | some id => verKeptD ds j id | Option.none => true)
  else if decide (2 ≤ rank x) && rank y == 1 then (match sj.2.1 with | some id => verKeptD ds i id | Option.none => true)
  else if rank x == 3 && rank y == 3 then (match si.2.1,sj.2.1 with | some a,some b => a != b | _,_ => false)
  else true
 | _,_ => false
def metAtD (ops:Array Oper) (ds:List Dg) (p:Nat × Nat):Bool :=
 if p.1 == p.2 then false else
 match ops[p.1]?,ops[p.2]? with
 | some x,some y => metOkD ds p.1 p.2 x y
 | _,_ => false
inductive It where
 | code (c:Code)
 | ops (all:Array Oper) (l:List Oper)
 | opz (all:Array Oper) (l:List Oper)
 | opt (all:Array Oper) (l:List Oper) (acc:List (Sl × Mem))
 | opd (all:Array Oper) (l:List Oper) (acc:List Dg)
 | blk (id:Nat)
def goE (P:Program) (cfg:Cfg) (N:Nat) (Q:Ex → Sl → Mem → Prop):List It → Ex → Sl → Mem → Prop
 | [] => Q
 | .code c :: k => thn (fun s m => wpc P cfg N c s m (goE P cfg N Q k)) (goE P cfg N Q k)
 | .ops all l :: k => thn (fun s m => wpoU P cfg N all l s m (goE P cfg N Q k .normal)) (goE P cfg N Q k)
 | .opz all l :: k => thn (fun s m => wpo P cfg N all l s m (goE P cfg N Q k .normal)) (goE P cfg N Q k)
 | .opt all l acc :: k => thn (fun s m => wpt P cfg N all l s m acc (fun ms s m => (metL all).all (metAt all ms) = true ∧ goE P cfg N Q k .normal s m)) (goE P cfg N Q k)
 | .opd all l acc :: k => thn (fun s m => wpd P cfg N all l s m acc (fun ds s m => (metL all).all (metAtD all ds) = true ∧ goE P cfg N Q k .normal s m)) (goE P cfg N Q k)
 | .blk id :: k => V.blk id (goE P cfg N Q k)
def go (P:Program) (cfg:Cfg) (N:Nat) (Q:Ex → Sl → Mem → Prop) (k:List It) (s:Sl) (m:Mem):Prop:=goE P cfg N Q k .normal s m
def goR (P:Program) (cfg:Cfg) (N:Nat) (Q:Ex → Sl → Mem → Prop) (r:Option (AV × Mem)) (d:Option Tmp) (k:List It) (s:Sl):Prop:=wpR r fun v m => wpP (aput N s d v) fun s => go P cfg N Q k s m
def goP (P:Program) (cfg:Cfg) (N:Nat) (Q:Ex → Sl → Mem → Prop) (r:Option Sl) (k:List It) (m:Mem):Prop:=wpP r fun s => go P cfg N Q k s m
def goB (P:Program) (cfg:Cfg) (N:Nat) (Q:Ex → Sl → Mem → Prop) (v:AV) (x y:Code) (k:List It) (s:Sl) (m:Mem):Prop:=wpB v fun t => go P cfg N Q (.code (if t then x else y) :: k) s m
def goW (P:Program) (cfg:Cfg) (N:Nat) (Q:Ex → Sl → Mem → Prop) (t:Bool) (o:Oper) (k:List It) (s:Sl) (m:Mem):Prop:=wpIf t (wps P cfg s o m fun v m => wpP (aput N s o.dst v) fun s => go P cfg N Q k s m) (wpP (aput N s o.dst undefV) fun s => go P cfg N Q k s m)
def goS (P:Program) (cfg:Cfg) (N:Nat) (Q:Ex → Sl → Mem → Prop) (o:Oper) (k:List It) (s:Sl) (m:Mem):Prop:=wps P cfg s o m fun v m => wpP (aput N s o.dst v) fun s => go P cfg N Q k s m
def goWU (P:Program) (cfg:Cfg) (N:Nat) (Q:Ex → Sl → Mem → Prop) (t:Bool) (o:Oper) (k:List It) (s:Sl) (m:Mem):Prop:=wpIf t (wpsU P cfg s o m fun v m => wpP (aput N s o.dst v) fun s => go P cfg N Q k s m) (wpP (aput N s o.dst undefV) fun s => go P cfg N Q k s m)
def goU (P:Program) (cfg:Cfg) (N:Nat) (Q:Ex → Sl → Mem → Prop) (o:Oper) (k:List It) (s:Sl) (m:Mem):Prop:=wpsU P cfg s o m fun v m => wpP (aput N s o.dst v) fun s => go P cfg N Q k s m
def goF (P:Program) (cfg:Cfg) (N:Nat) (Q:Ex → Sl → Mem → Prop) (f:AV) (args:List AV) (d:Option Tmp) (k:List It) (s:Sl) (m:Mem):Prop:=wpF f args fun fn as => wph P cfg fn as m fun v m => wpP (aput N s d v) fun s => go P cfg N Q k s m
def goH (P:Program) (cfg:Cfg) (N:Nat) (Q:Ex → Sl → Mem → Prop) (fn:Fn) (args:List AV) (d:Option Tmp) (k:List It) (s:Sl) (m:Mem):Prop:=wph P cfg fn args m fun v m => wpP (aput N s d v) fun s => go P cfg N Q k s m
def goM (P:Program) (cfg:Cfg) (N:Nat) (Q:Ex → Sl → Mem → Prop) (t:Bool) (k:List It) (s:Sl) (m:Mem):Prop:=t = true ∧ go P cfg N Q k s m
section
variable {N:Nat} {all:Array Oper} {s:Sl} {m:Mem} {Q:Ex → Sl → Mem → Prop} {o:Oper} {rest:List Oper} {k:List It} {acc:List (Sl × Mem)}
@[congr] theorem A5s {r r':Option (AV × Mem)} {d:Option Tmp} (h:r = r'):goR P cfg N Q r d k s = goR P cfg N Q r' d k s:=by rw [h]
@[congr] theorem A5t {r r':Option Sl} (h:r = r'):goP P cfg N Q r k m = goP P cfg N Q r' k m:=by rw [h]
@[congr] theorem A5z {r r':AV} {x y:Code} (h:r = r'):goB P cfg N Q r x y k s m = goB P cfg N Q r' x y k s m:=by rw [h]
@[congr] theorem A5r {r r':Bool} (h:r = r'):goW P cfg N Q r o k s m = goW P cfg N Q r' o k s m:=by rw [h]
@[congr] theorem A4r {r r':Bool} (h:r = r'):goWU P cfg N Q r o k s m = goWU P cfg N Q r' o k s m:=by rw [h]
@[congr] theorem A5u {r r':Bool} (h:r = r'):goM P cfg N Q r k s m = goM P cfg N Q r' k s m:=by rw [h]
@[congr] theorem A5y {r r':AV} {a a':List AV} {d:Option Tmp} (h:r = r') (h2:a = a'):goF P cfg N Q r a d k s m = goF P cfg N Q r' a' d k s m:=by rw [h,h2]
@[congr] theorem A5v {r:Fn} {a a':List AV} {d:Option Tmp} (h2:a = a'):goH P cfg N Q r a d k s m = goH P cfg N Q r a' d k s m:=by rw [h2]
theorem A5p:go P cfg N Q [] s m = Q .normal s m:=Eq.trans rfl rfl
theorem A3j:go P cfg N Q (.code .skip :: k) s m = go P cfg N Q k s m:=Eq.trans rfl rfl
theorem A3l {l:Nat}:go P cfg N Q (.code (.exit l) :: k) s m = goE P cfg N Q k (.exit l) s m:=Eq.trans rfl rfl
theorem A5k:go P cfg N Q (.code .ret :: k) s m = goE P cfg N Q k .ret s m:=Eq.trans rfl rfl
theorem Aa1 {a b:Code}:go P cfg N Q (.code (.seq a b) :: k) s m = go P cfg N Q (.code a :: .code b :: k) s m:=Eq.trans rfl rfl
theorem A3n {c:Operand} {x y:Code}:go P cfg N Q (.code (.cond c x y) :: k) s m = goB P cfg N Q (ev s c) x y k s m:=by
 show wpc P cfg N (.cond c x y) s m (goE P cfg N Q k) = _
 simp only [wpc,goB]
 congr 1
 funext t
 cases t <;> rfl
theorem Ayw {id:Nat} {b:Code}:go P cfg N Q (.code (.block id b) :: k) s m = go P cfg N Q (.code b :: .blk id :: k) s m:=Eq.trans rfl rfl
theorem Auv {id:Nat} {ops:List Oper}:go P cfg N Q (.code (.region id ⟨ops⟩ false) :: k) s m = go P cfg N Q (.ops ⟨ops⟩ ops :: k) s m:=Eq.trans rfl rfl
theorem A3m {id:Nat} {ops:List Oper} (h:drawOk ⟨ops⟩ = true):go P cfg N Q (.code (.region id ⟨ops⟩ true) :: k) s m = (go P cfg N Q (.opt ⟨ops⟩ ops [] :: k) s m ∨ (calm ⟨ops⟩ = true ∧ metL ⟨ops⟩ = [] ∧ go P cfg N Q (.ops ⟨ops⟩ ops :: k) s m)):=by
 refine propext ⟨fun ⟨os,h1,h2⟩ => ?_,fun h2 => ⟨_,Aku h,h2⟩⟩
 rw [Aku h] at h1
 cases h1
 exact h2
theorem Ar3:go P cfg N Q (.ops all [] :: k) s m = go P cfg N Q k s m:=Eq.trans rfl rfl
theorem Ar1:go P cfg N Q (.opz all [] :: k) s m = go P cfg N Q k s m:=Eq.trans rfl rfl
theorem A5n {op:Op} {d:Option Tmp} {T:TypeId} {p:String} {af:Array Edge}:go P cfg N Q (.ops all (⟨d,op,T,p,af,none⟩ :: rest) :: k) s m = goU P cfg N Q ⟨d,op,T,p,af,none⟩ (.ops all rest :: k) s m:=Eq.trans rfl rfl
theorem A5l {op:Op} {d:Option Tmp} {T:TypeId} {p:String} {af:Array Edge}:go P cfg N Q (.opz all (⟨d,op,T,p,af,none⟩ :: rest) :: k) s m = goS P cfg N Q ⟨d,op,T,p,af,none⟩ (.opz all rest :: k) s m:=Eq.trans rfl rfl
theorem Amh {op:Op} {d:Option Tmp} {T:TypeId} {p:String} {af:Array Edge} {j:Nat} {b:Bool}:go P cfg N Q (.ops all (⟨d,op,T,p,af,some (j,b)⟩ :: rest) :: k) s m = goWU P cfg N Q (ayields all s j == some b) ⟨d,op,T,p,af,none⟩ (.ops all rest :: k) s m:=Eq.trans rfl rfl
theorem Amg {op:Op} {d:Option Tmp} {T:TypeId} {p:String} {af:Array Edge} {j:Nat} {b:Bool}:go P cfg N Q (.opz all (⟨d,op,T,p,af,some (j,b)⟩ :: rest) :: k) s m = goW P cfg N Q (ayields all s j == some b) ⟨d,op,T,p,af,none⟩ (.opz all rest :: k) s m:=Eq.trans rfl rfl
theorem Ar2:go P cfg N Q (.opt all [] acc :: k) s m = goM P cfg N Q ((metL all).all (metAt all (acc ++ [(s,m)]))) k s m:=Eq.trans rfl rfl
theorem A5m {op:Op} {d:Option Tmp} {T:TypeId} {p:String} {af:Array Edge}:go P cfg N Q (.opt all (⟨d,op,T,p,af,none⟩ :: rest) acc :: k) s m = goS P cfg N Q ⟨d,op,T,p,af,none⟩ (.opt all rest (acc ++ [(s,m)]) :: k) s m:=Eq.trans rfl rfl
theorem Ar4 {ds:List Dg}:go P cfg N Q (.opd all [] ds :: k) s m = goM P cfg N Q ((metL all).all (metAtD all (ds ++ [(false,Option.none,m)]))) k s m:=Eq.trans rfl rfl
theorem A5o {ds:List Dg} {op:Op} {d:Option Tmp} {T:TypeId} {p:String} {af:Array Edge}:go P cfg N Q (.opd all (⟨d,op,T,p,af,none⟩ :: rest) ds :: k) s m = goS P cfg N Q ⟨d,op,T,p,af,none⟩ (.opd all rest (ds ++ [(true,objE s op,m)]) :: k) s m:=Eq.trans rfl rfl
theorem A5q {id:Nat}:go P cfg N Q (.blk id :: k) s m = go P cfg N Q k s m:=Eq.trans rfl rfl
theorem A3r {e:Ex}:goE P cfg N Q [] e s m = Q e s m:=Eq.trans rfl rfl
theorem Ak3 {id:Nat} {c:Code}:goE P cfg N Q (.code c :: k) (.exit id) s m = goE P cfg N Q k (.exit id) s m:=Eq.trans rfl rfl
theorem Amn {c:Code}:goE P cfg N Q (.code c :: k) .ret s m = goE P cfg N Q k .ret s m:=Eq.trans rfl rfl
theorem Aoo {id:Nat}:goE P cfg N Q (.blk id :: k) .ret s m = goE P cfg N Q k .ret s m:=Eq.trans rfl rfl
theorem Amo {id:Nat}:goE P cfg N Q (.blk id :: k) (.exit id) s m = go P cfg N Q k s m:=by simp [goE,V.blk,go]
theorem Ak4 {id id':Nat} (h:id' ≠ id):goE P cfg N Q (.blk id :: k) (.exit id') s m = goE P cfg N Q k (.exit id') s m:=by simp [goE,V.blk,h]
theorem Ayx:goW P cfg N Q true o k s m = goS P cfg N Q o k s m:=Eq.trans rfl rfl
theorem Auy:goWU P cfg N Q true o k s m = goU P cfg N Q o k s m:=Eq.trans rfl rfl
theorem Aux:goW P cfg N Q false o k s m = goP P cfg N Q (aput N s o.dst undefV) k m:=Eq.trans rfl rfl
theorem Ar5:goWU P cfg N Q false o k s m = goP P cfg N Q (aput N s o.dst undefV) k m:=Eq.trans rfl rfl
theorem Ay9 {d:Option Tmp} {v:AV}:goR P cfg N Q (some (v,m)) d k s = goP P cfg N Q (aput N s d v) k m:=Eq.trans rfl rfl
theorem Aza:goP P cfg N Q (some s) k m = go P cfg N Q k s m:=Eq.trans rfl rfl
theorem Aqk {x y:Code}:goB P cfg N Q (.sc (.bool true)) x y k s m = go P cfg N Q (.code x :: k) s m:=Eq.trans rfl rfl
theorem Amp {x y:Code}:goB P cfg N Q (.sc (.bool false)) x y k s m = go P cfg N Q (.code y :: k) s m:=Eq.trans rfl rfl
theorem Aas {t:Bool} {x y:Code} (h1:t = true → go P cfg N Q (.code x :: k) s m) (h2:t = false → go P cfg N Q (.code y :: k) s m):goB P cfg N Q (.sc (.bool t)) x y k s m:=by cases t; exact h2 rfl; exact h1 rfl
theorem A5x {f:FuncId} {a b args:List AV} {d:Option Tmp}:goF P cfg N Q (.fn (.func f) a b) args d k s m = goH P cfg N Q (.func f) (a ++ args ++ b) d k s m:=Eq.trans rfl rfl
theorem A5w {id:Nat} {args:List AV} {d:Option Tmp}:goF P cfg N Q (.yl id) args d k s m = goH P cfg N Q (.yield id) args d k s m:=Eq.trans rfl rfl
theorem Aae {fn:Fn} {args:List AV} {d:Option Tmp} {K:AV → Mem → Prop} (h:wph P cfg fn args m K) (hk:∀ v m,K v m → goP P cfg N Q (aput N s d v) k m):goH P cfg N Q fn args d k s m:=Abe h hk
theorem Ac2 {b:Code} (I:Nat → Sl → Mem → Prop) (n:Nat) (h:I n s m) (hb:∀ n s m,I n s m → ∀ Q':Ex → Sl → Mem → Prop,(∀ n' s m,n' < n → I n' s m → Q' .normal s m) → (∀ e s m,e ≠ .normal → goE P cfg N Q k e s m → Q' e s m) → go P cfg N Q' [.code b] s m):go P cfg N Q (.code (.loop b) :: k) s m:=by
 refine ⟨I,n,h,fun n s m hI => ?_⟩
 refine hb n s m hI _ (fun n' s m hn hI' => ⟨n',hn,hI'⟩) fun e s m hne he => ?_
 cases e with
 | normal => exact absurd rfl hne
 | _ => exact he
theorem Aru {keep:Bool} {rs:List ResultVar} {K K':AV → Mem → Prop} {e:Ex} (h:leave P keep rs K e s m) (k:∀ v m,K v m → K' v m):leave P keep rs K' e s m:=by
 obtain ⟨h1,vs,h2,h3⟩:=h
 exact ⟨h1,vs,h2,k _ _ h3⟩
theorem A2b {f : FuncId} {fn : Func} {c : Code} {args : List AV} {K : AV → Mem → Prop} (hf : P.funcs[f]? = some fn) (hb : fn.body = some c) (hk : cfg.hook f = none) (hn : fn.name ≠ "runtime.NumGoroutine") (hl : args.length ≤ fn.ntmps)
  (h:∀ Q,(∀ e s m',leave P (cfg.keepRes f) fn.results.toList (gcK (cfg.gc f) (if cfg.keepArgs f then (args,m) else fzvs m args).2 K) e s m' → Q e s m') → go P cfg fn.ntmps Q [.code c] (Sl.putAll .nil 0 (if cfg.keepArgs f then (args,m) else fzvs m args).1) (if cfg.keepArgs f then (args,m) else fzvs m args).2):wph P cfg (.func f) args m K:=by
 refine Agz hf hb hk hn hl ?_
 have:=h _ fun e s m x => x
 exact this
theorem Aaf {f : FuncId} {fn : Func} {c : Code} {args : List AV} {K : AV → Mem → Prop} (hf : P.funcs[f]? = some fn) (hb : fn.body = some c) (hk : cfg.hook f = none) (hn : fn.name ≠ "runtime.NumGoroutine") (hl : args.length ≤ fn.ntmps)
  (h:∀ Q,(∀ e s m,leave P (cfg.keepRes f) fn.results.toList K e s m → Q e s m) → go P cfg fn.ntmps Q [.code c] (Sl.putAll .nil 0 (if cfg.keepArgs f then (args,m) else fzvs m args).1) (if cfg.keepArgs f then (args,m) else fzvs m args).2) (hg:cfg.gc f = 0:=by rfl):wph P cfg (.func f) args m K :=
 A2b hf hb hk hn hl fun Q hQ => h Q fun e s m' hl => hQ e s m' (Aru hl fun v m k => by rw [hg]; exact gcK_0 k)
end
variable {P:Program} {cfg:Cfg}
section
variable {N:Nat} {s:Sl} {m:Mem} {Q:Ex → Sl → Mem → Prop} {k:List It} {d:Option Tmp} {T:TypeId} {p:String} {af:Array Edge} {gd:Option (Nat × Bool)}
theorem Ayc {v:AV}:aput N s none v = some s:=Eq.trans rfl rfl
theorem Ayb {t:Nat} {v:AV} (h:t < N):aput N s (some t) v = some (s.set t v):=by simp [aput,h]
theorem A58 {t:Nat}:ev s (.tmp t) = s.at t:=Eq.trans rfl rfl
theorem A0q {v:Value}:ev s (.const v) = ofConst v:=Eq.trans rfl rfl
theorem A38 {f:FuncId}:ev s (.func f) = .fn (.func f) [] []:=Eq.trans rfl rfl
theorem An7 {q:IntKind} {n:Int}:ofConst (.int q n) = .sc (.int q n):=Eq.trans rfl rfl
theorem Al8 {b:Bool}:ofConst (.bool b) = .sc (.bool b):=Eq.trans rfl rfl
theorem Aiw {b:ByteArray}:ofConst (.string b) = .sc (.string b):=Eq.trans rfl rfl
theorem An6:ofConst (.slice none 0 0) = .emp 0:=Eq.trans rfl rfl
theorem Ah6:ofConst .nilFunc = .sc .nilFunc:=Eq.trans rfl rfl
theorem An5 {x:Option Addr}:ofConst (.pointer x) = .sc (.pointer x):=Eq.trans rfl rfl
theorem Aaa {t:Nat} {v:AV}:(s.set t v).at t = v:=by rw [Sl.at_set,if_pos rfl]
theorem Awf {t u:Nat} {v:AV} (h:t ≠ u):(s.set u v).at t = s.at t:=by rw [Sl.at_set,if_neg h]
def aconvM (P:Program) (a b:TypeId) (x:AV) (m:Mem):Option (AV × Mem):=match elemsOf m x with
 | some ys => (aconvB P a b (.lst ys)).map (·,m)
 | Option.none => Option.none
theorem Ay6 {x:Operand}:goS P cfg N Q ⟨d,.move x,T,p,af,gd⟩ k s m = goP P cfg N Q (aput N s d (ev s x)) k m:=Eq.trans rfl rfl
theorem Ay1 {x:Operand}:goU P cfg N Q ⟨d,.move x,T,p,af,gd⟩ k s m = goP P cfg N Q (aput N s d (ev s x)) k m:=Eq.trans rfl rfl
theorem Asa {x:Operand}:goS P cfg N Q ⟨d,.assign x,T,p,af,gd⟩ k s m = goP P cfg N Q (aput N s d (ev s x)) k m:=Eq.trans rfl rfl
theorem Ar8 {x:Operand}:goU P cfg N Q ⟨d,.assign x,T,p,af,gd⟩ k s m = goP P cfg N Q (aput N s d (ev s x)) k m:=Eq.trans rfl rfl
theorem Au9 {op:BinOp} {t u:TypeId} {x y:Operand}:goS P cfg N Q ⟨d,.binOp op t x y u,T,p,af,gd⟩ k s m = goR P cfg N Q ((abin P op t x y (ev s x) (ev s y)).map (·,m)) d k s:=Eq.trans rfl rfl
theorem Au4 {op:BinOp} {t u:TypeId} {x y:Operand}:goU P cfg N Q ⟨d,.binOp op t x y u,T,p,af,gd⟩ k s m = goR P cfg N Q ((abin P op t x y (ev s x) (ev s y)).map (·,m)) d k s:=Eq.trans rfl rfl
theorem Ay5 {c x y:Operand}:goS P cfg N Q ⟨d,.pick c x y,T,p,af,gd⟩ k s m = goR P cfg N Q (match ev s c with | .sc (.bool t) => some (if t then ev s x else ev s y,m) | _ => none) d k s:=Eq.trans rfl rfl
theorem Ay0 {c x y:Operand}:goU P cfg N Q ⟨d,.pick c x y,T,p,af,gd⟩ k s m = goR P cfg N Q (match ev s c with | .sc (.bool t) => some (if t then ev s x else ev s y,m) | _ => none) d k s:=Eq.trans rfl rfl
theorem Ava {t:TypeId}:goS P cfg N Q ⟨d,.alloc t,T,p,af,gd⟩ k s m = goR P cfg N Q ((tzero P t).bind fun z => if z.okc then some (.ptr m.next 0,m.new z.cells false) else none) d k s:=Eq.trans rfl rfl
theorem Au5 {t:TypeId}:goU P cfg N Q ⟨d,.alloc t,T,p,af,gd⟩ k s m = goR P cfg N Q ((tzero P t).bind fun z => if z.okc then some (.ptr m.next 0,m.new z.cells false) else none) d k s:=Eq.trans rfl rfl
theorem A3q {t:TypeId} {x:Operand}:goS P cfg N Q ⟨d,.box t x,T,p,af,gd⟩ k s m = goR P cfg N Q (if (ev s x).okc then some (.ptr m.next 0,m.new (ev s x).cells false) else none) d k s:=Eq.trans rfl rfl
theorem A3p {t:TypeId} {x:Operand}:goU P cfg N Q ⟨d,.box t x,T,p,af,gd⟩ k s m = goR P cfg N Q (if (ev s x).okc then some (.ptr m.next 0,m.new (ev s x).cells false) else none) d k s:=Eq.trans rfl rfl
theorem Au8 {t:TypeId} {ps:List (Nat × Operand)}:goS P cfg N Q ⟨d,.build t ⟨ps⟩,T,p,af,gd⟩ k s m = goR P cfg N Q ((abuild P t (ps.map fun q => (q.1,ev s q.2))).map (·,m)) d k s:=Eq.trans rfl rfl
theorem Au3 {t:TypeId} {ps:List (Nat × Operand)}:goU P cfg N Q ⟨d,.build t ⟨ps⟩,T,p,af,gd⟩ k s m = goR P cfg N Q ((abuild P t (ps.map fun q => (q.1,ev s q.2))).map (·,m)) d k s:=Eq.trans rfl rfl
theorem Ai4 {t:TypeId} {n:Nat} {ps:List (Nat × Operand)}:goS P cfg N Q ⟨d,.buildSlice t n ⟨ps⟩,T,p,af,gd⟩ k s m = goR P cfg N Q (abuildSlice P t n (ps.map fun q => (q.1,ev s q.2)) m) d k s:=Eq.trans rfl rfl
theorem Ai2 {t:TypeId} {n:Nat} {ps:List (Nat × Operand)}:goU P cfg N Q ⟨d,.buildSlice t n ⟨ps⟩,T,p,af,gd⟩ k s m = goR P cfg N Q (abuildSlice P t n (ps.map fun q => (q.1,ev s q.2)) m) d k s:=Eq.trans rfl rfl
theorem Ay7 {t:TypeId} {x:Operand}:goS P cfg N Q ⟨d,.load t x,T,p,af,gd⟩ k s m = goR P cfg N Q ((aload P t (ev s x) m).map (·,m)) d k s:=Eq.trans rfl rfl
theorem Ay2 {t:TypeId} {x:Operand}:goU P cfg N Q ⟨d,.load t x,T,p,af,gd⟩ k s m = goR P cfg N Q ((aload P t (ev s x) m).map (·,m)) d k s:=Eq.trans rfl rfl
theorem Au6 {t:TypeId} {x y:Operand}:goS P cfg N Q ⟨d,.store t x y,T,p,af,gd⟩ k s m = goR P cfg N Q ((astore P t (ev s x) (ev s y) m).map (undefV,·)) d k s:=Eq.trans rfl rfl
theorem Auz {t:TypeId} {x y:Operand}:goU P cfg N Q ⟨d,.store t x y,T,p,af,gd⟩ k s m = goR P cfg N Q ((astore P t (ev s x) (ev s y) m).map (undefV,·)) d k s:=Eq.trans rfl rfl
theorem Amk {x:Operand}:goS P cfg N Q ⟨d,.nilCheck x,T,p,af,gd⟩ k s m = goR P cfg N Q (match ev s x with | .ptr id off => some (.ptr id off,m) | .cptr x off => some (.cptr x off,m) | .fn f a b => if isFuncPlain f then some (.fn f a b,m) else none | .yl id => some (.yl id,m) | _ => none) d k s:=Eq.trans rfl rfl
theorem Ami {x:Operand}:goU P cfg N Q ⟨d,.nilCheck x,T,p,af,gd⟩ k s m = goR P cfg N Q (match ev s x with | .ptr id off => some (.ptr id off,m) | .cptr x off => some (.cptr x off,m) | .fn f a b => if isFuncPlain f then some (.fn f a b,m) else none | .yl id => some (.yl id,m) | _ => none) d k s:=Eq.trans rfl rfl
theorem Ay4 {op:UnOp} {t:TypeId} {x:Operand}:goS P cfg N Q ⟨d,.unOp op t x,T,p,af,gd⟩ k s m = goR P cfg N Q ((scal (ev s x)).bind fun v => (pureRun P (Op.unary op v)).map fun v => (.sc v,m)) d k s:=Eq.trans rfl rfl
theorem Ayz {op:UnOp} {t:TypeId} {x:Operand}:goU P cfg N Q ⟨d,.unOp op t x,T,p,af,gd⟩ k s m = goR P cfg N Q ((scal (ev s x)).bind fun v => (pureRun P (Op.unary op v)).map fun v => (.sc v,m)) d k s:=Eq.trans rfl rfl
theorem Aol {t u:TypeId} {x:Operand}:goS P cfg N Q ⟨d,.convert t u x,T,p,af,gd⟩ k s m = goR P cfg N Q ((aconvert P t u (ev s x)).map (·,m)) d k s:=Eq.trans rfl rfl
theorem Aoh {t u:TypeId} {x:Operand}:goU P cfg N Q ⟨d,.convert t u x,T,p,af,gd⟩ k s m = goR P cfg N Q (orE ((aconvert P t u (ev s x)).map (·,m)) (aconvM P t u (ev s x) m)) d k s:=Eq.trans rfl rfl
theorem Agd {t:TypeId} {x:Operand}:goS P cfg N Q ⟨d,.makeInterface t x,T,p,af,gd⟩ k s m = goR P cfg N Q ((amakeIface P t (ev s x)).map (·,m)) d k s:=Eq.trans rfl rfl
theorem Agc {t:TypeId} {x:Operand}:goU P cfg N Q ⟨d,.makeInterface t x,T,p,af,gd⟩ k s m = goR P cfg N Q ((amakeIface P t (ev s x)).map (·,m)) d k s:=Eq.trans rfl rfl
theorem Ai1 {t u:TypeId} {x:Operand} {ok:Bool}:goU P cfg N Q ⟨d,.typeAssert x t u ok,T,p,af,gd⟩ k s m = goR P cfg N Q ((aassert P u ok (ev s x)).map (·,m)) d k s:=Eq.trans rfl rfl
theorem Amm {f:Fn} {a b:List Operand}:goS P cfg N Q ⟨d,.makeFunc f ⟨a⟩ ⟨b⟩,T,p,af,gd⟩ k s m = goP P cfg N Q (aput N s d (.fn f (a.map (ev s)) (b.map (ev s)))) k m:=Eq.trans rfl rfl
theorem Amj {f:Fn} {a b:List Operand}:goU P cfg N Q ⟨d,.makeFunc f ⟨a⟩ ⟨b⟩,T,p,af,gd⟩ k s m = goP P cfg N Q (aput N s d (.fn f (a.map (ev s)) (b.map (ev s)))) k m:=Eq.trans rfl rfl
theorem Au7 {t:TypeId} {x:Operand} {lo hi mx:Option Operand}:goS P cfg N Q ⟨d,.slice t x lo hi mx,T,p,af,gd⟩ k s m = goR P cfg N Q ((aslice P t (ev s x) (lo.map (ev s)) (hi.map (ev s)) (mx.map (ev s))).map (·,m)) d k s:=Eq.trans rfl rfl
theorem Au0 {t:TypeId} {x:Operand} {lo hi mx:Option Operand}:goU P cfg N Q ⟨d,.slice t x lo hi mx,T,p,af,gd⟩ k s m = goR P cfg N Q (orE ((aslice P t (ev s x) (lo.map (ev s)) (hi.map (ev s)) (mx.map (ev s))).map (·,m)) (aarr P t (ev s x) (lo.map (ev s)) (hi.map (ev s)) (mx.map (ev s)) m)) d k s:=Eq.trans rfl rfl
theorem Ak2 {t:TypeId} {x:Operand} {f:Nat}:goS P cfg N Q ⟨d,.fieldAddr t x f,T,p,af,gd⟩ k s m = goR P cfg N Q ((afieldAddr P t (ev s x) f).map (·,m)) d k s:=Eq.trans rfl rfl
theorem Akz {t:TypeId} {x:Operand} {f:Nat}:goU P cfg N Q ⟨d,.fieldAddr t x f,T,p,af,gd⟩ k s m = goR P cfg N Q ((afieldAddr P t (ev s x) f).map (·,m)) d k s:=Eq.trans rfl rfl
theorem Au2 {t:TypeId} {x:Operand} {f:Nat}:goU P cfg N Q ⟨d,.field t x f,T,p,af,gd⟩ k s m = goR P cfg N Q ((afield P t (ev s x) f).map (·,m)) d k s:=Eq.trans rfl rfl
theorem Ak1 {t:TypeId} {x i:Operand}:goS P cfg N Q ⟨d,.indexAddr t x i,T,p,af,gd⟩ k s m = goR P cfg N Q ((aindexAddr P t (ev s x) (ev s i)).map (·,m)) d k s:=Eq.trans rfl rfl
theorem Aky {t:TypeId} {x i:Operand}:goU P cfg N Q ⟨d,.indexAddr t x i,T,p,af,gd⟩ k s m = goR P cfg N Q ((aindexAddr P t (ev s x) (ev s i)).map (·,m)) d k s:=Eq.trans rfl rfl
theorem Au1 {t:TypeId} {x i:Operand}:goU P cfg N Q ⟨d,.index t x i,T,p,af,gd⟩ k s m = goR P cfg N Q ((aindex P t (ev s x) (ev s i)).map (·,m)) d k s:=Eq.trans rfl rfl
theorem Aok {x:Operand} {i:Nat}:goS P cfg N Q ⟨d,.extract x i,T,p,af,gd⟩ k s m = goR P cfg N Q (match ev s x with | .tup vs => (vs[i]?).map (·,m) | _ => none) d k s:=Eq.trans rfl rfl
theorem Aog {x:Operand} {i:Nat}:goU P cfg N Q ⟨d,.extract x i,T,p,af,gd⟩ k s m = goR P cfg N Q (match ev s x with | .tup vs => (vs[i]?).map (·,m) | _ => none) d k s:=Eq.trans rfl rfl
theorem Aom {b:Builtin} {args:List Operand} {ts:Array TypeId}:goS P cfg N Q ⟨d,.call { callee:=.builtin b,args:=⟨args⟩,argTypes:=ts },T,p,af,gd⟩ k s m = goR P cfg N Q (abuiltin P b ts T (args.map (ev s)) m) d k s:=Eq.trans rfl rfl
theorem Aoi {b:Builtin} {args:List Operand} {ts:Array TypeId}:goU P cfg N Q ⟨d,.call { callee:=.builtin b,args:=⟨args⟩,argTypes:=ts },T,p,af,gd⟩ k s m = goR P cfg N Q (abuiltin P b ts T (args.map (ev s)) m) d k s:=Eq.trans rfl rfl
theorem Ay8 {f:Operand} {args:List Operand} {ts:Array TypeId}:goS P cfg N Q ⟨d,.call { callee:=.value f,args:=⟨args⟩,argTypes:=ts },T,p,af,gd⟩ k s m = goF P cfg N Q (ev s f) (args.map (ev s)) d k s m:=Eq.trans rfl rfl
theorem Ay3 {f:Operand} {args:List Operand} {ts:Array TypeId}:goU P cfg N Q ⟨d,.call { callee:=.value f,args:=⟨args⟩,argTypes:=ts },T,p,af,gd⟩ k s m = goF P cfg N Q (ev s f) (args.map (ev s)) d k s m:=Eq.trans rfl rfl
end
section
variable {t:TypeId} {x y:Operand} {q:IntKind} {a b:Int}
theorem A1l:abin P .leq t x y (.sc (.int q a)) (.sc (.int q b)) = some (.sc (.bool (decide (a ≤ b)))):=by
 simp only [abin,plain,eqGuard,binOp,Op.intCmp]; simp; rfl
theorem A1k:abin P .lss t x y (.sc (.int q a)) (.sc (.int q b)) = some (.sc (.bool (decide (a < b)))):=by
 simp only [abin,plain,eqGuard,binOp,Op.intCmp]; simp; rfl
theorem A1m:abin P .gtr t x y (.sc (.int q a)) (.sc (.int q b)) = some (.sc (.bool (decide (b < a)))):=by
 simp only [abin,plain,eqGuard,binOp,Op.intCmp]; simp; rfl
theorem A1n:abin P .geq t x y (.sc (.int q a)) (.sc (.int q b)) = some (.sc (.bool (decide (b ≤ a)))):=by
 simp only [abin,plain,eqGuard,binOp,Op.intCmp]; simp; rfl
theorem A1o:abin P .eql t x y (.sc (.int q a)) (.sc (.int q b)) = some (.sc (.bool (decide (a = b)))):=by
 simp only [abin,plain,eqGuard,binOp,Op.intCmp]; simp; rfl
theorem A1j:abin P .neq t x y (.sc (.int q a)) (.sc (.int q b)) = some (.sc (.bool (!decide (a = b)))):=by
 simp only [abin,plain,eqGuard,binOp,Op.intCmp]; simp; rfl
theorem A1p:abin P .add t x y (.sc (.int q a)) (.sc (.int q b)) = some (.sc (.int q (q.wrap (a + b)))):=by
 simp only [abin,plain,eqGuard,binOp,Op.intArith]; simp; rfl
theorem A1h:abin P .sub t x y (.sc (.int q a)) (.sc (.int q b)) = some (.sc (.int q (q.wrap (a - b)))):=by
 simp only [abin,plain,eqGuard,binOp,Op.intArith]; simp; rfl
theorem A1i {a b:ByteArray}:abin P .eql t x y (.sc (.string a)) (.sc (.string b)) = some (.sc (.bool (a.toList == b.toList))):=by
 simp only [abin,plain,eqGuard,binOp,Op.stringOp]; simp; rfl
theorem Awq {a b:ByteArray}:abin P .neq t x y (.sc (.string a)) (.sc (.string b)) = some (.sc (.bool !(a.toList == b.toList))):=by
 simp only [abin,plain,eqGuard,binOp,Op.stringOp]; simp; rfl
end
theorem Ab4 {α:Type} (a:α):pureRun P (pure a:Sem α) = some a:=rfl
theorem Aaj {t:TypeId} {d:TypeDesc} (h:P.underlying t = some d):pureRun P (underlying t) = some d:=by
 show pureRun P (match P.underlying t with | some d => pure d | none => stuck "no such type") = some d
 rw [h]; rfl
theorem Awr {t:TypeId} {x y:Operand} {a b:List UInt8}:abin P .eql t x y (.sc (.string ⟨⟨a⟩⟩)) (.sc (.string ⟨⟨b⟩⟩)) = some (.sc (.bool (decide (a = b)))):=by
 rw [A1i,ByteArray.toList_eq,ByteArray.toList_eq]
 congr 3
 by_cases h:a = b <;> simp [h]
theorem Ass {t:TypeId} {x y:Operand} {a b:List UInt8}:abin P .neq t x y (.sc (.string ⟨⟨a⟩⟩)) (.sc (.string ⟨⟨b⟩⟩)) = some (.sc (.bool (!decide (a = b)))):=by
 rw [Awq,ByteArray.toList_eq,ByteArray.toList_eq]
 congr 3
 by_cases h:a = b <;> simp [h]
theorem A1e {t T:TypeId} {m:Mem} (ht:P.underlying t = some .string) {l:List UInt8}:abuiltin P .len #[t] T [.sc (.string ⟨⟨l⟩⟩)] m = some (.sc (.int .i64 l.length),m):=by
 have h:pureRun P (Builtin.len_ #[t] 0 #[.string ⟨⟨l⟩⟩]) = some (goInt l.length):=by
  unfold Builtin.len_
  simp only [List.getElem?_toArray,List.getElem?_cons_zero]
  rw [Aag,Aaj ht]
  rfl
 show ((pureRun P (Builtin.len_ #[t] 0 #[.string ⟨⟨l⟩⟩])).map AV.sc).map (·,m) = _
 rw [h]; rfl
theorem Aao {t T e:TypeId} {m:Mem} (ht:P.underlying t = some (.slice e)) {l:List AV}:abuiltin P .len #[t] T [.lst l] m = some (.sc (.int .i64 l.length),m):=by
 show (if (telem P t).isSome then _ else _:Option AV).map (·,m) = _
 simp [telem,ht,goInt]
theorem Ahf {t T e:TypeId} {m:Mem} (ht:P.underlying t = some (.slice e)) {b:Nat}:abuiltin P .len #[t] T [.emp b] m = some (.sc (.int .i64 0),m):=by
 show (if (telem P t).isSome then _ else _:Option AV).map (·,m) = _
 simp [telem,ht,goInt]
theorem Ae0 {t T e:TypeId} {m:Mem} (ht:P.underlying t = some (.slice e)) {id off len k:Nat} {ag:Bool} {c:Option Nat}:abuiltin P .len #[t] T [.sl id off len k ag c] m = some (.sc (.int .i64 len),m):=by
 show (if (telem P t).isSome then _ else _:Option AV).map (·,m) = _
 simp [telem,ht,goInt]
theorem Agk {t:TypeId} {q:IntKind} (ht:P.underlying t = some .string) {l:List UInt8} {i:Nat} {b:UInt8} (h:l[i]? = some b):aindex P t (.sc (.string ⟨⟨l⟩⟩)) (.sc (.int q i)) = some (.sc (.int .u8 b.toNat)):=by
 have hi:i < l.length:=(List.getElem?_eq_some_iff.1 h).1
 have hs:(⟨⟨l⟩⟩:ByteArray)[i]? = some b:=by
  obtain ⟨h1,h2⟩:=List.getElem?_eq_some_iff.1 h
  rw [getElem?_pos (⟨⟨l⟩⟩:ByteArray) i (by simpa [ByteArray.size] using hi)]
  exact congrArg some h2
 have:pureRun P (Instr.index t (.string ⟨⟨l⟩⟩) (.int q i)) = some (.int .u8 b.toNat):=by
  unfold Instr.index
  rw [Aag]
  show pureRun P _ = _
  rw [Aag,Aaj ht]
  simp only [Option.bind_some]
  rw [if_pos (by omega),Int.toNat_natCast,hs]
  rfl
 show (pureRun P (Instr.index t (.string ⟨⟨l⟩⟩) (.int q i))).map AV.sc = _
 rw [this]; rfl
def Gives (P:Program) (cfg:Cfg) (f:FuncId) (args:List AV) (r:AV):Prop:=∀ m0 args0 m,fzvs m0 args0 = (args,m) → EH P cfg (.func f) args0 m0 r m
theorem Adk:∀ (l:List AV) (m:Mem),(fzvs m l).1.length = l.length
 | [],m => rfl
 | x :: l,m => by simp only [fzvs,List.length_cons]; rw [Adk l]
theorem Aac {f : FuncId} {fn : Func} {c : Code} {args : List AV} {r : AV} (hf : P.funcs[f]? = some fn) (hb : fn.body = some c) (hk : cfg.hook f = none) (hka : cfg.keepArgs f = false) (hg : cfg.gc f = 1) (hr : ∀ n, r.bel n = true) (hn : fn.name ≠ "runtime.NumGoroutine") (hl : args.length ≤ fn.ntmps)
  (h:∀ m,go P cfg fn.ntmps (leave P (cfg.keepRes f) fn.results.toList (fun v m' => v = r ∧ Kp m m')) [.code c] (Sl.putAll .nil 0 args) m):Gives P cfg f args r:=by
 intro m0 args0 m hz
 have hlen:args.length = args0.length:=by rw [← Adk args0 m0,hz]
 have:wph P cfg (.func f) args0 m0 fun v m' => v = r ∧ m' = m:=by
  refine Agz hf hb hk hn (by omega) ?_
  rw [hka,hg]
  simp only [Bool.false_eq_true,if_false,hz]
  obtain ⟨e,s',m',h1,h2,vs,h3,h4,h5⟩:=Ac5 _ _ _ _ (h m)
  refine Abf (h m) ?_
  rintro e s' m' ⟨h2,vs,h3,h4,h5⟩
  exact ⟨h2,vs,h3,gcK_1 (by rw [h4]; exact hr _) h5 ⟨h4,rfl⟩⟩
 obtain ⟨v,m',h1,rfl,rfl⟩:=this
 exact h1
theorem Aba {f : FuncId} {fn : Func} {c : Code} {args : List AV} {r : AV} (hf : P.funcs[f]? = some fn) (hb : fn.body = some c) (hk : cfg.hook f = none) (hka : cfg.keepArgs f = false) (hn : fn.name ≠ "runtime.NumGoroutine") (hl : args.length ≤ fn.ntmps)
  (h:∀ m Q,(∀ e s m',leave P (cfg.keepRes f) fn.results.toList (fun v m' => v = r ∧ Kp m m') e s m' → Q e s m') → go P cfg fn.ntmps Q [.code c] (Sl.putAll .nil 0 args) m) (hg:cfg.gc f = 1:=by rfl) (hr:∀ n,r.bel n = true:=by intro n; simp [AV.bel,AV.bels]):Gives P cfg f args r :=
 Aac hf hb hk hka hg hr hn hl fun m => h m _ fun _ _ _ x => x
theorem Gives.go {N:Nat} {Q:Ex → Sl → Mem → Prop} {f:FuncId} {args:List AV} {r:AV} {d:Option Tmp} {k:List It} {s:Sl} {m:Mem} (h:Gives P cfg f args r) (hz:fzvs m args = (args,m):=by first | (simp; done) | rfl):goH P cfg N Q (.func f) args d k s m = goP P cfg N Q (aput N s d r) k m:=by
 have h1:=h m args m hz
 apply propext
 constructor
 ·rintro ⟨v,m1,h2,h3⟩
  obtain ⟨rfl,rfl⟩:=EH.unique h1 h2
  exact h3
 ·exact fun h3 => ⟨r,m,h1,h3⟩
theorem Gives.goF {N:Nat} {Q:Ex → Sl → Mem → Prop} {f:FuncId} {args args0:List AV} {r:AV} {d:Option Tmp} {k:List It} {s:Sl} {m m1:Mem} (h:Gives P cfg f args r) (hz:fzvs m args0 = (args,m1)):goH P cfg N Q (.func f) args0 d k s m = goP P cfg N Q (aput N s d r) k m1:=by
 have h1:=h m args0 m1 hz
 apply propext
 constructor
 ·rintro ⟨v,m1,h2,h3⟩
  obtain ⟨rfl,rfl⟩:=EH.unique h1 h2
  exact h3
 ·exact fun h3 => ⟨r,m1,h1,h3⟩
theorem Aar {N:Nat} {Q:Ex → Sl → Mem → Prop} {f:FuncId} {args args0:List AV} {r:AV} {d:Option Tmp} {k:List It} {s:Sl} {m:Mem} (h:Gives P cfg f args r) (hk:∀ m',Kp m m' → goP P cfg N Q (aput N s d r) k m') (hz:fzvs m args0 = (args,m):=by first | (simp; done) | rfl):goH P cfg N Q (.func f) args0 d k s m:=by
 rw [h.goF hz]; exact hk m (.refl m)
theorem Avb {N:Nat} {Q:Ex → Sl → Mem → Prop} {t:Bool} {x y:Code} {k:List It} {s:Sl} {m:Mem}:goB P cfg N Q (.sc (.bool t)) x y k s m = ((t = true → go P cfg N Q (.code x :: k) s m) ∧ (t = false → go P cfg N Q (.code y :: k) s m)):=by
 cases t <;> simp [goB,wpB]
theorem A3o {N:Nat} {Q:Ex → Sl → Mem → Prop} {t:Bool} {o:Oper} {k:List It} {s:Sl} {m:Mem}:goW P cfg N Q t o k s m = ((t = true → goS P cfg N Q o k s m) ∧ (t = false → goP P cfg N Q (aput N s o.dst undefV) k m)):=by
 cases t <;> simp [goW,wpIf,goS,goP]
theorem Ayy {N:Nat} {Q:Ex → Sl → Mem → Prop} {t:Bool} {o:Oper} {k:List It} {s:Sl} {m:Mem}:goWU P cfg N Q t o k s m = ((t = true → goU P cfg N Q o k s m) ∧ (t = false → goP P cfg N Q (aput N s o.dst undefV) k m)):=by
 cases t <;> simp [goWU,wpIf,goU,goP]
theorem Aaq {keep:Bool} {rs:List ResultVar} {K:AV → Mem → Prop} {s:Sl} {m:Mem}:leave P keep rs K .ret s m = ∃ vs,aresult P s m rs = some vs ∧ K (if keep then (oneOf vs,m) else fzr m (oneOf vs)).1 (if keep then (oneOf vs,m) else fzr m (oneOf vs)).2:=by simp [leave]
theorem Ada {t:Nat} {K:AV → Mem → Prop} {s:Sl} {m:Mem}:leave P false [.tmp t] K .ret s m = K (fzr m (s.at t)).1 (fzr m (s.at t)).2:=by simp [leave,aresult,oneOf]
theorem Art {t u:Nat} {K:AV → Mem → Prop} {s:Sl} {m:Mem}:leave P false [.tmp t,.tmp u] K .ret s m = K (fzr m (.tup [s.at t,s.at u])).1 (fzr m (.tup [s.at t,s.at u])).2:=by simp [leave,aresult,oneOf]
theorem A53 {m:Mem} {v:Value}:fzr m (.sc v) = (.sc v,m):=Eq.trans rfl rfl
theorem Aoq {m:Mem} {vs:List AV}:fzr m (.tup vs) = (.tup (fzvs m vs).1,(fzvs m vs).2):=Eq.trans rfl rfl
theorem Avd {m:Mem} {cs:List AV}:fzr m (.agg cs) = fzv m (.agg cs):=Eq.trans rfl rfl
theorem A3z {m:Mem} {cs:List AV}:fzr m (.lst cs) = (.lst cs,m):=Eq.trans rfl rfl
theorem A30 {m:Mem} {k:Nat}:fzr m (.emp k) = (.lst [],m):=Eq.trans rfl rfl
theorem A14 {m:Mem} {id off len k:Nat} {ag:Bool} {c:Option Nat}:fzr m (.sl id off len k ag c) = fz1 m (.sl id off len k ag c):=Eq.trans rfl rfl
theorem Aab {t:Nat} {s:Sl} {m:Mem} {v:Value} {e:Ex} {keep:Bool} {K:AV → Mem → Prop} (he:e = .normal ∨ e = .ret) (h:s.at t = .sc v) (hK:K (.sc v) m):leave P keep [.tmp t] K e s m:=by
 refine ⟨he,[s.at t],rfl,?_⟩
 cases keep <;> (simp only [oneOf,h]; exact hK)
theorem Auo {t:Nat} {s:Sl} {m:Mem} {e:Ex} {keep:Bool} {K:AV → Mem → Prop} (he:e = .normal ∨ e = .ret) (hK:K (if keep then (s.at t,m) else fzr m (s.at t)).1 (if keep then (s.at t,m) else fzr m (s.at t)).2):leave P keep [.tmp t] K e s m:=⟨he,[s.at t],rfl,hK⟩
theorem Auc {s:Sl} {T:TypeId} {a:Operand}:objE s (.load T a) = objV (ev s a):=Eq.trans rfl rfl
theorem Arm {s:Sl} {T:TypeId} {a v:Operand}:objE s (.store T a v) = objV (ev s a):=Eq.trans rfl rfl
theorem Ayk {id off:Nat}:objV (.ptr id off) = some id:=Eq.trans rfl rfl
theorem Aub {s:Sl} {a0:Operand}:objE s (.move a0) = Option.none:=Eq.trans rfl rfl
theorem An9 {s:Sl} {a0:Operand}:objE s (.assign a0) = Option.none:=Eq.trans rfl rfl
theorem Arq {s:Sl} {a0:TypeId}:objE s (.alloc a0) = Option.none:=Eq.trans rfl rfl
theorem Ayn {s:Sl} {a0:TypeId} {a1:Operand}:objE s (.box a0 a1) = Option.none:=Eq.trans rfl rfl
theorem Aro {s:Sl} {a0:TypeId} {a1:Array (Nat × Operand)}:objE s (.build a0 a1) = Option.none:=Eq.trans rfl rfl
theorem Ah7 {s:Sl} {a0:TypeId} {a1:Nat} {a2:Array (Nat × Operand)}:objE s (.buildSlice a0 a1 a2) = Option.none:=Eq.trans rfl rfl
theorem Akt {s:Sl} {a0:Operand}:objE s (.nilCheck a0) = Option.none:=Eq.trans rfl rfl
theorem Arp {s:Sl} {a0:BinOp} {a1:TypeId} {a2:Operand} {a3:Operand} {a4:TypeId}:objE s (.binOp a0 a1 a2 a3 a4) = Option.none:=Eq.trans rfl rfl
theorem Arn {s:Sl} {a0:TypeId} {a1:Operand} {a2:Option Operand} {a3:Option Operand} {a4:Option Operand}:objE s (.slice a0 a1 a2 a3 a4) = Option.none:=Eq.trans rfl rfl
theorem Aiy {s:Sl} {a0:TypeId} {a1:Operand} {a2:Nat}:objE s (.fieldAddr a0 a1 a2) = Option.none:=Eq.trans rfl rfl
theorem Aix {s:Sl} {a0:TypeId} {a1:Operand} {a2:Operand}:objE s (.indexAddr a0 a1 a2) = Option.none:=Eq.trans rfl rfl
theorem An8 {s:Sl} {a0:TypeId} {a1:Operand} {a2:Operand} {a3:Bool}:objE s (.lookup a0 a1 a2 a3) = Option.none:=Eq.trans rfl rfl
theorem Al9 {s:Sl} {a0:Operand} {a1:Nat}:objE s (.extract a0 a1) = Option.none:=Eq.trans rfl rfl
theorem Aud {s:Sl} {a0:Call}:objE s (.call a0) = Option.none:=Eq.trans rfl rfl
attribute [simp] Auc Arm Ayk Aub An9 Arq Ayn Aro Ah7 Akt Arp Arn Aiy Aix An8 Al9 Aud
attribute [simp ↓] A5p A3j A3l A5k Aa1 A3n Ayw Auv Ar3 A5n Amh Ar1 A5l Amg A5m Ar2 A5o Ar4 A5q A3r Ak3 Amn Aoo Amo Ak4 Ay6 Asa Au9 Ay5 Ava A3q Au8 Ai4 Ay7 Au6 Amk Ay4 Aol Agd Amm Au7 Ak2 Ak1 Aok Aom Ay8 Ay1 Ar8 Au4 Ay0 Au5 A3p Au3 Ai2 Ay2 Auz Ami Ayz Aoh Agc Ai1 Amj Au0 Akz Au2 Aky Au1 Aog Aoi Ay3 Ayg Ayh Auy Ar5
attribute [simp] Ayx Aux Ay9 Aza Aqk Amp A5x A5w Ayc Ayb A58 A0q A38 An7 Al8 Aiw An6 Ah6 An5 Aaa Awf A1l A1k A1m A1n A1o A1j A1p A1h Awr Ass A1e Aao Ahf Ae0 ayields abool fzvs fzs Sl.putAll
theorem Apd {t:TypeId} {q:IntKind} (ht:P.underlying t = some .string) {b:UInt8} {l:List UInt8}:aindex P t (.sc (.string ⟨⟨b :: l⟩⟩)) (.sc (.int q 0)) = some (.sc (.int .u8 b.toNat)):=Agk ht (i:=0) rfl
theorem As7 {b:Bool}:pureRun P (Op.unary .not (.bool b)) = some (.bool !b):=Eq.trans rfl rfl
theorem A20 {v:Value}:scal (.sc v) = some v:=Eq.trans rfl rfl
attribute [simp] Apd As7 A20
theorem Abt:pureRun P program = some P:=Eq.trans rfl rfl
theorem Al3 (q:Mark):pureRun P (mark q) = some ():=Eq.trans rfl rfl
theorem Aiv {f : FuncId} {fn : Func} {args : Array Value} {e : Array Value → Sem Value} (hf : P.funcs[f]? = some fn) (hn : (fn.name == "runtime.NumGoroutine") = false) (hb : fn.body = none) (h1 : Extern.findNext fn = none) (h2 : Extern.find fn = some e) :
  pureRun P (callFunc f args) = (pureRun P (e args)).map Next.value:=by
 unfold callFunc
 rw [Aag,Abt]
 simp only [Option.bind_some,hf,hn,hb,Bool.false_eq_true,if_false,Option.isNone_none,if_true]
 rw [Aag,Al3]
 simp only [Option.bind_some,h1,h2]
 first
 | (rw [Aag]; cases pureRun P (e args) <;> rfl)
 | (simp only [Aag]; cases pureRun P (e args) <;> rfl)
theorem A56 {m m':Mem} {x:AV} {v:Value} (h:fz1 m x = (.sc v,m')):x = .sc v ∧ m' = m:=by
 unfold fz1 at h
 split at h
 ·split at h
  ·split at h <;> cases h
  ·cases h
 ·cases h
 ·cases h; exact ⟨rfl,rfl⟩
theorem A52 {m m':Mem} {x:AV} {v:Value} (h:fzv m x = (.sc v,m')):x = .sc v ∧ m' = m:=by
 unfold fzv at h
 split at h
 ·cases h
 ·exact A56 h
theorem Aj3:∀ {l:List AV} {args:List AV} {vs:List Value} {m m':Mem},fzvs m l = (args,m') → scals args = some vs → l = args ∧ m' = m
 | [],args,vs,m,m',h,hs => by cases h; exact ⟨rfl,rfl⟩
 | x :: l,args,vs,m,m',h,hs => by
  simp only [fzvs,Prod.mk.injEq] at h
  obtain ⟨rfl,h2⟩:=h
  simp only [scals] at hs
  split at hs
  ·rename_i a b h3 h4
   cases hf:fzv m x with
   | mk y m1 =>
    rw [hf] at h3 h4 h2
    cases y <;> simp [scal] at h3
    subst h3
    obtain ⟨rfl,rfl⟩:=A52 hf
    cases hf2:fzvs m1 l with
    | mk ys m2 =>
     rw [hf2] at h4 h2
     obtain ⟨rfl,rfl⟩:=Aj3 hf2 h4
     exact ⟨rfl,h2.symm⟩
  ·cases hs
theorem Amq {f:FuncId} {fn:Func} {args:List AV} {vs:List Value} {r:Value} (hf:P.funcs[f]? = some fn) (hb:fn.body = none) (hk:cfg.hook f = none) (hs:scals args = some vs)
  (hr:pureRun P (callFunc f vs.toArray) = some (.value r)):Gives P cfg f args (.sc r):=by
 intro m0 args0 m hz
 obtain ⟨rfl,rfl⟩:=Aj3 hz hs
 obtain ⟨v,m',h1,rfl,rfl⟩:=Aq7 (K:=fun v m' => v = .sc r ∧ m' = m) hf hb hk hs hr ⟨rfl,rfl⟩
 exact h1
theorem Awn {T:TypeId} {id off:Nat} {m:Mem}:aload P T (.ptr id off) m = (match m.get id with | some (.cells cs _ _) => partOf P T cs off | _ => none):=Eq.trans rfl rfl
theorem Asn {T:TypeId} {x:AV} {off:Nat} {m:Mem}:aload P T (.cptr x off) m = (if x.okc then partOf P T x.cells off else none):=Eq.trans rfl rfl
theorem Asm {T:TypeId} {id off:Nat} {v:AV} {m:Mem}:astore P T (.ptr id off) v m = (match m.get id with | some (.cells cs false _) => if v.okc = true ∧ tsize P T = some v.cells.length ∧ off + v.cells.length ≤ cs.length then some (m.set id (splice cs off v.cells)) else none | _ => none):=Eq.trans rfl rfl
theorem Al5 {T:TypeId} {cs:List AV} {off:Nat} (h:tagg P T = some false):partOf P T cs off = cs[off]?:=by unfold partOf; rw [h]
theorem Afc {T:TypeId} {cs:List AV} {off n:Nat} (h:tagg P T = some true) (h2:tsize P T = some n):partOf P T cs off = if off + n ≤ cs.length then some (.agg ((cs.drop off).take n)) else none:=by unfold partOf; rw [h,h2]
theorem A27 {k:IntKind} {n:Int}:AV.okc (.sc (.int k n)) = true:=Eq.trans rfl rfl
theorem Ayi {b:Bool}:AV.okc (.sc (.bool b)) = true:=Eq.trans rfl rfl
theorem Ark {b:ByteArray}:AV.okc (.sc (.string b)) = true:=Eq.trans rfl rfl
theorem A26 {l:List AV}:AV.okc (.lst l) = true:=Eq.trans rfl rfl
theorem A28 {k:Nat}:AV.okc (.emp k) = true:=Eq.trans rfl rfl
theorem A29 {l:List AV}:AV.okc (.agg l) = true:=Eq.trans rfl rfl
theorem A23 {a b:Nat}:AV.okc (.ptr a b) = true:=Eq.trans rfl rfl
theorem A5c {f:Fn} {a b:List AV}:AV.okc (.fn f a b) = true:=Eq.trans rfl rfl
theorem A5b {id off len k:Nat} {ag:Bool} {c:Option Nat}:AV.okc (.sl id off len k ag c) = true:=Eq.trans rfl rfl
theorem Avz {k:IntKind} {n:Int}:AV.cells (.sc (.int k n)) = [.sc (.int k n)]:=Eq.trans rfl rfl
theorem Asj {b:Bool}:AV.cells (.sc (.bool b)) = [.sc (.bool b)]:=Eq.trans rfl rfl
theorem Am8 {b:ByteArray}:AV.cells (.sc (.string b)) = [.sc (.string b)]:=Eq.trans rfl rfl
theorem Avy {l:List AV}:AV.cells (.lst l) = [.lst l]:=Eq.trans rfl rfl
theorem Av0 {k:Nat}:AV.cells (.emp k) = [.emp k]:=Eq.trans rfl rfl
theorem Av1 {l:List AV}:AV.cells (.agg l) = l:=Eq.trans rfl rfl
theorem Avx {a b:Nat}:AV.cells (.ptr a b) = [.ptr a b]:=Eq.trans rfl rfl
theorem A04 {f:Fn} {a b:List AV}:AV.cells (.fn f a b) = [.fn f a b]:=Eq.trans rfl rfl
theorem A01 {id off len k:Nat} {ag:Bool} {c:Option Nat}:AV.cells (.sl id off len k ag c) = [.sl id off len k ag c]:=Eq.trans rfl rfl
attribute [simp] Awn Asn Asm Al5 Afc A27 Ayi Ark A26 A28 A29 A23 A5c A5b Avz Asj Am8 Avy Av0 Av1 Avx A04 A01 splice
theorem Aad {T e:TypeId} {q:IntKind} (ht:P.underlying T = some (.slice e)) {k:Nat} (hk:tsize P e = some k) {l:List AV} {i:Nat} {x:AV} (h:l[i]? = some x) (hx:x.cells.length = k):aindexAddr P T (.lst l) (.sc (.int q i)) = some (.cptr x 0):=by
 unfold aindexAddr
 dsimp only
 rw [if_neg (by omega)]
 simp [telem,ht,h,hk,hx]
theorem Aak {T e:TypeId} {q:IntKind} (ht:P.underlying T = some (.slice e)) {k:Nat} (hk:tsize P e = some k) {id off len:Nat} {ag:Bool} {c:Option Nat} {i:Nat} (h:i < len):aindexAddr P T (.sl id off len k ag c) (.sc (.int q i)) = some (.ptr id (off + i * k)):=by
 unfold aindexAddr
 dsimp only
 rw [if_neg (by omega)]
 simp [telem,ht,h,hk]
theorem Kp.set {m m1:Mem} (h:Kp m m1) {id:Nat} (hi:m.next ≤ id) (cs:List AV):Kp m (m1.set id cs):=⟨h.next,fun j hj => by rw [Mem.get_set,if_neg (by omega)]; exact h.get j hj,h.x.same rfl rfl⟩
theorem Kp.mark {m m1:Mem} (h:Kp m m1) {id:Nat} (hi:m.next ≤ id) (cs:List AV) (v:Nat):Kp m (m1.mark id cs v):=⟨h.next,fun j hj => by rw [Mem.get_mark,if_neg (by omega)]; exact h.get j hj,h.x.same rfl rfl⟩
theorem Kp.kill {m m1:Mem} (h:Kp m m1) {id:Nat} (hi:m.next ≤ id):Kp m (m1.kill id):=⟨h.next,fun j hj => by rw [Mem.get_kill,if_neg (by omega)]; exact h.get j hj,h.x.same rfl rfl⟩
theorem Kp.newr {m m1:Mem} (h:Kp m m1) (cs:List AV) (f:Bool):Kp m (m1.new cs f):=h.trans (.new _ _ _)
theorem Aa5 {T e:TypeId} {q:IntKind} (ht:P.underlying T = some (.slice e)) {k:Nat} (hk:tsize P e = some k) {l:List AV} {x:AV} (hx:x.cells.length = k):aindexAddr P T (.lst (x :: l)) (.sc (.int q 0)) = some (.cptr x 0):=Aad ht hk (i:=0) rfl hx
section
variable {m:Mem}
theorem A32 {v:Value}:fz1 m (.sc v) = (.sc v,m):=Eq.trans rfl rfl
theorem A3u {v:Value}:fzv m (.sc v) = (.sc v,m):=Eq.trans rfl rfl
theorem Azg {a b:Nat}:fz1 m (.ptr a b) = (.ptr a b,m):=Eq.trans rfl rfl
theorem Azc {a b:Nat}:fzv m (.ptr a b) = (.ptr a b,m):=Eq.trans rfl rfl
theorem Azi {k:Nat}:fz1 m (.emp k) = (.lst [],m):=Eq.trans rfl rfl
theorem Aze {k:Nat}:fzv m (.emp k) = (.lst [],m):=Eq.trans rfl rfl
theorem Azh {l:List AV}:fz1 m (.lst l) = (.lst l,m):=Eq.trans rfl rfl
theorem Azd {l:List AV}:fzv m (.lst l) = (.lst l,m):=Eq.trans rfl rfl
theorem A3w {f:Fn} {a b:List AV}:fzv m (.fn f a b) = (.fn f a b,m):=Eq.trans rfl rfl
theorem Azf {cs:List AV}:fzv m (.agg cs) = (.agg (fzs m cs).1,(fzs m cs).2):=Eq.trans rfl rfl
end
attribute [simp] A32 A3u Azg Azc Azi Aze Azh Azd A3w Azf
theorem Aaz {N:Nat} {Q:Ex → Sl → Mem → Prop} {id:Nat} {ops:List Oper} {k:List It} {s:Sl} {m:Mem} (h:drawOk ⟨ops⟩ = true) (h2:go P cfg N Q (.opt ⟨ops⟩ ops [] :: k) s m):go P cfg N Q (.code (.region id ⟨ops⟩ true) :: k) s m:=by rw [A3m h]; exact .inl h2
theorem Aon {N:Nat} {Q:Ex → Sl → Mem → Prop} {all:Array Oper} {f:Nat × Nat → Bool} {k:List It} {s:Sl} {m:Mem} (h:metL all = []) (h2:go P cfg N Q k s m):goM P cfg N Q ((metL all).all f) k s m:=by rw [h]; exact ⟨rfl,h2⟩
theorem Kp.refl' {m:Mem}:Kp m m:=.refl m
theorem Kp.set_eq {m m1:Mem} {id:Nat} {cs:List AV} (hi:m.next ≤ id):Kp m (m1.set id cs) = Kp m m1:=propext ⟨fun h => ⟨h.next,fun j hj => by have:=h.get j hj; rwa [Mem.get_set,if_neg (by omega)] at this,h.x.same rfl rfl⟩,fun h => h.set hi cs⟩
theorem Kp.new_eq {m m1:Mem} {cs:List AV} {f:Bool} (hi:m.next ≤ m1.next):Kp m (m1.new cs f) = Kp m m1:=propext ⟨fun h => ⟨hi,fun j hj => by have:=h.get j hj; rwa [Mem.get_new,if_neg (by omega)] at this,h.x.same rfl rfl⟩,fun h => h.newr cs f⟩
attribute [simp] Kp.refl' Kp.set_eq Kp.new_eq Ada Art A53 Aoq Avd A3z A30 A14 AV.bel AV.bels
variable {P:Program} {cfg:Cfg}
def wr:Code → List Nat
 | .region _ ops _ => ops.toList.filterMap (·.dst)
 | .seq a b => wr a ++ wr b
 | .cond _ a b => wr a ++ wr b
 | .block _ a => wr a
 | .loop a => wr a
 | _ => []
def Same (W:List Nat) (s s':Sl):Prop:=∀ t,W.contains t = false → s'.at t = s.at t
theorem Same.refl (W:List Nat) (s:Sl):Same W s s:=fun _ _ => rfl
theorem Same.trans {W:List Nat} {a b c:Sl} (h:Same W a b) (k:Same W b c):Same W a c:=fun t ht => (k t ht).trans (h t ht)
theorem Same.left {W V:List Nat} {a b:Sl} (h:Same W a b):Same (W ++ V) a b:=fun t ht => h t (by simp at ht ⊢; exact ht.1)
theorem Same.right {W V:List Nat} {a b:Sl} (h:Same V a b):Same (W ++ V) a b:=fun t ht => h t (by simp at ht ⊢; exact ht.2)
theorem Ax4 {N:Nat} {s s':Sl} {d:Option Tmp} {v:AV} {W:List Nat} (hd:∀ t,d = some t → t ∈ W) (h:aput N s d v = some s'):Same W s s':=by
 unfold aput at h
 split at h
 ·cases h; exact .refl _ _
 ·split at h
  ·rename_i t _ ht
   cases h
   intro u hu
   rw [Sl.at_set,if_neg]
   rintro rfl
   have:=hd _ rfl
   simp at hu
   exact hu this
  ·cases h
theorem Ag0 {N:Nat} {s:Sl} {d:Option Tmp} {v:AV} {W:List Nat} {K K':Sl → Prop} (hd:∀ t,d = some t → t ∈ W) (h:wpP (aput N s d v) K) (k:∀ s',Same W s s' → K s' → K' s'):wpP (aput N s d v) K':=by
 unfold wpP at h ⊢
 split at h
 ·rename_i s' hs; exact k s' (Ax4 hd hs) h
 ·exact h.elim
theorem Ae2 {N:Nat} {all:Array Oper} {W:List Nat}:∀ (l:List Oper),(∀ o ∈ l,∀ t,o.dst = some t → t ∈ W) → ∀ (s:Sl) (m:Mem) (K:Sl → Mem → Prop),wpoU P cfg N all l s m K → wpoU P cfg N all l s m fun s' m' => K s' m' ∧ Same W s s'
 | [],hl,s,m,K,h => ⟨h,.refl _ _⟩
 | o :: l,hl,s,m,K,h => by
  simp only [wpoU] at h ⊢
  have ho:=hl o (by simp)
  have hl':∀ o ∈ l,∀ t,o.dst = some t → t ∈ W:=fun o ho => hl o (by simp [ho])
  exact Ab2 h (fun h => Alk h fun v m1 h => Ag0 ho h fun s1 e h => Ac3 l s1 m1 _ _ (Ae2 l hl' s1 m1 K h) fun s' m' h => ⟨h.1,e.trans h.2⟩)
   (fun h => Ag0 ho h fun s1 e h => Ac3 l s1 m _ _ (Ae2 l hl' s1 m K h) fun s' m' h => ⟨h.1,e.trans h.2⟩)
theorem Ake {N:Nat} {all:Array Oper} {W:List Nat}:∀ (l:List Oper),(∀ o ∈ l,∀ t,o.dst = some t → t ∈ W) → ∀ (s:Sl) (m:Mem) (acc:List (Sl × Mem)) (K:List (Sl × Mem) → Sl → Mem → Prop),wpt P cfg N all l s m acc K → wpt P cfg N all l s m acc fun a s' m' => K a s' m' ∧ Same W s s'
 | [],hl,s,m,acc,K,h => ⟨h,.refl _ _⟩
 | o :: l,hl,s,m,acc,K,h => by
  simp only [wpt] at h ⊢
  have ho:=hl o (by simp)
  have hl':∀ o ∈ l,∀ t,o.dst = some t → t ∈ W:=fun o ho => hl o (by simp [ho])
  exact Ab2 h (fun h => Ae1 h fun v m1 h => Ag0 ho h fun s1 e h => Adf l s1 m1 _ _ _ (Ake l hl' s1 m1 _ K h) fun a s' m' h => ⟨h.1,e.trans h.2⟩)
   (fun h => Ag0 ho h fun s1 e h => Adf l s1 m _ _ _ (Ake l hl' s1 m _ K h) fun a s' m' h => ⟨h.1,e.trans h.2⟩)
theorem Aue {ops os:Array Oper} (h:normO ops = some os):∀ o ∈ os.toList,∃ q ∈ ops.toList,q.dst = o.dst:=by
 unfold normO at h
 split at h
 ·cases h; exact fun o ho => ⟨o,ho,rfl⟩
 ·dsimp only at h
  split at h
  ·cases h
   intro o ho
   simp only [renum,List.mem_filterMap,Option.map_eq_some_iff] at ho
   obtain ⟨i,_,q,hq,rfl⟩:=ho
   exact ⟨q,by simpa using Array.mem_of_getElem? hq,rfl⟩
  ·cases h
theorem Axq {N:Nat}:∀ {c:Code} {s:Sl} {m:Mem} {Q:Ex → Sl → Mem → Prop},wpc P cfg N c s m Q → wpc P cfg N c s m fun e s' m' => Q e s' m' ∧ Same (wr c) s s':=by
 intro c
 induction c with
 | skip => intro s m Q h; exact ⟨h,.refl _ _⟩
 | label l => intro s m Q h; exact ⟨h,.refl _ _⟩
 | exit l => intro s m Q h; exact ⟨h,.refl _ _⟩
 | ret => intro s m Q h; exact ⟨h,.refl _ _⟩
 | region id ops draw =>
  intro s m Q h
  have hw:∀ o ∈ ops.toList,∀ t,o.dst = some t → t ∈ wr (.region id ops draw):=fun o ho t ht => by
   simp only [wr,List.mem_filterMap]; exact ⟨o,ho,ht⟩
  simp only [wpc] at h ⊢
  split at h
  ·rename_i hd
   rw [if_pos hd]
   refine h.imp fun os h => ?_
   have hw':∀ o ∈ os.toList,∀ t,o.dst = some t → t ∈ wr (.region id ops draw):=fun o ho t ht => by
    obtain ⟨q,hq,e⟩:=Aue h.1 o ho
    exact hw q hq t (e.trans ht)
   exact ⟨h.1,h.2.elim (fun h => .inl (Adf _ _ _ _ _ _ (Ake _ hw' _ _ _ _ h) fun a s m h => ⟨h.1.1,h.1.2,h.2⟩)) fun h => .inr ⟨h.1,h.2.1,Ae2 _ hw' _ _ _ h.2.2⟩⟩
  ·rename_i hd
   rw [if_neg hd]
   exact Ae2 _ hw _ _ _ h
 | seq a b iha ihb =>
  intro s m Q h
  simp only [wpc] at h ⊢
  refine Abf (iha h) fun e s1 m1 h => ?_
  obtain ⟨h,e1⟩:=h
  cases e with
  | normal => exact Abf (ihb h) fun e s2 m2 h => ⟨h.1,e1.left.trans h.2.right⟩
  | _ => exact ⟨h,e1.left⟩
 | cond c x y ihx ihy =>
  intro s m Q h
  simp only [wpc] at h ⊢
  unfold wpB at h ⊢
  split at h
  ·exact Ab2 h (fun h => Abf (ihx h) fun e s m h => ⟨h.1,h.2.left⟩) (fun h => Abf (ihy h) fun e s m h => ⟨h.1,h.2.right⟩)
  ·exact h.elim
 | block id b ih =>
  intro s m Q h
  simp only [wpc] at h ⊢
  refine Abf (ih h) fun e s m h => ?_
  obtain ⟨h,e1⟩:=h
  cases e with
  | exit id' =>
   simp only [blk] at h ⊢
   split at h
   ·rename_i e; rw [if_pos e]; exact ⟨h,e1⟩
   ·rename_i e; rw [if_neg e]; exact ⟨h,e1⟩
  | _ => exact ⟨h,e1⟩
 | loop b ih =>
  intro s m Q h
  simp only [wpc] at h ⊢
  obtain ⟨I,n,h1,h2⟩:=h
  refine ⟨fun n s' m' => I n s' m' ∧ Same (wr b) s s',n,⟨h1,.refl _ _⟩,fun n s1 m1 hI => Abf (ih (h2 n s1 m1 hI.1)) fun e s2 m2 h => ?_⟩
  obtain ⟨h,e1⟩:=h
  cases e with
  | normal => obtain ⟨n',hn,hI'⟩:=h; exact ⟨n',hn,hI',hI.2.trans e1⟩
  | _ => exact ⟨h,hI.2.trans e1⟩
 | rangeFunc g ps x y =>
  intro s m Q h
  simp only [wpc] at h ⊢
  split at h
  ·obtain ⟨hb,v,m2,h1,L,e,h2,h3,h4,h5⟩:=h
   exact ⟨hb,v,m2,h1,L,e,h2,h3,h4,h5,.refl _ _⟩
  ·exact h.elim
 | _ => intro s m Q h; exact h.elim
section
variable {N:Nat} {Q:Ex → Sl → Mem → Prop} {k:List It}
theorem Ayv {b:Code} {s0:Sl} {m0:Mem} (I:Nat → Sl → Mem → Prop) (n:Nat) (h:I n s0 m0)
  (hb:∀ n s m,I n s m → Same (wr b) s0 s → ∀ Q':Ex → Sl → Mem → Prop,(∀ n' s' m',n' < n → I n' s' m' → Q' .normal s' m') → (∀ e s' m',e ≠ .normal → goE P cfg N Q k e s' m' → Q' e s' m') → go P cfg N Q' [.code b] s m):go P cfg N Q (.code (.loop b) :: k) s0 m0:=by
 refine ⟨fun n s m => I n s m ∧ Same (wr b) s0 s,n,⟨h,.refl _ _⟩,fun n s m hI => ?_⟩
 have:=hb n s m hI.1 hI.2 (thn (fun s m => ∃ n',n' < n ∧ I n' s m) (goE P cfg N Q k)) (fun n' s' m' hn hI' => ⟨n',hn,hI'⟩) fun e s' m' hne he => by
  cases e with
  | normal => exact absurd rfl hne
  | _ => exact he
 refine Abf (Axq this) fun e s' m' h => ?_
 obtain ⟨h,e1⟩:=h
 cases e with
 | normal => obtain ⟨n',hn,hI'⟩:=h; exact ⟨n',hn,hI',hI.2.trans e1⟩
 | _ => exact h
theorem Aam {b:Code} {s0:Sl} {m0:Mem} (ti n:Nat) (A:Nat → Sl → Mem → Prop) (h0:s0.at ti = .sc (.int .i64 0)) (hn:n ≤ 2 ^ 60) (hA:A 0 s0 m0)
  (hb:∀ i s m,i ≤ n → s.at ti = .sc (.int .i64 i) → A i s m → Same (wr b) s0 s → IntKind.i64.wrap ((i:Int) + 1) = (i:Int) + 1 → ∀ Q':Ex → Sl → Mem → Prop,(∀ s' m',i < n → s'.at ti = .sc (.int .i64 ((i:Int) + 1)) → A (i + 1) s' m' → Q' .normal s' m') → (∀ e s' m',e ≠ .normal → goE P cfg N Q k e s' m' → Q' e s' m') → go P cfg N Q' [.code b] s m):go P cfg N Q (.code (.loop b) :: k) s0 m0:=by
 refine Ayv (fun j s m => ∃ i,j = n - i ∧ i ≤ n ∧ s.at ti = .sc (.int .i64 i) ∧ A i s m) n ⟨0,rfl,Nat.zero_le _,h0,hA⟩ ?_
 rintro j s m ⟨i,rfl,hi,e,hA⟩ hs Q' hq he
 refine hb i s m hi e hA hs (IntWalk.i64_in _ (by omega)) Q' (fun s' m' hlt e' hA' => hq (n - (i + 1)) s' m' (by omega) ⟨i + 1,rfl,hlt,by rw [e']; rfl,hA'⟩) he
end
theorem EH.go {N:Nat} {Q:Ex → Sl → Mem → Prop} {f:Fn} {args:List AV} {r:AV} {d:Option Tmp} {k:List It} {s:Sl} {m m1:Mem} (h1:EH P cfg f args m r m1):goH P cfg N Q f args d k s m = goP P cfg N Q (aput N s d r) k m1:=by
 apply propext
 constructor
 ·rintro ⟨v,m1,h2,h3⟩
  obtain ⟨rfl,rfl⟩:=EH.unique h1 h2
  exact h3
 ·exact fun h3 => ⟨r,m1,h1,h3⟩
theorem Abd {f : FuncId} {fn : Func} {c : Code} {args args1 : List AV} {r : AV} {m m1 : Mem} (hf : P.funcs[f]? = some fn) (hb : fn.body = some c) (hk : cfg.hook f = none) (hka : cfg.keepArgs f = false) (hg : cfg.gc f = 1) (hz : fzvs m args = (args1, m1)) (hr : r.bel m1.next = true) (hn : fn.name ≠ "runtime.NumGoroutine") (hl : args.length ≤ fn.ntmps)
  (h:go P cfg fn.ntmps (leave P (cfg.keepRes f) fn.results.toList (fun v m' => v = r ∧ Kp m1 m')) [.code c] (Sl.putAll .nil 0 args1) m1):EH P cfg (.func f) args m r m1:=by
 have:wph P cfg (.func f) args m fun v m' => v = r ∧ m' = m1:=by
  refine Agz hf hb hk hn hl ?_
  rw [hka,hg]
  simp only [Bool.false_eq_true,if_false,hz]
  refine Abf h ?_
  rintro e s' m' ⟨h2,vs,h3,h4,h5⟩
  exact ⟨h2,vs,h3,gcK_1 (by rw [h4]; exact hr) h5 ⟨h4,rfl⟩⟩
 obtain ⟨v,m',h1,rfl,rfl⟩:=this
 exact h1
theorem Abh {f:FuncId} {h:List AV → Mem → Option (AV × Mem)} {args:List AV} {m m':Mem} {v:AV} (hk:cfg.hook f = some h) (e:h args m = some (v,m')):EH P cfg (.func f) args m v m':=.of (n:=1) (by simp only [afn,hk,e])
theorem eh_of {fn:Fn} {args:List AV} {m m':Mem} {r:AV} (h:wph P cfg fn args m fun v m1 => v = r ∧ m1 = m'):EH P cfg fn args m r m':=by
 obtain ⟨v,m1,h1,rfl,rfl⟩:=h
 exact h1
end Go.V
