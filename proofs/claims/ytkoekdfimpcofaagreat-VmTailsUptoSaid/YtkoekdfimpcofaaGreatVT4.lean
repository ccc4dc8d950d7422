/- Part of a proof. -/
import Derived.Test.YtkoekdfimpcofaaGreatVT3
import Derived.IntWalk
set_option maxHeartbeats 64000000
set_option linter.unusedSimpArgs false
set_option linter.unusedVariables false
set_option linter.unusedSectionVars false
namespace Go.V
variable {P:Program} {cfg:Cfg}
def Evt (p:Nat → Prop):Prop:=∃ n0,∀ n,n0 ≤ n → p n
theorem Evt.all {p:Nat → Prop} (h:∀ n,p n):Evt p:=⟨0,fun n _ => h n⟩
theorem Evt.mono {p q:Nat → Prop} (h:Evt p) (k:∀ n,p n → q n):Evt q:=let ⟨n0,hn⟩:=h; ⟨n0,fun n l => k n (hn n l)⟩
theorem Evt.and {p q:Nat → Prop} (h:Evt p) (k:Evt q):Evt fun n => p n ∧ q n :=
 let ⟨a,ha⟩:=h; let ⟨b,hb⟩:=k
 ⟨a + b,fun n l => ⟨ha n (by omega),hb n (by omega)⟩⟩
theorem Evt.both {p q r:Nat → Prop} (h:Evt p) (k:Evt q) (f:∀ n,p n → q n → r n):Evt r:=(h.and k).mono fun n x => f n x.1 x.2
theorem Evt.one {p:Nat → Prop} (h:Evt p):∃ n,p n:=let ⟨n0,hn⟩:=h; ⟨n0,hn n0 (Nat.le_refl _)⟩
def EH (P:Program) (cfg:Cfg) (fn:Fn) (args:List AV) (m:Mem) (r:AV) (m':Mem):Prop:=Evt fun n => afn P cfg n fn args m = some (r,m')
def wph (P:Program) (cfg:Cfg) (fn:Fn) (args:List AV) (m:Mem) (K:AV → Mem → Prop):Prop:=∃ v m1,EH P cfg fn args m v m1 ∧ K v m1
def wpR (r:Option (AV × Mem)) (K:AV → Mem → Prop):Prop:=match r with | some (v,m) => K v m | none => False
def wpP (r:Option Sl) (K:Sl → Prop):Prop:=match r with | some s => K s | none => False
def wpIf (t:Bool) (A B:Prop):Prop:=match t with | true => A | false => B
def wpB (v:AV) (K:Bool → Prop):Prop:=match v with | .sc (.bool t) => K t | _ => False
def wpF (v:AV) (args:List AV) (K:Fn → List AV → Prop):Prop:=match v with | .fn (.func f) a b => K (.func f) (a ++ args ++ b) | .yl id => K (.yield id) args | _ => False
@[congr] theorem A0i {fn:Fn} {args args':List AV} {m:Mem} {K:AV → Mem → Prop} (h:args = args'):wph P cfg fn args m K = wph P cfg fn args' m K:=by rw [h]
def wps (P:Program) (cfg:Cfg) (s:Sl) (o:Oper) (m:Mem) (K:AV → Mem → Prop):Prop :=
 match o.op with
 | .call { callee:=.value f,args,.. } => wpF (ev s f) (args.toList.map (ev s)) fun fn as => wph P cfg fn as m K
 | _ => wpR (aop P s o m) K
theorem Aj5 {s:Sl} {o:Oper} {m:Mem} {K:AV → Mem → Prop} (h:wps P cfg s o m K):∃ v m1,Evt (fun n => astep P (afn P cfg n) s o m = some (v,m1)) ∧ K v m1:=by
 unfold wps at h
 split at h
 ·rename_i f args ts ho
  unfold wpF at h
  split at h
  ·rename_i fn a b hf
   obtain ⟨v,m1,h1,h2⟩:=h
   exact ⟨v,m1,h1.mono fun n hn => by unfold astep; rw [ho]; dsimp only; rw [hf]; exact hn,h2⟩
  ·rename_i id hf
   obtain ⟨v,m1,h1,h2⟩:=h
   exact ⟨v,m1,h1.mono fun n hn => by unfold astep; rw [ho]; dsimp only; rw [hf]; exact hn,h2⟩
  ·exact h.elim
 ·rename_i ho
  unfold wpR at h
  split at h
  ·rename_i v m1 hr
   refine ⟨v,m1,.all fun n => ?_,h⟩
   unfold astep
   split
   ·rename_i f args ts hc; exact absurd hc (ho f args ts)
   ·exact hr
  ·exact h.elim
def wpo (P:Program) (cfg:Cfg) (N:Nat) (all:Array Oper):List Oper → Sl → Mem → (Sl → Mem → Prop) → Prop
 | [],s,m,K => K s m
 | o :: rest,s,m,K => wpIf (Region.wanted o (ayields all s)) (wps P cfg s o m fun v m1 => wpP (aput N s o.dst v) fun s1 => wpo P cfg N all rest s1 m1 K) (wpP (aput N s o.dst undefV) fun s1 => wpo P cfg N all rest s1 m K)
def orE {α:Type}:Option α → Option α → Option α
 | some a,_ => some a
 | Option.none,b => b
theorem Aug {α:Type} {a:α} {b:Option α}:orE (some a) b = some a:=rfl
theorem Auh {α:Type} {b:Option α}:orE Option.none b = b:=rfl
@[congr] theorem A0z {α:Type} {a a' b:Option α} (h:a = a'):orE a b = orE a' b:=by rw [h]
def wpsU (P:Program) (cfg:Cfg) (s:Sl) (o:Oper) (m:Mem) (K:AV → Mem → Prop):Prop :=
 match o.op with
 | .slice T x lo hi mx => wpR (orE ((aslice P T (ev s x) (lo.map (ev s)) (hi.map (ev s)) (mx.map (ev s))).map (·,m)) (amlen P s o m)) K
 | .convert T U x => wpR (orE ((aconvert P T U (ev s x)).map (·,m)) (amlen P s o m)) K
 | _ => wps P cfg s o m K
theorem Alk {P:Program} {H:Calls1} {s:Sl} {o:Oper} {m:Mem}:astepU P H s o m = orE (astep P H s o m) (amlen P s o m):=by
 unfold astepU
 cases astep P H s o m <;> rfl
theorem Apv {r:Option (AV × Mem)} {K:AV → Mem → Prop} (h:wpR r K):∃ v m1,r = some (v,m1) ∧ K v m1:=by
 unfold wpR at h
 split at h
 ·rename_i v m1; exact ⟨v,m1,rfl,h⟩
 ·exact h.elim
theorem Aoe {s:Sl} {o:Oper} {m:Mem} {K:AV → Mem → Prop} (h:wpsU P cfg s o m K):∃ v m1,Evt (fun n => astepU P (afn P cfg n) s o m = some (v,m1)) ∧ K v m1:=by
 unfold wpsU at h
 split at h
 ·rename_i T x lo hi mx ho
  obtain ⟨v,m1,h1,h2⟩:=Apv h
  refine ⟨v,m1,.all fun n => ?_,h2⟩
  rw [Alk,← h1]
  congr 1
  unfold astep
  rw [ho]
  dsimp only
  unfold aop
  rw [ho]
 ·rename_i T U x ho
  obtain ⟨v,m1,h1,h2⟩:=Apv h
  refine ⟨v,m1,.all fun n => ?_,h2⟩
  rw [Alk,← h1]
  congr 1
  unfold astep
  rw [ho]
  dsimp only
  unfold aop
  rw [ho]
 ·obtain ⟨v,m1,h1,h2⟩:=Aj5 h
  exact ⟨v,m1,h1.mono fun n hn => Aha hn,h2⟩
def wpoU (P:Program) (cfg:Cfg) (N:Nat) (all:Array Oper):List Oper → Sl → Mem → (Sl → Mem → Prop) → Prop
 | [],s,m,K => K s m
 | o :: rest,s,m,K => wpIf (Region.wanted o (ayields all s)) (wpsU P cfg s o m fun v m1 => wpP (aput N s o.dst v) fun s1 => wpoU P cfg N all rest s1 m1 K) (wpP (aput N s o.dst undefV) fun s1 => wpoU P cfg N all rest s1 m K)
theorem Adr {N:Nat} {all:Array Oper}:∀ (l:List Oper) (s:Sl) (m:Mem) (K:Sl → Mem → Prop),wpoU P cfg N all l s m K → ∃ s' m',Evt (fun n => aops P (afn P cfg n) N all l s m = some (s',m')) ∧ K s' m'
 | [],s,m,K,h => ⟨s,m,.all fun n => rfl,h⟩
 | o :: rest,s,m,K,h => by
  simp only [wpoU] at h
  cases hw:Region.wanted o (ayields all s) with
  | true =>
   rw [hw] at h
   obtain ⟨v,m1,h1,h2⟩:=Aoe h
   unfold wpP at h2
   split at h2
   ·rename_i s1 hs
    obtain ⟨s',m',h3,h4⟩:=Adr rest s1 m1 K h2
    exact ⟨s',m',h1.both h3 fun n a b => by simp only [aops]; rw [if_pos hw,a]; dsimp only; rw [hs]; exact b,h4⟩
   ·exact h2.elim
  | false =>
   rw [hw] at h
   unfold wpIf wpP at h
   dsimp only at h
   split at h
   ·rename_i s1 hs
    obtain ⟨s',m',h3,h4⟩:=Adr rest s1 m K h
    exact ⟨s',m',h3.mono fun n b => by simp only [aops]; rw [if_neg (by rw [hw]; simp),hs]; exact b,h4⟩
   ·exact h.elim
def wpt (P:Program) (cfg:Cfg) (N:Nat) (all:Array Oper):List Oper → Sl → Mem → List (Sl × Mem) → (List (Sl × Mem) → Sl → Mem → Prop) → Prop
 | [],s,m,acc,K => K (acc ++ [(s,m)]) s m
 | o :: rest,s,m,acc,K => wpIf (Region.wanted o (ayields all s)) (wps P cfg s o m fun v m1 => wpP (aput N s o.dst v) fun s1 => wpt P cfg N all rest s1 m1 (acc ++ [(s,m)]) K) (wpP (aput N s o.dst undefV) fun s1 => wpt P cfg N all rest s1 m (acc ++ [(s,m)]) K)
theorem Agi {N:Nat} {all:Array Oper}:∀ (l:List Oper) (s:Sl) (m:Mem) (acc:List (Sl × Mem)) (K:List (Sl × Mem) → Sl → Mem → Prop),wpt P cfg N all l s m acc K → ∃ s' m' ms,Evt (fun n => aopsT P (afn P cfg n) N all l s m = some (s',m',ms)) ∧ ms.length = l.length + 1 ∧ K (acc ++ ms) s' m'
 | [],s,m,acc,K,h => ⟨s,m,[(s,m)],.all fun n => rfl,rfl,h⟩
 | o :: rest,s,m,acc,K,h => by
  simp only [wpt] at h
  cases hw:Region.wanted o (ayields all s) with
  | true =>
   rw [hw] at h
   obtain ⟨v,m1,h1,h2⟩:=Aj5 h
   unfold wpP at h2
   split at h2
   ·rename_i s1 hs
    obtain ⟨s',m',ms,h3,hl,h4⟩:=Agi rest s1 m1 _ K h2
    exact ⟨s',m',(s,m) :: ms,h1.both h3 fun n a b => by simp only [aopsT]; rw [if_pos hw,Asd a]; dsimp only; rw [hs]; dsimp only; rw [b]; rfl,by simp [hl],by simpa using h4⟩
   ·exact h2.elim
  | false =>
   rw [hw] at h
   unfold wpIf wpP at h
   dsimp only at h
   split at h
   ·rename_i s1 hs
    obtain ⟨s',m',ms,h3,hl,h4⟩:=Agi rest s1 m _ K h
    exact ⟨s',m',(s,m) :: ms,h3.mono fun n b => by simp only [aopsT]; rw [if_neg (by rw [hw]; simp),hs]; dsimp only; rw [b]; rfl,by simp [hl],by simpa using h4⟩
   ·exact h.elim
def thn (A:Sl → Mem → Prop) (Q:Ex → Sl → Mem → Prop) (e:Ex) (s:Sl) (m:Mem):Prop:=match e with | .normal => A s m | e => Q e s m
def blk (id:Nat) (Q:Ex → Sl → Mem → Prop) (e:Ex) (s:Sl) (m:Mem):Prop:=match e with | .exit id' => if id' = id then Q .normal s m else Q (.exit id') s m | e => Q e s m
def wpc (P:Program) (cfg:Cfg) (N:Nat):Code → Sl → Mem → (Ex → Sl → Mem → Prop) → Prop
 | .skip,s,m,Q | .label _,s,m,Q => Q .normal s m
 | .exit id,s,m,Q => Q (.exit id) s m
 | .ret,s,m,Q => Q .ret s m
 | .region _ ops draw,s,m,Q => if draw then drawOk ops = true ∧ (wpt P cfg N ops ops.toList s m [] (fun ms s m => (metL ops).all (metAt ops ms) = true ∧ Q .normal s m) ∨ (calm ops = true ∧ metL ops = [] ∧ wpoU P cfg N ops ops.toList s m (Q .normal))) else wpoU P cfg N ops ops.toList s m (Q .normal)
 | .seq a b,s,m,Q => wpc P cfg N a s m (thn (fun s m => wpc P cfg N b s m Q) Q)
 | .cond c x y,s,m,Q => wpB (ev s c) fun t => wpIf t (wpc P cfg N x s m Q) (wpc P cfg N y s m Q)
 | .block id b,s,m,Q => wpc P cfg N b s m (blk id Q)
 | .loop b,s,m,Q => ∃ (I:Nat → Sl → Mem → Prop) (k:Nat),I k s m ∧ ∀ k s m,I k s m → wpc P cfg N b s m (thn (fun s m => ∃ k',k' < k ∧ I k' s m) Q)
 | .rangeFunc g ps x y,s,m,Q => match ev s g with
  | .fn (.func f) a b => ((P.funcs[f]?).bind (·.body)).isSome = true ∧ wph P cfg (.func f) (a ++ [.yl m.next] ++ b) (m.newLoop ⟨s,ps,x,y,N⟩) fun _ m2 => ∃ L e,m2.loop m.next = some L ∧ L.st ≠ .busy ∧ exOf L.pend = some e ∧ Q e s (m2.killLoop m.next)
  | _ => False
 | _,_,_,_ => False
theorem Aen {N:Nat}:∀ (c:Code) (s:Sl) (m:Mem) (Q:Ex → Sl → Mem → Prop),wpc P cfg N c s m Q → ∃ e s' m',Evt (fun n => acode P (afn P cfg n) N n c s m = some (e,s',m')) ∧ Q e s' m':=by
 intro c
 induction c with
 | skip => intro s m Q h; exact ⟨.normal,s,m,.all fun n => rfl,h⟩
 | label l => intro s m Q h; exact ⟨.normal,s,m,.all fun n => rfl,h⟩
 | exit l => intro s m Q h; exact ⟨.exit l,s,m,.all fun n => rfl,h⟩
 | ret => intro s m Q h; exact ⟨.ret,s,m,.all fun n => rfl,h⟩
 | region id ops draw =>
  intro s m Q h
  simp only [wpc] at h
  split at h
  ·rename_i hd
   obtain ⟨h1,h2⟩:=h
   rcases h2.symm with ⟨hc,hm,h2⟩ | h2
   ·obtain ⟨s',m',h3,h5⟩:=Adr _ _ _ _ h2
    refine ⟨.normal,s',m',h3.mono fun n hn => ?_,h5⟩
    obtain ⟨ms,hn⟩:=Asf hc _ _ _ _ _ hn
    simp only [acode]
    rw [if_pos hd,Anq h1]
    dsimp only
    rw [hn]
    dsimp only
    rw [hm]
    rfl
   obtain ⟨s',m',ms,h3,hl,h4,h5⟩:=Agi _ _ _ _ _ h2
   refine ⟨.normal,s',m',h3.mono fun n hn => ?_,h5⟩
   simp only [acode]
   rw [if_pos hd,Anq h1]
   dsimp only
   rw [hn]
   dsimp only
   rw [if_pos (by simpa using h4)]
  ·rename_i hd
   obtain ⟨s',m',h3,h5⟩:=Adr _ _ _ _ h
   refine ⟨.normal,s',m',h3.mono fun n hn => ?_,h5⟩
   simp only [acode]
   rw [if_neg hd,hn]
 | seq a b iha ihb =>
  intro s m Q h
  obtain ⟨e,s1,m1,h1,h2⟩:=iha _ _ _ h
  cases e with
  | normal =>
   obtain ⟨e,s2,m2,h3,h4⟩:=ihb _ _ _ h2
   exact ⟨e,s2,m2,h1.both h3 fun n a b => by simp only [acode]; rw [a]; exact b,h4⟩
  | _ => exact ⟨_,s1,m1,h1.mono fun n a => by simp only [acode]; rw [a],h2⟩
 | cond c x y ihx ihy =>
  intro s m Q h
  simp only [wpc] at h
  unfold wpB at h
  split at h
  ·rename_i t ht
   cases t with
   | true =>
    obtain ⟨e,s2,m2,h3,h4⟩:=ihx _ _ _ h
    exact ⟨e,s2,m2,h3.mono fun n a => by simp only [acode]; rw [ht]; exact a,h4⟩
   | false =>
    obtain ⟨e,s2,m2,h3,h4⟩:=ihy _ _ _ h
    exact ⟨e,s2,m2,h3.mono fun n a => by simp only [acode]; rw [ht]; exact a,h4⟩
  ·exact h.elim
 | block id b ih =>
  intro s m Q h
  obtain ⟨e,s1,m1,h1,h2⟩:=ih _ _ _ h
  cases e with
  | exit id' =>
   simp only [blk] at h2
   split at h2
   ·rename_i hid
    exact ⟨.normal,s1,m1,h1.mono fun n a => by simp only [acode]; rw [a]; dsimp only; rw [if_pos hid],h2⟩
   ·rename_i hid
    exact ⟨.exit id',s1,m1,h1.mono fun n a => by simp only [acode]; rw [a]; dsimp only; rw [if_neg hid],h2⟩
  | _ => exact ⟨_,s1,m1,h1.mono fun n a => by simp only [acode]; rw [a],h2⟩
 | loop b ih =>
  intro s m Q h
  simp only [wpc] at h
  obtain ⟨I,k,hI,hr⟩:=h
  have key:∀ k s m,I k s m → ∃ e s' m',(∃ n0,∀ n f,n0 ≤ n → n0 ≤ f → aloop (acode P (afn P cfg n) N n b) f s m = some (e,s',m')) ∧ Q e s' m':=by
   intro k
   induction k using Nat.strongRecOn with
   | _ k ihk =>
    intro s m hI
    obtain ⟨e,s1,m1,⟨n1,h1⟩,h2⟩:=ih _ _ _ (hr k s m hI)
    cases e with
    | normal =>
     obtain ⟨k',hk,hI'⟩:=h2
     obtain ⟨e,s2,m2,⟨n2,h3⟩,h4⟩:=ihk k' hk _ _ hI'
     refine ⟨e,s2,m2,⟨n1 + n2 + 1,fun n f hn hf => ?_⟩,h4⟩
     obtain ⟨f,rfl⟩:∃ f',f = f' + 1:=⟨f - 1,by omega⟩
     simp only [aloop]
     rw [h1 n (by omega)]
     exact h3 n f (by omega) (by omega)
    | _ =>
     refine ⟨_,s1,m1,⟨n1 + 1,fun n f hn hf => ?_⟩,h2⟩
     obtain ⟨f,rfl⟩:∃ f',f = f' + 1:=⟨f - 1,by omega⟩
     simp only [aloop]
     rw [h1 n (by omega)]
  obtain ⟨e,s',m',⟨n0,h1⟩,h2⟩:=key k s m hI
  exact ⟨e,s',m',⟨n0,fun n hn => h1 n n hn hn⟩,h2⟩
 | rangeFunc g ps x y =>
  intro s m Q h
  simp only [wpc] at h
  split at h
  ·rename_i f a b hf
   obtain ⟨hb,v,m2,h1,L,e,h2,h3,h4,h5⟩:=h
   refine ⟨e,s,m2.killLoop m.next,h1.mono fun n hn => ?_,h5⟩
   simp only [acode,hf]
   rw [if_pos hb,hn]
   dsimp only
   rw [h2]
   dsimp only
   rw [if_neg h3,h4]
  ·exact h.elim
 | _ => intro s m Q h; exact h.elim
theorem Aiz {r:Option (AV × Mem)} {K K':AV → Mem → Prop} (h:wpR r K) (k:∀ v m,K v m → K' v m):wpR r K':=by
 unfold wpR at h ⊢
 split at h
 ·exact k _ _ h
 ·exact h.elim
theorem Acm {r:Option Sl} {K K':Sl → Prop} (h:wpP r K) (k:∀ s,K s → K' s):wpP r K':=by
 unfold wpP at h ⊢
 split at h
 ·exact k _ h
 ·exact h.elim
theorem Ab5 {t:Bool} {A B A' B':Prop} (h:wpIf t A B) (a:A → A') (b:B → B'):wpIf t A' B':=by
 cases t
 ·exact b h
 ·exact a h
theorem Ael {s:Sl} {o:Oper} {m:Mem} {K K':AV → Mem → Prop} (h:wps P cfg s o m K) (k:∀ v m,K v m → K' v m):wps P cfg s o m K':=by
 unfold wps at h ⊢
 split at h
 ·unfold wpF at h ⊢
  split at h
  ·obtain ⟨v,m1,h1,h2⟩:=h; exact ⟨v,m1,h1,k _ _ h2⟩
  ·obtain ⟨v,m1,h1,h2⟩:=h; exact ⟨v,m1,h1,k _ _ h2⟩
  ·exact h.elim
 ·exact Aiz h k
theorem Aj6 {s:Sl} {o:Oper} {m:Mem} {K K':AV → Mem → Prop} (h:wpsU P cfg s o m K) (k:∀ v m,K v m → K' v m):wpsU P cfg s o m K':=by
 unfold wpsU at h ⊢
 split at h
 ·exact Aiz h k
 ·exact Aiz h k
 ·exact Ael h k
theorem Acx {N:Nat} {all:Array Oper}:∀ (l:List Oper) (s:Sl) (m:Mem) (K K':Sl → Mem → Prop),wpoU P cfg N all l s m K → (∀ s m,K s m → K' s m) → wpoU P cfg N all l s m K'
 | [],s,m,K,K',h,k => k _ _ h
 | o :: l,s,m,K,K',h,k => by
  simp only [wpoU] at h ⊢
  exact Ab5 h (fun h => Aj6 h fun v m1 h => Acm h fun s1 h => Acx l s1 m1 K K' h k) (fun h => Acm h fun s1 h => Acx l s1 m K K' h k)
theorem Ac4 {N:Nat} {all:Array Oper}:∀ (l:List Oper) (s:Sl) (m:Mem) (acc:List (Sl × Mem)) (K K':List (Sl × Mem) → Sl → Mem → Prop),wpt P cfg N all l s m acc K → (∀ a s m,K a s m → K' a s m) → wpt P cfg N all l s m acc K'
 | [],s,m,acc,K,K',h,k => k _ _ _ h
 | o :: l,s,m,acc,K,K',h,k => by
  simp only [wpt] at h ⊢
  exact Ab5 h (fun h => Ael h fun v m1 h => Acm h fun s1 h => Ac4 l s1 m1 _ K K' h k) (fun h => Acm h fun s1 h => Ac4 l s1 m _ K K' h k)
theorem Ab8 {N:Nat}:∀ {c:Code} {s:Sl} {m:Mem} {Q Q':Ex → Sl → Mem → Prop},wpc P cfg N c s m Q → (∀ e s m,Q e s m → Q' e s m) → wpc P cfg N c s m Q':=by
 intro c
 induction c with
 | skip => intro s m Q Q' h k; exact k _ _ _ h
 | label l => intro s m Q Q' h k; exact k _ _ _ h
 | exit l => intro s m Q Q' h k; exact k _ _ _ h
 | ret => intro s m Q Q' h k; exact k _ _ _ h
 | region id ops draw =>
  intro s m Q Q' h k
  simp only [wpc] at h ⊢
  split at h
  ·rename_i hd
   rw [if_pos hd]
   exact ⟨h.1,h.2.elim (fun h => .inl (Ac4 _ _ _ _ _ _ h fun a s m h => ⟨h.1,k _ _ _ h.2⟩)) fun h => .inr ⟨h.1,h.2.1,Acx _ _ _ _ _ h.2.2 fun s m h => k _ _ _ h⟩⟩
  ·rename_i hd
   rw [if_neg hd]
   exact Acx _ _ _ _ _ h fun s m h => k _ _ _ h
 | seq a b iha ihb =>
  intro s m Q Q' h k
  refine iha h fun e s m h => ?_
  cases e with
  | normal => exact ihb h k
  | _ => exact k _ _ _ h
 | cond c x y ihx ihy =>
  intro s m Q Q' h k
  simp only [wpc] at h ⊢
  unfold wpB at h ⊢
  split at h
  ·exact Ab5 h (fun h => ihx h k) (fun h => ihy h k)
  ·exact h.elim
 | block id b ih =>
  intro s m Q Q' h k
  refine ih h fun e s m h => ?_
  cases e with
  | exit id' =>
   simp only [blk] at h ⊢
   split at h
   ·rename_i e; rw [if_pos e]; exact k _ _ _ h
   ·rename_i e; rw [if_neg e]; exact k _ _ _ h
  | _ => exact k _ _ _ h
 | loop b ih =>
  intro s m Q Q' h k
  simp only [wpc] at h ⊢
  obtain ⟨I,n,h1,h2⟩:=h
  refine ⟨I,n,h1,fun n s m hI => ih (h2 n s m hI) fun e s m h => ?_⟩
  cases e with
  | normal => exact h
  | _ => exact k _ _ _ h
 | rangeFunc g ps x y =>
  intro s m Q Q' h k
  simp only [wpc] at h ⊢
  split at h
  ·obtain ⟨hb,v,m2,h1,L,e,h2,h3,h4,h5⟩:=h
   exact ⟨hb,v,m2,h1,L,e,h2,h3,h4,k _ _ _ h5⟩
  ·exact h.elim
 | _ => intro s m Q Q' h; exact h.elim
def leave (P:Program) (keep:Bool) (rs:List ResultVar) (K:AV → Mem → Prop) (e:Ex) (s:Sl) (m:Mem):Prop :=
 (e = .normal ∨ e = .ret) ∧ ∃ vs,aresult P s m rs = some vs ∧ K (if keep then (oneOf vs,m) else fzr m (oneOf vs)).1 (if keep then (oneOf vs,m) else fzr m (oneOf vs)).2
def XK (m m':Mem):Prop:=∀ id,id < m.next → m'.loop id = m.loop id ∧ m'.map id = m.map id
theorem XK.refl (m:Mem):XK m m:=fun _ _ => ⟨rfl,rfl⟩
theorem XK.trans {a b c:Mem} (hn:a.next ≤ b.next) (h:XK a b) (k:XK b c):XK a c:=fun id hi => ⟨(k id (Nat.lt_of_lt_of_le hi hn)).1.trans (h id hi).1,(k id (Nat.lt_of_lt_of_le hi hn)).2.trans (h id hi).2⟩
theorem XK.same {a b c:Mem} (h:XK a b) (h1:c.lp = b.lp) (h2:c.mp = b.mp):XK a c:=fun id hi => ⟨by unfold Mem.loop; rw [h1]; exact (h id hi).1,by unfold Mem.map; rw [h2]; exact (h id hi).2⟩
structure Kp (m m':Mem):Prop where
 next:m.next ≤ m'.next
 get:∀ id,id < m.next → m'.get id = m.get id
 x:XK m m'
theorem Kp.refl (m:Mem):Kp m m:=⟨Nat.le_refl _,fun _ _ => rfl,.refl m⟩
theorem Kp.trans {a b c:Mem} (h:Kp a b) (k:Kp b c):Kp a c:=⟨Nat.le_trans h.next k.next,fun id hi => (k.get id (Nat.lt_of_lt_of_le hi h.next)).trans (h.get id hi),h.x.trans h.next k.x⟩
theorem Kp.new (m:Mem) (cs:List AV) (f:Bool):Kp m (m.new cs f):=⟨by simp [Mem.next_new],fun id hi => by rw [Mem.get_new,if_neg (by omega)],(XK.refl m).same rfl rfl⟩
theorem Ah5 (o:Option ALoop):sameL o o = true:=by cases o <;> simp [sameL]
theorem Ah4 (o:Option AMap):sameM o o = true:=by cases o <;> simp [sameM]
theorem Ah3 (o:Option AObj):sameO o o = true:=by
 unfold sameO
 cases o with
 | none => rfl
 | some o => obtain ⟨cs,f,v⟩:=o; simp
def gcK (k:Nat) (m:Mem) (K:AV → Mem → Prop) (v:AV) (m':Mem):Prop:=∃ r,gcw k m (v,m') = some r ∧ K r.1 r.2
theorem gcK_0 {m m':Mem} {K:AV → Mem → Prop} {v:AV} (h:K v m'):gcK 0 m K v m':=⟨(v,m'),rfl,h⟩
theorem gcK_1 {m m':Mem} {K:AV → Mem → Prop} {v:AV} (hb:v.bel m.next = true) (hk:Kp m m') (h:K v m):gcK 1 m K v m':=by
 refine ⟨(v,m),?_,h⟩
 simp only [gcw]
 rw [if_pos]
 simp only [sameX,Bool.and_eq_true,List.all_eq_true,List.mem_range]
 exact ⟨⟨hb,fun id hi => by rw [hk.get id hi]; exact Ah3 _⟩,fun id hi => by rw [(hk.x id hi).1,(hk.x id hi).2]; exact ⟨Ah5 _,Ah4 _⟩⟩
theorem Apu {id:Nat} {args:List AV} {m:Mem} {K:AV → Mem → Prop} {L:ALoop} (hL:m.loop id = some L) (hl:args.length = L.c.ps.size)
  (h:wpc P cfg L.c.N L.c.assign (Sl.puts L.c.N L.c.s L.c.ps.toList args) m fun e s1 m1 => e = .normal ∧ ∃ L1,m1.loop id = some L1 ∧ L1.st = .ready ∧ wpc P cfg L.c.N L.c.body s1 (m1.setLoop id .busy L1.pend L1.c) fun e _ m2 => ∃ L2,m2.loop id = some L2 ∧ K (.sc (.bool (pendOf e).isNone)) (m2.setLoop id (if (pendOf e).isNone then .ready else .done) (pendOf e) L2.c)):wph P cfg (.yield id) args m K:=by
 obtain ⟨e1,s1,m1,h1,rfl,L1,h2,h3,h4⟩:=Aen _ _ _ _ h
 obtain ⟨e2,s2,m2,h5,L2,h6,h7⟩:=Aen _ _ _ _ h4
 refine ⟨_,_,?_,h7⟩
 obtain ⟨n0,hn0⟩:=h1.and h5
 refine ⟨n0 + 1,fun n hle => ?_⟩
 obtain ⟨k,rfl⟩:∃ k,n = k + 1:=⟨n - 1,by omega⟩
 obtain ⟨a,b⟩:=hn0 k (by omega)
 simp only [afn,around,hL]
 rw [if_pos hl,a]
 dsimp only
 rw [h2]
 dsimp only
 rw [if_pos h3,b]
 dsimp only
 rw [h6]
theorem Aiy {f : FuncId} {fn : Func} {c : Code} {args : List AV} {m : Mem} {K : AV → Mem → Prop} (hf : P.funcs[f]? = some fn) (hb : fn.body = some c) (hk : cfg.hook f = none) (hn : fn.name ≠ "runtime.NumGoroutine") (hl : args.length ≤ fn.ntmps)
  (h:wpc P cfg fn.ntmps c (Sl.putAll .nil 0 (if cfg.keepArgs f then (args,m) else fzvs m args).1) (if cfg.keepArgs f then (args,m) else fzvs m args).2 (leave P (cfg.keepRes f) fn.results.toList (gcK (cfg.gc f) (if cfg.keepArgs f then (args,m) else fzvs m args).2 K))):wph P cfg (.func f) args m K:=by
 obtain ⟨e,s',m',h1,he,vs,h2,r,h4,h3⟩:=Aen _ _ _ _ h
 refine ⟨r.1,r.2,?_,h3⟩
 obtain ⟨n0,hn0⟩:=h1
 refine ⟨n0 + 1,fun n hle => ?_⟩
 obtain ⟨k,rfl⟩:∃ k,n = k + 1:=⟨n - 1,by omega⟩
 simp only [afn,hk,abody,hf,hb]
 rw [if_pos ⟨hn,hl⟩,hn0 k (by omega)]
 rcases he with rfl | rfl
 ·simp only [h2]; exact h4
 ·simp only [h2]; exact h4
theorem Ab2 {fn:Fn} {args:List AV} {m:Mem} {K K':AV → Mem → Prop} (h:wph P cfg fn args m K) (k:∀ v m,K v m → K' v m):wph P cfg fn args m K':=let ⟨v,m1,a,b⟩:=h; ⟨v,m1,a,k _ _ b⟩
theorem Aof {f:FuncId} {fn:Func} {args:List AV} {vs:List Value} {r:Value} {m:Mem} {K:AV → Mem → Prop} (hf:P.funcs[f]? = some fn) (hb:fn.body = none) (hk:cfg.hook f = none) (hs:scals args = some vs)
  (hr:pureRun P (callFunc f vs.toArray) = some (.value r)) (h:K (.sc r) m):wph P cfg (.func f) args m K:=by
 refine ⟨.sc r,m,⟨1,fun n hn => ?_⟩,h⟩
 obtain ⟨k,rfl⟩:∃ k,n = k + 1:=⟨n - 1,by omega⟩
 simp only [afn,hk,abody,hf,hb,hs,hr]
variable {P:Program} {cfg:Cfg}
def HLe (H H':Calls1):Prop:=∀ fn args m r,H fn args m = some r → H' fn args m = some r
theorem Aiq {H H':Calls1} (h:HLe H H') {s:Sl} {o:Oper} {m:Mem} {r:AV × Mem} (e:astep P H s o m = some r):astep P H' s o m = some r:=by
 unfold astep at e ⊢
 split at e
 ·split at e
  ·exact h _ _ _ _ e
  ·exact h _ _ _ _ e
  ·cases e
 ·exact e
theorem Ahb {H H':Calls1} (h:HLe H H') {s:Sl} {o:Oper} {m:Mem} {r:AV × Mem} (e:astepU P H s o m = some r):astepU P H' s o m = some r:=by
 unfold astepU at e ⊢
 split at e
 ·rename_i q hq
  rw [Aiq h hq]
  exact e
 ·rename_i hq
  have:astep P H' s o m = astep P H s o m:=by
   have e':=e
   unfold amlen at e'
   split at e'
   ·rename_i ho
    simp only [astep,ho]
   ·rename_i ho
    simp only [astep,ho]
   ·rename_i ho
    simp only [astep,ho]
   ·cases e'
  rw [this,hq]
  exact e
theorem Ahd {H H':Calls1} (h:HLe H H') {N:Nat} {all:Array Oper}:∀ (l:List Oper) (s:Sl) (m:Mem) (r:Sl × Mem),aops P H N all l s m = some r → aops P H' N all l s m = some r
 | [],s,m,r,e => e
 | o :: l,s,m,r,e => by
  simp only [aops] at e ⊢
  split at e
  ·rename_i hw
   rw [if_pos hw]
   split at e
   ·rename_i v m' he
    rw [Ahb h he]
    dsimp only at e ⊢
    split at e
    ·exact Ahd h l _ _ _ e
    ·cases e
   ·cases e
  ·rename_i hw
   rw [if_neg hw]
   split at e
   ·exact Ahd h l _ _ _ e
   ·cases e
theorem Am0 {H H':Calls1} (h:HLe H H') {q:Bool} {s:Sl} {o:Oper} {m:Mem} {r:AV × Mem} (e:astepT P q H s o m = some r):astepT P q H' s o m = some r:=by
 unfold astepT at e ⊢
 split at e
 ·rename_i hq
  rw [if_pos hq]
  exact Ahb h e
 ·rename_i hq
  rw [if_neg hq]
  exact Aiq h e
theorem Afr {H H':Calls1} (h:HLe H H') {N:Nat} {all:Array Oper}:∀ (l:List Oper) (s:Sl) (m:Mem) (r:Sl × Mem × List (Sl × Mem)),aopsT P H N all l s m = some r → aopsT P H' N all l s m = some r
 | [],s,m,r,e => e
 | o :: l,s,m,r,e => by
  simp only [aopsT] at e ⊢
  split at e
  ·rename_i hw
   rw [if_pos hw]
   split at e
   ·rename_i v m' he
    rw [Am0 h he]
    dsimp only at e ⊢
    split at e
    ·rw [Option.map_eq_some_iff] at e
     obtain ⟨x,h1,h2⟩:=e
     rw [Afr h l _ _ _ h1,← h2]
     rfl
    ·cases e
   ·cases e
  ·rename_i hw
   rw [if_neg hw]
   split at e
   ·rw [Option.map_eq_some_iff] at e
    obtain ⟨x,h1,h2⟩:=e
    rw [Afr h l _ _ _ h1,← h2]
    rfl
   ·cases e
theorem Ait {b b':Sl → Mem → Option (Ex × Sl × Mem)} (hb:∀ s m r,b s m = some r → b' s m = some r):∀ (n n':Nat),n ≤ n' → ∀ (s:Sl) (m:Mem) (r:Ex × Sl × Mem),aloop b n s m = some r → aloop b' n' s m = some r
 | 0,n',hn,s,m,r,e => by cases e
 | n + 1,n',hn,s,m,r,e => by
  obtain ⟨n',rfl⟩:∃ k,n' = k + 1:=⟨n' - 1,by omega⟩
  simp only [aloop] at e ⊢
  split at e
  ·rename_i s' m' h1
   rw [hb _ _ _ h1]
   exact Ait hb n n' (by omega) _ _ _ e
  ·rename_i h1
   rw [hb _ _ _ e]
   split
   ·rename_i s' m' h2
    cases h2
    exact absurd e (h1 s' m')
   ·rfl
theorem Ad1 {H H':Calls1} (h:HLe H H') {N n n':Nat} (hn:n ≤ n'):∀ (c:Code) (s:Sl) (m:Mem) (r:Ex × Sl × Mem),acode P H N n c s m = some r → acode P H' N n' c s m = some r:=by
 intro c
 induction c with
 | skip => intro s m r e; exact e
 | label l => intro s m r e; exact e
 | exit l => intro s m r e; exact e
 | ret => intro s m r e; exact e
 | region id ops draw =>
  intro s m r e
  simp only [acode] at e ⊢
  split at e
  ·rename_i hd
   rw [if_pos hd]
   split at e
   ·rename_i o' hk
    split at e
    ·rename_i s' m' ms he
     rw [Afr h _ _ _ _ he]
     exact e
    ·cases e
   ·cases e
  ·rename_i hd
   rw [if_neg hd]
   split at e
   ·rename_i s' m' he
    rw [Ahd h _ _ _ _ he]
    exact e
   ·cases e
 | seq a b iha ihb =>
  intro s m r e
  simp only [acode] at e ⊢
  split at e
  ·rename_i s' m' h1
   rw [iha _ _ _ h1]
   exact ihb _ _ _ e
  ·rename_i h1
   rw [iha _ _ _ e]
   split
   ·rename_i s' m' h2
    cases h2
    exact absurd e (h1 s' m')
   ·rfl
 | cond c x y ihx ihy =>
  intro s m r e
  simp only [acode] at e ⊢
  split at e
  ·rename_i t ht
   cases t
   ·exact ihy _ _ _ e
   ·exact ihx _ _ _ e
  ·cases e
 | scope b ih =>
  intro s m r e
  simp only [acode] at e ⊢
  cases hb:acode P H N n b s m with
  | none => rw [hb] at e; cases e
  | some q =>
   rw [hb] at e
   rw [ih _ _ _ hb]
   exact e
 | block id b ih =>
  intro s m r e
  simp only [acode] at e ⊢
  split at e
  ·rename_i id' s' m' h1
   rw [ih _ _ _ h1]
   exact e
  ·rename_i h1
   rw [ih _ _ _ e]
   split
   ·rename_i id' s' m' h2
    cases h2
    exact absurd e (h1 id' s' m')
   ·rfl
 | loop b ih =>
  intro s m r e
  simp only [acode] at e ⊢
  exact Ait ih n n' hn s m r e
 | rangeFunc g ps x y =>
  intro s m r e
  simp only [acode] at e ⊢
  split at e
  ·split at e
   ·rename_i hb
    rw [if_pos hb]
    split at e
    ·rename_i v m2 hc
     rw [h _ _ _ _ hc]
     exact e
    ·cases e
   ·cases e
  ·cases e
 | _ => intro s m r e; simp [acode] at e
theorem Am1 {H H':Calls1} (h:HLe H H') {n n' id:Nat} (hn:n ≤ n') {args:List AV} {m:Mem} {r:AV × Mem} (e:around P H n id args m = some r):around P H' n' id args m = some r:=by
 unfold around at e ⊢
 split at e
 ·split at e
  ·rename_i hl
   rw [if_pos hl]
   split at e
   ·rename_i s1 m1 h1
    rw [Ad1 h hn _ _ _ _ h1]
    dsimp only
    split at e
    ·split at e
     ·rename_i hs
      rw [if_pos hs]
      split at e
      ·rename_i e2 s2 m2 h2
       rw [Ad1 h hn _ _ _ _ h2]
       exact e
      ·cases e
     ·cases e
    ·cases e
   ·cases e
  ·cases e
 ·cases e
theorem Ae4:∀ (n:Nat),HLe (afn P cfg n) (afn P cfg (n + 1))
 | 0,fn,args,m,r,e => by cases e
 | n + 1,fn,args,m,r,e => by
  cases fn with
  | func f =>
   simp only [afn] at e ⊢
   split at e
   ·exact e
   ·unfold abody at e ⊢
    split at e
    ·rename_i fn hf
     split at e
     ·rename_i c hb
      split at e
      ·rename_i hc
       rw [if_pos hc]
       dsimp only at e ⊢
       obtain ⟨am,ham⟩:∃ am,(if cfg.keepArgs f = true then (args,m) else fzvs m args) = am:=⟨_,rfl⟩
       rw [ham] at e ⊢
       split at e
       ·rename_i s m2 ha
        rw [Ad1 (Ae4 n) (Nat.le_succ n) _ _ _ _ ha]
        exact e
       ·rename_i s m2 ha
        rw [Ad1 (Ae4 n) (Nat.le_succ n) _ _ _ _ ha]
        exact e
       ·cases e
      ·cases e
     ·exact e
    ·cases e
  | yield id => exact Am1 (Ae4 n) (Nat.le_succ n) e
  | _ => cases e
theorem Axe {n n':Nat} (h:n ≤ n'):HLe (afn P cfg n) (afn P cfg n'):=by
 induction h with
 | refl => exact fun _ _ _ _ e => e
 | step _ ih => exact fun fn args m r e => Ae4 _ fn args m r (ih fn args m r e)
theorem EH.of {n:Nat} {fn:Fn} {args:List AV} {m m':Mem} {r:AV} (h:afn P cfg n fn args m = some (r,m')):EH P cfg fn args m r m':=⟨n,fun _ hk => Axe hk _ _ _ _ h⟩
variable {P:Program} {B:Bs} {W:World} {g:G} {m:Mem} {w:World}
theorem Mem.get_skip (m:Mem) (i:Nat):m.skip.get i = if i = m.next then none else m.get i:=by
 unfold Mem.skip
 rw [Mem.get_kill,Mem.get_new]
 by_cases h:i = m.next <;> simp [h]
theorem Mem.next_skip (m:Mem):m.skip.next = m.next + 1:=rfl
theorem WR.skip (h:WR B W g m w):WR B W (g.new 0 0 0 0) m.skip w:=by
 have hle:=G.le_new g 0 0 0 0
 have lt:∀ id o,m.skip.get id = some o → m.get id = some o ∧ id < g.n:=by
  intro id o hg
  rw [Mem.get_skip] at hg
  split at hg
  ·cases hg
  ·exact ⟨hg,h.ids id o hg⟩
 refine ⟨h.below,h.base,?_,?_,?_,?_,h.fz,h.x.step hle rfl rfl rfl rfl (fun _ _ k _ => k) rfl fun b o _ p => ⟨p.here,p.fz,fun i hi => ?_⟩⟩
 ·rw [Mem.next_skip,h.n]; rfl
 ·intro id o hg
  have:=(lt id o hg).2
  show id < g.n + 1
  omega
 ·intro id cs f ver hg
  obtain ⟨h1,h2⟩:=lt id _ hg
  exact (h.objs id cs f ver h1).mono hle h2 fun _ _ hv => hv
 ·intro i j hi hj he
  obtain ⟨o,ho⟩:=Option.isSome_iff_exists.1 hi
  obtain ⟨o',ho'⟩:=Option.isSome_iff_exists.1 hj
  obtain ⟨a1,a2⟩:=lt i o ho
  obtain ⟨b1,b2⟩:=lt j o' ho'
  rw [hle.mu i a2,hle.mu j b2] at he
  exact h.inj i j (by rw [a1]; rfl) (by rw [b1]; rfl) he
 ·obtain ⟨o',ho'⟩:=Option.isSome_iff_exists.1 hi
  obtain ⟨a1,a2⟩:=lt i o' ho'
  rw [hle.mu i a2]
  exact p.obj i (by rw [a1]; rfl)
theorem VM.skip (m:Mem):VM m m.skip:=(VM.new m [] false).trans (.kill _ _)
theorem Aks:Hooks P B W cf0:=⟨fun f h e => (by cases e),fun f h e => (by cases e)⟩
theorem Abn (W:World) {f:FuncId} {args:List AV} {m m':Mem} {v:AV} (e:cloneH P f args m = some (v,m')):VM m m':=by
 unfold cloneH at e
 split at e
 ·split at e
  ·cases e; exact .skip _
  ·exact Aej (B:=Bs.bare 0) (W:=W) Aks _ _ _ _ _ _ e
  ·cases e
 ·cases e
structure CloneAt (P:Program) (f:FuncId):Prop where
 nil:∀ m,afn P cf0 4 (.func f) [.emp 0] m = some (.emp 0,m)
 empty:∀ m,∃ k ag,afn P cf0 4 (.func f) [.emp 2] m = some (.sl m.next 0 0 k ag (some 0),m.new [] false)
theorem Aa4 (hP:P.follows .mixedOrders = true) {f:FuncId} (hf:CloneAt P f) {args:List AV} {m m':Mem} {v:AV} (e:cloneH P f args m = some (v,m')) (hv:VI m):CallOk P B W f args m v m':=by
 unfold cloneH at e
 split at e
 ·rename_i x
  split at e
  ·rename_i he
   cases e
   have snd:=(Ack (B:=B) (W:=W) hP Aks 4).func f
   intro g w vals k h
   simp only [Rels] at k
   obtain ⟨u,_,rfl,hr,rfl⟩:=k
   have cases3:(u = .slice none 0 0) ∨ ∃ a c,u = .slice (some a) 0 c:=by
    cases x with
    | emp n =>
     match n,hr with
     | 0,hr => exact .inl hr
     | 1,hr =>
      simp only [Rel] at hr
      obtain ⟨a,rfl⟩:=hr
      cases a with
      | none => exact .inl rfl
      | some a => exact .inr ⟨a,0,rfl⟩
     | 2,hr => exact .inr hr
     | n + 3,hr => exact hr.elim
    | lst xs =>
     simp only [elemsOf,Option.some.injEq] at he
     subst he
     simp only [Rel] at hr
     obtain ⟨a,c,vs,q,rfl,_,⟨_,hn⟩,_⟩:=hr
     cases a with
     | none => rw [hn rfl]; exact .inl rfl
     | some a => exact .inr ⟨a,c,rfl⟩
    | sl id off len q ag cap =>
     simp only [Rel] at hr
     obtain ⟨_,a,c,rfl,_⟩:=hr
     simp only [elemsOf] at he
     split at he
     ·split at he
      ·cases len with
       | zero => exact .inr ⟨a,c,rfl⟩
       | succ n => simp [chunk] at he
      ·cases he
     ·cases he
    | _ => cases he
   rcases cases3 with rfl | ⟨a,c,rfl⟩
   ·have h1:=snd [.emp 0] m _ _ (hf.nil m) hv g w [.slice none 0 0] (.one rfl) h
    rcases h1 with ⟨h2,h3⟩ | ⟨v',g',w',h2,h3,h4,h5⟩
    ·refine .inl ⟨h2,h3.mono fun e w' ⟨v',g',h4,h5,h6,h7⟩ => ⟨v',_,h4,h5.trans (G.le_new g' 0 0 0 0),?_,h7.skip⟩⟩
     simp only [Rel] at h6 ⊢
     exact ⟨none,h6⟩
    ·refine .inr ⟨v',_,w',h2,h3.trans (G.le_new g' 0 0 0 0),?_,h5.skip⟩
     simp only [Rel] at h4 ⊢
     exact ⟨none,h4⟩
   ·obtain ⟨kk,ag,ha⟩:=hf.empty m
    have h1:=snd [.emp 2] m _ _ ha hv g w [.slice (some a) 0 c] (.one ⟨a,c,rfl⟩) h
    have res:∀ {g':G} {v':Value},Rel g' (.sl m.next 0 0 kk ag (some 0)) v' → Rel g' (.emp 1) v':=by
     intro g' v' hr
     simp only [Rel] at hr ⊢
     obtain ⟨_,b,d,rfl,_,_,hd,_⟩:=hr
     rw [hd 0 rfl]
     exact ⟨_,rfl⟩
    rcases h1 with ⟨h2,h3⟩ | ⟨v',g',w',h2,h3,h4,h5⟩
    ·exact .inl ⟨h2,h3.mono fun e w' ⟨v',g',h4,h5,h6,h7⟩ => ⟨v',g',h4,h5,res h6,h7.kill _⟩⟩
    ·exact .inr ⟨v',g',w',h2,h3,res h4,h5.kill _⟩
  ·exact (Ack hP Aks 4).func f _ _ _ _ e hv
  ·cases e
 ·cases e
open Classical in
noncomputable def lim (P:Program) (cfg:Cfg) (fn:Fn) (args:List AV) (m:Mem):Option (AV × Mem):=if h:∃ r:AV × Mem,EH P cfg fn args m r.1 r.2 then some (Classical.choose h) else none
theorem EH.unique {cfg:Cfg} {fn:Fn} {args:List AV} {m:Mem} {v v':AV} {m1 m2:Mem} (h:EH P cfg fn args m v m1) (k:EH P cfg fn args m v' m2):v' = v ∧ m2 = m1:=by
 obtain ⟨n,h1,h2⟩:=(Evt.and h k).one
 rw [h1] at h2
 cases h2
 exact ⟨rfl,rfl⟩
theorem Acz {cfg:Cfg} {fn:Fn} {args:List AV} {m m':Mem} {v:AV} (h:EH P cfg fn args m v m'):lim P cfg fn args m = some (v,m'):=by
 have hx:∃ r:AV × Mem,EH P cfg fn args m r.1 r.2:=⟨(v,m'),h⟩
 unfold lim
 rw [dif_pos hx]
 obtain ⟨h1,h2⟩:=EH.unique h (Classical.choose_spec hx)
 rw [Option.some.injEq]
 exact Prod.ext h1 h2
theorem Ant {cfg:Cfg} {fn:Fn} {args:List AV} {m:Mem} {r:AV × Mem} (h:lim P cfg fn args m = some r):EH P cfg fn args m r.1 r.2:=by
 unfold lim at h
 split at h
 ·rename_i hx
  cases h
  exact Classical.choose_spec hx
 ·cases h
noncomputable def cloneL (P:Program) (f:FuncId) (args:List AV) (m:Mem):Option (AV × Mem) :=
 match args with
 | [x] => match elemsOf m x with
  | some [] => some (.emp 1,m.skip)
  | some _ => lim P cf0 (.func f) [x] m
  | _ => none
 | _ => none
theorem Afp (W:World) {f:FuncId} {args:List AV} {m m':Mem} {v:AV} (e:cloneL P f args m = some (v,m')):VM m m':=by
 unfold cloneL at e
 split at e
 ·split at e
  ·cases e; exact .skip _
  ·obtain ⟨n,hn⟩:=(Ant e).one
   exact Aej (B:=Bs.bare 0) (W:=W) Aks _ _ _ _ _ _ hn
  ·cases e
 ·cases e
theorem Af0 (hP:P.follows .mixedOrders = true) {f:FuncId} (hf:CloneAt P f) {args:List AV} {m m':Mem} {v:AV} (e:cloneL P f args m = some (v,m')) (hv:VI m):CallOk P B W f args m v m':=by
 unfold cloneL at e
 split at e
 ·rename_i x
  split at e
  ·rename_i he
   refine Aa4 hP hf (args:=[x]) ?_ hv
   simp only [cloneH,he]
   exact e
  ·obtain ⟨n,hn⟩:=(Ant e).one
   exact (Ack hP Aks n).func f _ _ _ _ hn hv
  ·cases e
 ·cases e
noncomputable def cloneP (P:Program) (f:FuncId) (args:List AV) (m:Mem):Option (AV × Mem) :=
 match cloneL P f (fzvs m args).1 (fzvs m args).2 with
 | some r => gcw 1 (fzvs m args).2 (fzr r.2 r.1)
 | none => none
theorem Apf (W:World) {f:FuncId} {args:List AV} {m m':Mem} {v:AV} (e:cloneP P f args m = some (v,m')):VM m m':=by
 unfold cloneP at e
 split at e
 ·rename_i r hr
  exact (VM.fzvs args m).trans (VM.gcw ((Afp W hr).trans (VM.fzr r.2 r.1)) e)
 ·cases e
theorem Ald (hP:P.follows .mixedOrders = true) {f:FuncId} (hf:CloneAt P f) {args:List AV} {m m':Mem} {v:AV} (e:cloneP P f args m = some (v,m')) (hv:VI m):CallOk P B W f args m v m':=by
 unfold cloneP at e
 split at e
 ·rename_i r hr
  intro g w vals k h
  obtain ⟨g1,l1,w1,k1⟩:=Ab0 args h k
  have hv1:=(VM.fzvs args m).inv hv
  have vm:=(Afp W hr).trans (VM.fzr r.2 r.1)
  have fin:∀ (v':Value) (g':G) (w':World),g1.le g' → Rel g' r.1 v' → WR B W g' r.2 w' → ∃ g4,g.le g4 ∧ Rel g4 v v' ∧ WR B W g4 m' w':=by
   intro v' g' w' l2 r2 w2
   obtain ⟨g3,l3,w3,r3⟩:=Ak6 w2 r2
   obtain ⟨g4,l4,r4,w4⟩:=Ag2 w1 hv1 vm (l2.trans l3) w3 r3 e
   exact ⟨g4,l1.trans l4,r4,w4⟩
  rcases Af0 hP hf hr hv1 g1 w vals k1 w1 with ⟨h2,h3⟩ | ⟨v',g',w',h2,h3,h4,h5⟩
  ·refine .inl ⟨h2,h3.mono fun e w' ⟨v',g',h4,h5,h6,h7⟩ => ?_⟩
   obtain ⟨g4,a,b,c⟩:=fin v' g' w' h5 h6 h7
   exact ⟨v',g4,h4,a,b,c⟩
  ·obtain ⟨g4,a,b,c⟩:=fin v' g' w' h3 h4 h5
   exact .inr ⟨v',g4,w',h2,a,b,c⟩
 ·cases e
variable {P:Program} {cfg:Cfg}
abbrev Dg:=Bool × Option Nat × Mem
def objV:AV → Option Nat
 | .ptr id _ => some id
 | _ => Option.none
def objE (s:Sl):Op → Option Nat
 | .load _ a => objV (ev s a)
 | .store _ a _ => objV (ev s a)
 | _ => Option.none
def dgOf (all:Array Oper) (s:Sl) (m:Mem) (o:Oper):Dg:=(Region.wanted o (ayields all s),objE s o.op,m)
def wpd (P:Program) (cfg:Cfg) (N:Nat) (all:Array Oper):List Oper → Sl → Mem → List Dg → (List Dg → Sl → Mem → Prop) → Prop
 | [],s,m,acc,K => K (acc ++ [(false,Option.none,m)]) s m
 | o :: rest,s,m,acc,K => wpIf (Region.wanted o (ayields all s)) (wps P cfg s o m fun v m1 => wpP (aput N s o.dst v) fun s1 => wpd P cfg N all rest s1 m1 (acc ++ [dgOf all s m o]) K) (wpP (aput N s o.dst undefV) fun s1 => wpd P cfg N all rest s1 m (acc ++ [dgOf all s m o]) K)
def verKeptD (ds:List Dg) (j:Nat) (id:Nat):Bool :=
 match ds[j]?,ds[j + 1]? with
 | some a,some b => (a.2.2.ver id).isSome && a.2.2.ver id == b.2.2.ver id
 | _,_ => false
def metOkD (ds:List Dg) (i j:Nat) (x y:Oper):Bool :=
 match ds[i]?,ds[j]? with
 | some si,some sj =>
  if !si.1 || !sj.1 then true
  else if rank x == 1 && decide (2 ≤ rank y) then (match si.2.1 with | some id => verKeptD ds j id | Option.none => true)
  else if decide (2 ≤ rank x) && rank y == 1 then (match sj.2.1 with | some id => verKeptD ds i id | Option.none => true)
  else if rank x == 3 && rank y == 3 then (match si.2.1,sj.2.1 with | some a,some b => a != b | _,_ => false)
  else true
 | _,_ => false
def metAtD (ops:Array Oper) (ds:List Dg) (p:Nat × Nat):Bool :=
 if p.1 == p.2 then false else
 match ops[p.1]?,ops[p.2]? with
 | some x,some y => metOkD ds p.1 p.2 x y
 | _,_ => false
inductive It where
 | code (c:Code)
 | ops (all:Array Oper) (l:List Oper)
 | opz (all:Array Oper) (l:List Oper)
 | opt (all:Array Oper) (l:List Oper) (acc:List (Sl × Mem))
 | opd (all:Array Oper) (l:List Oper) (acc:List Dg)
 | blk (id:Nat)
def goE (P:Program) (cfg:Cfg) (N:Nat) (Q:Ex → Sl → Mem → Prop):List It → Ex → Sl → Mem → Prop
 | [] => Q
 | .code c :: k => thn (fun s m => wpc P cfg N c s m (goE P cfg N Q k)) (goE P cfg N Q k)
 | .ops all l :: k => thn (fun s m => wpoU P cfg N all l s m (goE P cfg N Q k .normal)) (goE P cfg N Q k)
 | .opz all l :: k => thn (fun s m => wpo P cfg N all l s m (goE P cfg N Q k .normal)) (goE P cfg N Q k)
 | .opt all l acc :: k => thn (fun s m => wpt P cfg N all l s m acc (fun ms s m => (metL all).all (metAt all ms) = true ∧ goE P cfg N Q k .normal s m)) (goE P cfg N Q k)
 | .opd all l acc :: k => thn (fun s m => wpd P cfg N all l s m acc (fun ds s m => (metL all).all (metAtD all ds) = true ∧ goE P cfg N Q k .normal s m)) (goE P cfg N Q k)
 | .blk id :: k => V.blk id (goE P cfg N Q k)
def go (P:Program) (cfg:Cfg) (N:Nat) (Q:Ex → Sl → Mem → Prop) (k:List It) (s:Sl) (m:Mem):Prop:=goE P cfg N Q k .normal s m
def goR (P:Program) (cfg:Cfg) (N:Nat) (Q:Ex → Sl → Mem → Prop) (r:Option (AV × Mem)) (d:Option Tmp) (k:List It) (s:Sl):Prop:=wpR r fun v m => wpP (aput N s d v) fun s => go P cfg N Q k s m
def goP (P:Program) (cfg:Cfg) (N:Nat) (Q:Ex → Sl → Mem → Prop) (r:Option Sl) (k:List It) (m:Mem):Prop:=wpP r fun s => go P cfg N Q k s m
def goB (P:Program) (cfg:Cfg) (N:Nat) (Q:Ex → Sl → Mem → Prop) (v:AV) (x y:Code) (k:List It) (s:Sl) (m:Mem):Prop:=wpB v fun t => go P cfg N Q (.code (if t then x else y) :: k) s m
def goW (P:Program) (cfg:Cfg) (N:Nat) (Q:Ex → Sl → Mem → Prop) (t:Bool) (o:Oper) (k:List It) (s:Sl) (m:Mem):Prop:=wpIf t (wps P cfg s o m fun v m => wpP (aput N s o.dst v) fun s => go P cfg N Q k s m) (wpP (aput N s o.dst undefV) fun s => go P cfg N Q k s m)
def goS (P:Program) (cfg:Cfg) (N:Nat) (Q:Ex → Sl → Mem → Prop) (o:Oper) (k:List It) (s:Sl) (m:Mem):Prop:=wps P cfg s o m fun v m => wpP (aput N s o.dst v) fun s => go P cfg N Q k s m
def goWU (P:Program) (cfg:Cfg) (N:Nat) (Q:Ex → Sl → Mem → Prop) (t:Bool) (o:Oper) (k:List It) (s:Sl) (m:Mem):Prop:=wpIf t (wpsU P cfg s o m fun v m => wpP (aput N s o.dst v) fun s => go P cfg N Q k s m) (wpP (aput N s o.dst undefV) fun s => go P cfg N Q k s m)
def goU (P:Program) (cfg:Cfg) (N:Nat) (Q:Ex → Sl → Mem → Prop) (o:Oper) (k:List It) (s:Sl) (m:Mem):Prop:=wpsU P cfg s o m fun v m => wpP (aput N s o.dst v) fun s => go P cfg N Q k s m
def goF (P:Program) (cfg:Cfg) (N:Nat) (Q:Ex → Sl → Mem → Prop) (f:AV) (args:List AV) (d:Option Tmp) (k:List It) (s:Sl) (m:Mem):Prop:=wpF f args fun fn as => wph P cfg fn as m fun v m => wpP (aput N s d v) fun s => go P cfg N Q k s m
def goH (P:Program) (cfg:Cfg) (N:Nat) (Q:Ex → Sl → Mem → Prop) (fn:Fn) (args:List AV) (d:Option Tmp) (k:List It) (s:Sl) (m:Mem):Prop:=wph P cfg fn args m fun v m => wpP (aput N s d v) fun s => go P cfg N Q k s m
def goM (P:Program) (cfg:Cfg) (N:Nat) (Q:Ex → Sl → Mem → Prop) (t:Bool) (k:List It) (s:Sl) (m:Mem):Prop:=t = true ∧ go P cfg N Q k s m
section
variable {N:Nat} {all:Array Oper} {s:Sl} {m:Mem} {Q:Ex → Sl → Mem → Prop} {o:Oper} {rest:List Oper} {k:List It} {acc:List (Sl × Mem)}
@[congr] theorem A1q {r r':Option (AV × Mem)} {d:Option Tmp} (h:r = r'):goR P cfg N Q r d k s = goR P cfg N Q r' d k s:=by rw [h]
@[congr] theorem A1r {r r':Option Sl} (h:r = r'):goP P cfg N Q r k m = goP P cfg N Q r' k m:=by rw [h]
@[congr] theorem A1x {r r':AV} {x y:Code} (h:r = r'):goB P cfg N Q r x y k s m = goB P cfg N Q r' x y k s m:=by rw [h]
@[congr] theorem A1p {r r':Bool} (h:r = r'):goW P cfg N Q r o k s m = goW P cfg N Q r' o k s m:=by rw [h]
@[congr] theorem A0h {r r':Bool} (h:r = r'):goWU P cfg N Q r o k s m = goWU P cfg N Q r' o k s m:=by rw [h]
@[congr] theorem A1s {r r':Bool} (h:r = r'):goM P cfg N Q r k s m = goM P cfg N Q r' k s m:=by rw [h]
@[congr] theorem A1w {r r':AV} {a a':List AV} {d:Option Tmp} (h:r = r') (h2:a = a'):goF P cfg N Q r a d k s m = goF P cfg N Q r' a' d k s m:=by rw [h,h2]
@[congr] theorem A1t {r:Fn} {a a':List AV} {d:Option Tmp} (h2:a = a'):goH P cfg N Q r a d k s m = goH P cfg N Q r a' d k s m:=by rw [h2]
theorem A1n:go P cfg N Q [] s m = Q .normal s m:=Eq.trans rfl rfl
theorem Azf:go P cfg N Q (.code .skip :: k) s m = go P cfg N Q k s m:=Eq.trans rfl rfl
theorem Azg {l:Nat}:go P cfg N Q (.code (.exit l) :: k) s m = goE P cfg N Q k (.exit l) s m:=Eq.trans rfl rfl
theorem A1i:go P cfg N Q (.code .ret :: k) s m = goE P cfg N Q k .ret s m:=Eq.trans rfl rfl
theorem A1h {a b:Code}:go P cfg N Q (.code (.seq a b) :: k) s m = go P cfg N Q (.code a :: .code b :: k) s m:=Eq.trans rfl rfl
theorem Azi {c:Operand} {x y:Code}:go P cfg N Q (.code (.cond c x y) :: k) s m = goB P cfg N Q (ev s c) x y k s m:=by
 show wpc P cfg N (.cond c x y) s m (goE P cfg N Q k) = _
 simp only [wpc,goB]
 congr 1
 funext t
 cases t <;> rfl
theorem Auv {id:Nat} {b:Code}:go P cfg N Q (.code (.block id b) :: k) s m = go P cfg N Q (.code b :: .blk id :: k) s m:=Eq.trans rfl rfl
theorem Aq9 {id:Nat} {ops:List Oper}:go P cfg N Q (.code (.region id ⟨ops⟩ false) :: k) s m = go P cfg N Q (.ops ⟨ops⟩ ops :: k) s m:=Eq.trans rfl rfl
theorem Azh {id:Nat} {ops:List Oper} (h:drawOk ⟨ops⟩ = true):go P cfg N Q (.code (.region id ⟨ops⟩ true) :: k) s m = (go P cfg N Q (.opt ⟨ops⟩ ops [] :: k) s m ∨ (calm ⟨ops⟩ = true ∧ metL ⟨ops⟩ = [] ∧ go P cfg N Q (.ops ⟨ops⟩ ops :: k) s m)):=by
 show (drawOk ⟨ops⟩ = true ∧ _) = _
 rw [eq_true h,true_and]
 rfl
theorem Ao4:go P cfg N Q (.ops all [] :: k) s m = go P cfg N Q k s m:=Eq.trans rfl rfl
theorem Ao2:go P cfg N Q (.opz all [] :: k) s m = go P cfg N Q k s m:=Eq.trans rfl rfl
theorem A1l {op:Op} {d:Option Tmp} {T:TypeId} {p:String} {af:Array Edge}:go P cfg N Q (.ops all (⟨d,op,T,p,af,none⟩ :: rest) :: k) s m = goU P cfg N Q ⟨d,op,T,p,af,none⟩ (.ops all rest :: k) s m:=Eq.trans rfl rfl
theorem A1j {op:Op} {d:Option Tmp} {T:TypeId} {p:String} {af:Array Edge}:go P cfg N Q (.opz all (⟨d,op,T,p,af,none⟩ :: rest) :: k) s m = goS P cfg N Q ⟨d,op,T,p,af,none⟩ (.opz all rest :: k) s m:=Eq.trans rfl rfl
theorem Aku {op:Op} {d:Option Tmp} {T:TypeId} {p:String} {af:Array Edge} {j:Nat} {b:Bool}:go P cfg N Q (.ops all (⟨d,op,T,p,af,some (j,b)⟩ :: rest) :: k) s m = goWU P cfg N Q (ayields all s j == some b) ⟨d,op,T,p,af,none⟩ (.ops all rest :: k) s m:=Eq.trans rfl rfl
theorem Akt {op:Op} {d:Option Tmp} {T:TypeId} {p:String} {af:Array Edge} {j:Nat} {b:Bool}:go P cfg N Q (.opz all (⟨d,op,T,p,af,some (j,b)⟩ :: rest) :: k) s m = goW P cfg N Q (ayields all s j == some b) ⟨d,op,T,p,af,none⟩ (.opz all rest :: k) s m:=Eq.trans rfl rfl
theorem Ao3:go P cfg N Q (.opt all [] acc :: k) s m = goM P cfg N Q ((metL all).all (metAt all (acc ++ [(s,m)]))) k s m:=Eq.trans rfl rfl
theorem A1k {op:Op} {d:Option Tmp} {T:TypeId} {p:String} {af:Array Edge}:go P cfg N Q (.opt all (⟨d,op,T,p,af,none⟩ :: rest) acc :: k) s m = goS P cfg N Q ⟨d,op,T,p,af,none⟩ (.opt all rest (acc ++ [(s,m)]) :: k) s m:=Eq.trans rfl rfl
theorem Ao5 {ds:List Dg}:go P cfg N Q (.opd all [] ds :: k) s m = goM P cfg N Q ((metL all).all (metAtD all (ds ++ [(false,Option.none,m)]))) k s m:=Eq.trans rfl rfl
theorem A1m {ds:List Dg} {op:Op} {d:Option Tmp} {T:TypeId} {p:String} {af:Array Edge}:go P cfg N Q (.opd all (⟨d,op,T,p,af,none⟩ :: rest) ds :: k) s m = goS P cfg N Q ⟨d,op,T,p,af,none⟩ (.opd all rest (ds ++ [(true,objE s op,m)]) :: k) s m:=Eq.trans rfl rfl
theorem A1o {id:Nat}:go P cfg N Q (.blk id :: k) s m = go P cfg N Q k s m:=Eq.trans rfl rfl
theorem Azm {e:Ex}:goE P cfg N Q [] e s m = Q e s m:=Eq.trans rfl rfl
theorem Ajn {id:Nat} {c:Code}:goE P cfg N Q (.code c :: k) (.exit id) s m = goE P cfg N Q k (.exit id) s m:=Eq.trans rfl rfl
theorem Akz {c:Code}:goE P cfg N Q (.code c :: k) .ret s m = goE P cfg N Q k .ret s m:=Eq.trans rfl rfl
theorem Ams {id:Nat}:goE P cfg N Q (.blk id :: k) .ret s m = goE P cfg N Q k .ret s m:=Eq.trans rfl rfl
theorem Ak0 {id:Nat}:goE P cfg N Q (.blk id :: k) (.exit id) s m = go P cfg N Q k s m:=by simp [goE,V.blk,go]
theorem Ajo {id id':Nat} (h:id' ≠ id):goE P cfg N Q (.blk id :: k) (.exit id') s m = goE P cfg N Q k (.exit id') s m:=by simp [goE,V.blk,h]
theorem Auw:goW P cfg N Q true o k s m = goS P cfg N Q o k s m:=Eq.trans rfl rfl
theorem Arc:goWU P cfg N Q true o k s m = goU P cfg N Q o k s m:=Eq.trans rfl rfl
theorem Arb:goW P cfg N Q false o k s m = goP P cfg N Q (aput N s o.dst undefV) k m:=Eq.trans rfl rfl
theorem Ao6:goWU P cfg N Q false o k s m = goP P cfg N Q (aput N s o.dst undefV) k m:=Eq.trans rfl rfl
theorem Au7 {d:Option Tmp} {v:AV}:goR P cfg N Q (some (v,m)) d k s = goP P cfg N Q (aput N s d v) k m:=Eq.trans rfl rfl
theorem Au8:goP P cfg N Q (some s) k m = go P cfg N Q k s m:=Eq.trans rfl rfl
theorem Au9 {x y:Code}:goB P cfg N Q (.sc (.bool true)) x y k s m = go P cfg N Q (.code x :: k) s m:=Eq.trans rfl rfl
theorem Arq {x y:Code}:goB P cfg N Q (.sc (.bool false)) x y k s m = go P cfg N Q (.code y :: k) s m:=Eq.trans rfl rfl
theorem Aal {t:Bool} {x y:Code} (h1:t = true → go P cfg N Q (.code x :: k) s m) (h2:t = false → go P cfg N Q (.code y :: k) s m):goB P cfg N Q (.sc (.bool t)) x y k s m:=by cases t; exact h2 rfl; exact h1 rfl
theorem A1v {f:FuncId} {a b args:List AV} {d:Option Tmp}:goF P cfg N Q (.fn (.func f) a b) args d k s m = goH P cfg N Q (.func f) (a ++ args ++ b) d k s m:=Eq.trans rfl rfl
theorem A1u {id:Nat} {args:List AV} {d:Option Tmp}:goF P cfg N Q (.yl id) args d k s m = goH P cfg N Q (.yield id) args d k s m:=Eq.trans rfl rfl
theorem Aad {fn:Fn} {args:List AV} {d:Option Tmp} {K:AV → Mem → Prop} (h:wph P cfg fn args m K) (hk:∀ v m,K v m → goP P cfg N Q (aput N s d v) k m):goH P cfg N Q fn args d k s m:=Ab2 h hk
theorem Acw {b:Code} (I:Nat → Sl → Mem → Prop) (n:Nat) (h:I n s m) (hb:∀ n s m,I n s m → ∀ Q':Ex → Sl → Mem → Prop,(∀ n' s m,n' < n → I n' s m → Q' .normal s m) → (∀ e s m,e ≠ .normal → goE P cfg N Q k e s m → Q' e s m) → go P cfg N Q' [.code b] s m):go P cfg N Q (.code (.loop b) :: k) s m:=by
 refine ⟨I,n,h,fun n s m hI => ?_⟩
 refine hb n s m hI _ (fun n' s m hn hI' => ⟨n',hn,hI'⟩) fun e s m hne he => ?_
 cases e with
 | normal => exact absurd rfl hne
 | _ => exact he
theorem Aow {keep:Bool} {rs:List ResultVar} {K K':AV → Mem → Prop} {e:Ex} (h:leave P keep rs K e s m) (k:∀ v m,K v m → K' v m):leave P keep rs K' e s m:=by
 obtain ⟨h1,vs,h2,h3⟩:=h
 exact ⟨h1,vs,h2,k _ _ h3⟩
theorem Axz {f : FuncId} {fn : Func} {c : Code} {args : List AV} {K : AV → Mem → Prop} (hf : P.funcs[f]? = some fn) (hb : fn.body = some c) (hk : cfg.hook f = none) (hn : fn.name ≠ "runtime.NumGoroutine") (hl : args.length ≤ fn.ntmps)
  (h:∀ Q,(∀ e s m',leave P (cfg.keepRes f) fn.results.toList (gcK (cfg.gc f) (if cfg.keepArgs f then (args,m) else fzvs m args).2 K) e s m' → Q e s m') → go P cfg fn.ntmps Q [.code c] (Sl.putAll .nil 0 (if cfg.keepArgs f then (args,m) else fzvs m args).1) (if cfg.keepArgs f then (args,m) else fzvs m args).2):wph P cfg (.func f) args m K:=by
 refine Aiy hf hb hk hn hl ?_
 have:=h _ fun e s m x => x
 exact this
theorem Aah {f : FuncId} {fn : Func} {c : Code} {args : List AV} {K : AV → Mem → Prop} (hf : P.funcs[f]? = some fn) (hb : fn.body = some c) (hk : cfg.hook f = none) (hn : fn.name ≠ "runtime.NumGoroutine") (hl : args.length ≤ fn.ntmps)
  (h:∀ Q,(∀ e s m,leave P (cfg.keepRes f) fn.results.toList K e s m → Q e s m) → go P cfg fn.ntmps Q [.code c] (Sl.putAll .nil 0 (if cfg.keepArgs f then (args,m) else fzvs m args).1) (if cfg.keepArgs f then (args,m) else fzvs m args).2) (hg:cfg.gc f = 0:=by rfl):wph P cfg (.func f) args m K :=
 Axz hf hb hk hn hl fun Q hQ => h Q fun e s m' hl => hQ e s m' (Aow hl fun v m k => by rw [hg]; exact gcK_0 k)
end
variable {P:Program} {cfg:Cfg}
section
variable {N:Nat} {s:Sl} {m:Mem} {Q:Ex → Sl → Mem → Prop} {k:List It} {d:Option Tmp} {T:TypeId} {p:String} {af:Array Edge} {gd:Option (Nat × Bool)}
theorem Aud {v:AV}:aput N s none v = some s:=Eq.trans rfl rfl
theorem Auc {t:Nat} {v:AV} (h:t < N):aput N s (some t) v = some (s.set t v):=by simp [aput,h]
theorem A14 {t:Nat}:ev s (.tmp t) = s.at t:=Eq.trans rfl rfl
theorem Awt {v:Value}:ev s (.const v) = ofConst v:=Eq.trans rfl rfl
theorem Az0 {f:FuncId}:ev s (.func f) = .fn (.func f) [] []:=Eq.trans rfl rfl
theorem Ame {q:IntKind} {n:Int}:ofConst (.int q n) = .sc (.int q n):=Eq.trans rfl rfl
theorem Ako {b:Bool}:ofConst (.bool b) = .sc (.bool b):=Eq.trans rfl rfl
theorem Ahm {b:ByteArray}:ofConst (.string b) = .sc (.string b):=Eq.trans rfl rfl
theorem Amd:ofConst (.slice none 0 0) = .emp 0:=Eq.trans rfl rfl
theorem Agw:ofConst .nilFunc = .sc .nilFunc:=Eq.trans rfl rfl
theorem Amc {x:Option Addr}:ofConst (.pointer x) = .sc (.pointer x):=Eq.trans rfl rfl
theorem Aaa {t:Nat} {v:AV}:(s.set t v).at t = v:=by rw [Sl.at_set,if_pos rfl]
theorem Asc {t u:Nat} {v:AV} (h:t ≠ u):(s.set u v).at t = s.at t:=by rw [Sl.at_set,if_neg h]
def aconvM (P:Program) (a b:TypeId) (x:AV) (m:Mem):Option (AV × Mem):=match elemsOf m x with
 | some ys => (aconvB P a b (.lst ys)).map (·,m)
 | Option.none => Option.none
theorem Au4 {x:Operand}:goS P cfg N Q ⟨d,.move x,T,p,af,gd⟩ k s m = goP P cfg N Q (aput N s d (ev s x)) k m:=Eq.trans rfl rfl
theorem Au0 {x:Operand}:goU P cfg N Q ⟨d,.move x,T,p,af,gd⟩ k s m = goP P cfg N Q (aput N s d (ev s x)) k m:=Eq.trans rfl rfl
theorem Apb {x:Operand}:goS P cfg N Q ⟨d,.assign x,T,p,af,gd⟩ k s m = goP P cfg N Q (aput N s d (ev s x)) k m:=Eq.trans rfl rfl
theorem Ao9 {x:Operand}:goU P cfg N Q ⟨d,.assign x,T,p,af,gd⟩ k s m = goP P cfg N Q (aput N s d (ev s x)) k m:=Eq.trans rfl rfl
theorem Arn {op:BinOp} {t u:TypeId} {x y:Operand}:goS P cfg N Q ⟨d,.binOp op t x y u,T,p,af,gd⟩ k s m = goR P cfg N Q ((abin P op t x y (ev s x) (ev s y)).map (·,m)) d k s:=Eq.trans rfl rfl
theorem Ari {op:BinOp} {t u:TypeId} {x y:Operand}:goU P cfg N Q ⟨d,.binOp op t x y u,T,p,af,gd⟩ k s m = goR P cfg N Q ((abin P op t x y (ev s x) (ev s y)).map (·,m)) d k s:=Eq.trans rfl rfl
theorem Au3 {c x y:Operand}:goS P cfg N Q ⟨d,.pick c x y,T,p,af,gd⟩ k s m = goR P cfg N Q (match ev s c with | .sc (.bool t) => some (if t then ev s x else ev s y,m) | _ => none) d k s:=Eq.trans rfl rfl
theorem Auz {c x y:Operand}:goU P cfg N Q ⟨d,.pick c x y,T,p,af,gd⟩ k s m = goR P cfg N Q (match ev s c with | .sc (.bool t) => some (if t then ev s x else ev s y,m) | _ => none) d k s:=Eq.trans rfl rfl
theorem Aro {t:TypeId}:goS P cfg N Q ⟨d,.alloc t,T,p,af,gd⟩ k s m = goR P cfg N Q ((tzero P t).bind fun z => if z.okc then some (.ptr m.next 0,m.new z.cells false) else none) d k s:=Eq.trans rfl rfl
theorem Arj {t:TypeId}:goU P cfg N Q ⟨d,.alloc t,T,p,af,gd⟩ k s m = goR P cfg N Q ((tzero P t).bind fun z => if z.okc then some (.ptr m.next 0,m.new z.cells false) else none) d k s:=Eq.trans rfl rfl
theorem Azl {t:TypeId} {x:Operand}:goS P cfg N Q ⟨d,.box t x,T,p,af,gd⟩ k s m = goR P cfg N Q (if (ev s x).okc then some (.ptr m.next 0,m.new (ev s x).cells false) else none) d k s:=Eq.trans rfl rfl
theorem Azk {t:TypeId} {x:Operand}:goU P cfg N Q ⟨d,.box t x,T,p,af,gd⟩ k s m = goR P cfg N Q (if (ev s x).okc then some (.ptr m.next 0,m.new (ev s x).cells false) else none) d k s:=Eq.trans rfl rfl
theorem Arm {t:TypeId} {ps:List (Nat × Operand)}:goS P cfg N Q ⟨d,.build t ⟨ps⟩,T,p,af,gd⟩ k s m = goR P cfg N Q ((abuild P t (ps.map fun q => (q.1,ev s q.2))).map (·,m)) d k s:=Eq.trans rfl rfl
theorem Arh {t:TypeId} {ps:List (Nat × Operand)}:goU P cfg N Q ⟨d,.build t ⟨ps⟩,T,p,af,gd⟩ k s m = goR P cfg N Q ((abuild P t (ps.map fun q => (q.1,ev s q.2))).map (·,m)) d k s:=Eq.trans rfl rfl
theorem Aht {t:TypeId} {n:Nat} {ps:List (Nat × Operand)}:goS P cfg N Q ⟨d,.buildSlice t n ⟨ps⟩,T,p,af,gd⟩ k s m = goR P cfg N Q (abuildSlice P t n (ps.map fun q => (q.1,ev s q.2)) m) d k s:=Eq.trans rfl rfl
theorem Ahs {t:TypeId} {n:Nat} {ps:List (Nat × Operand)}:goU P cfg N Q ⟨d,.buildSlice t n ⟨ps⟩,T,p,af,gd⟩ k s m = goR P cfg N Q (abuildSlice P t n (ps.map fun q => (q.1,ev s q.2)) m) d k s:=Eq.trans rfl rfl
theorem Au5 {t:TypeId} {x:Operand}:goS P cfg N Q ⟨d,.load t x,T,p,af,gd⟩ k s m = goR P cfg N Q ((aload P t (ev s x) m).map (·,m)) d k s:=Eq.trans rfl rfl
theorem Au1 {t:TypeId} {x:Operand}:goU P cfg N Q ⟨d,.load t x,T,p,af,gd⟩ k s m = goR P cfg N Q ((aload P t (ev s x) m).map (·,m)) d k s:=Eq.trans rfl rfl
theorem Ark {t:TypeId} {x y:Operand}:goS P cfg N Q ⟨d,.store t x y,T,p,af,gd⟩ k s m = goR P cfg N Q ((astore P t (ev s x) (ev s y) m).map (undefV,·)) d k s:=Eq.trans rfl rfl
theorem Ard {t:TypeId} {x y:Operand}:goU P cfg N Q ⟨d,.store t x y,T,p,af,gd⟩ k s m = goR P cfg N Q ((astore P t (ev s x) (ev s y) m).map (undefV,·)) d k s:=Eq.trans rfl rfl
theorem Akx {x:Operand}:goS P cfg N Q ⟨d,.nilCheck x,T,p,af,gd⟩ k s m = goR P cfg N Q (match ev s x with | .ptr id off => some (.ptr id off,m) | .cptr x off => some (.cptr x off,m) | .fn f a b => if isFuncPlain f then some (.fn f a b,m) else none | .yl id => some (.yl id,m) | _ => none) d k s:=Eq.trans rfl rfl
theorem Akv {x:Operand}:goU P cfg N Q ⟨d,.nilCheck x,T,p,af,gd⟩ k s m = goR P cfg N Q (match ev s x with | .ptr id off => some (.ptr id off,m) | .cptr x off => some (.cptr x off,m) | .fn f a b => if isFuncPlain f then some (.fn f a b,m) else none | .yl id => some (.yl id,m) | _ => none) d k s:=Eq.trans rfl rfl
theorem Auy {op:UnOp} {t:TypeId} {x:Operand}:goU P cfg N Q ⟨d,.unOp op t x,T,p,af,gd⟩ k s m = goR P cfg N Q ((scal (ev s x)).bind fun v => (pureRun P (Op.unary op v)).map fun v => (.sc v,m)) d k s:=Eq.trans rfl rfl
theorem Amp {t u:TypeId} {x:Operand}:goS P cfg N Q ⟨d,.convert t u x,T,p,af,gd⟩ k s m = goR P cfg N Q ((aconvert P t u (ev s x)).map (·,m)) d k s:=Eq.trans rfl rfl
theorem Amm {t u:TypeId} {x:Operand}:goU P cfg N Q ⟨d,.convert t u x,T,p,af,gd⟩ k s m = goR P cfg N Q (orE ((aconvert P t u (ev s x)).map (·,m)) (aconvM P t u (ev s x) m)) d k s:=Eq.trans rfl rfl
theorem Afm {t:TypeId} {x:Operand}:goU P cfg N Q ⟨d,.makeInterface t x,T,p,af,gd⟩ k s m = goR P cfg N Q ((amakeIface P t (ev s x)).map (·,m)) d k s:=Eq.trans rfl rfl
theorem Ahr {t u:TypeId} {x:Operand} {ok:Bool}:goU P cfg N Q ⟨d,.typeAssert x t u ok,T,p,af,gd⟩ k s m = goR P cfg N Q ((aassert P u ok (ev s x)).map (·,m)) d k s:=Eq.trans rfl rfl
theorem Aky {f:Fn} {a b:List Operand}:goS P cfg N Q ⟨d,.makeFunc f ⟨a⟩ ⟨b⟩,T,p,af,gd⟩ k s m = goP P cfg N Q (aput N s d (.fn f (a.map (ev s)) (b.map (ev s)))) k m:=Eq.trans rfl rfl
theorem Akw {f:Fn} {a b:List Operand}:goU P cfg N Q ⟨d,.makeFunc f ⟨a⟩ ⟨b⟩,T,p,af,gd⟩ k s m = goP P cfg N Q (aput N s d (.fn f (a.map (ev s)) (b.map (ev s)))) k m:=Eq.trans rfl rfl
theorem Ajh {t:TypeId} {x y:Operand}:goU P cfg N Q ⟨d,.makeSlice t x y,T,p,af,gd⟩ k s m = goR P cfg N Q (amakeSlice P t (ev s x) (ev s y) m) d k s:=Eq.trans rfl rfl
theorem Arl {t:TypeId} {x:Operand} {lo hi mx:Option Operand}:goS P cfg N Q ⟨d,.slice t x lo hi mx,T,p,af,gd⟩ k s m = goR P cfg N Q ((aslice P t (ev s x) (lo.map (ev s)) (hi.map (ev s)) (mx.map (ev s))).map (·,m)) d k s:=Eq.trans rfl rfl
theorem Are {t:TypeId} {x:Operand} {lo hi mx:Option Operand}:goU P cfg N Q ⟨d,.slice t x lo hi mx,T,p,af,gd⟩ k s m = goR P cfg N Q (orE ((aslice P t (ev s x) (lo.map (ev s)) (hi.map (ev s)) (mx.map (ev s))).map (·,m)) (aarr P t (ev s x) (lo.map (ev s)) (hi.map (ev s)) (mx.map (ev s)) m)) d k s:=Eq.trans rfl rfl
theorem Ajm {t:TypeId} {x:Operand} {f:Nat}:goS P cfg N Q ⟨d,.fieldAddr t x f,T,p,af,gd⟩ k s m = goR P cfg N Q ((afieldAddr P t (ev s x) f).map (·,m)) d k s:=Eq.trans rfl rfl
theorem Ajj {t:TypeId} {x:Operand} {f:Nat}:goU P cfg N Q ⟨d,.fieldAddr t x f,T,p,af,gd⟩ k s m = goR P cfg N Q ((afieldAddr P t (ev s x) f).map (·,m)) d k s:=Eq.trans rfl rfl
theorem Arg {t:TypeId} {x:Operand} {f:Nat}:goU P cfg N Q ⟨d,.field t x f,T,p,af,gd⟩ k s m = goR P cfg N Q ((afield P t (ev s x) f).map (·,m)) d k s:=Eq.trans rfl rfl
theorem Ajl {t:TypeId} {x i:Operand}:goS P cfg N Q ⟨d,.indexAddr t x i,T,p,af,gd⟩ k s m = goR P cfg N Q ((aindexAddr P t (ev s x) (ev s i)).map (·,m)) d k s:=Eq.trans rfl rfl
theorem Aji {t:TypeId} {x i:Operand}:goU P cfg N Q ⟨d,.indexAddr t x i,T,p,af,gd⟩ k s m = goR P cfg N Q ((aindexAddr P t (ev s x) (ev s i)).map (·,m)) d k s:=Eq.trans rfl rfl
theorem Arf {t:TypeId} {x i:Operand}:goU P cfg N Q ⟨d,.index t x i,T,p,af,gd⟩ k s m = goR P cfg N Q ((aindex P t (ev s x) (ev s i)).map (·,m)) d k s:=Eq.trans rfl rfl
theorem Amo {x:Operand} {i:Nat}:goS P cfg N Q ⟨d,.extract x i,T,p,af,gd⟩ k s m = goR P cfg N Q (match ev s x with | .tup vs => (vs[i]?).map (·,m) | _ => none) d k s:=Eq.trans rfl rfl
theorem Aml {x:Operand} {i:Nat}:goU P cfg N Q ⟨d,.extract x i,T,p,af,gd⟩ k s m = goR P cfg N Q (match ev s x with | .tup vs => (vs[i]?).map (·,m) | _ => none) d k s:=Eq.trans rfl rfl
theorem Amq {b:Builtin} {args:List Operand} {ts:Array TypeId}:goS P cfg N Q ⟨d,.call { callee:=.builtin b,args:=⟨args⟩,argTypes:=ts },T,p,af,gd⟩ k s m = goR P cfg N Q (abuiltin P b ts T (args.map (ev s)) m) d k s:=Eq.trans rfl rfl
theorem Amn {b:Builtin} {args:List Operand} {ts:Array TypeId}:goU P cfg N Q ⟨d,.call { callee:=.builtin b,args:=⟨args⟩,argTypes:=ts },T,p,af,gd⟩ k s m = goR P cfg N Q (abuiltin P b ts T (args.map (ev s)) m) d k s:=Eq.trans rfl rfl
theorem Au6 {f:Operand} {args:List Operand} {ts:Array TypeId}:goS P cfg N Q ⟨d,.call { callee:=.value f,args:=⟨args⟩,argTypes:=ts },T,p,af,gd⟩ k s m = goF P cfg N Q (ev s f) (args.map (ev s)) d k s m:=Eq.trans rfl rfl
theorem Au2 {f:Operand} {args:List Operand} {ts:Array TypeId}:goU P cfg N Q ⟨d,.call { callee:=.value f,args:=⟨args⟩,argTypes:=ts },T,p,af,gd⟩ k s m = goF P cfg N Q (ev s f) (args.map (ev s)) d k s m:=Eq.trans rfl rfl
end
section
variable {t:TypeId} {x y:Operand} {q:IntKind} {a b:Int}
theorem Axk:abin P .leq t x y (.sc (.int q a)) (.sc (.int q b)) = some (.sc (.bool (decide (a ≤ b)))):=by
 simp only [abin,plain,eqGuard,binOp,Op.intCmp]; simp; rfl
theorem Axj:abin P .lss t x y (.sc (.int q a)) (.sc (.int q b)) = some (.sc (.bool (decide (a < b)))):=by
 simp only [abin,plain,eqGuard,binOp,Op.intCmp]; simp; rfl
theorem Axl:abin P .gtr t x y (.sc (.int q a)) (.sc (.int q b)) = some (.sc (.bool (decide (b < a)))):=by
 simp only [abin,plain,eqGuard,binOp,Op.intCmp]; simp; rfl
theorem Axm:abin P .geq t x y (.sc (.int q a)) (.sc (.int q b)) = some (.sc (.bool (decide (b ≤ a)))):=by
 simp only [abin,plain,eqGuard,binOp,Op.intCmp]; simp; rfl
theorem Axn:abin P .eql t x y (.sc (.int q a)) (.sc (.int q b)) = some (.sc (.bool (decide (a = b)))):=by
 simp only [abin,plain,eqGuard,binOp,Op.intCmp]; simp; rfl
theorem Axi:abin P .neq t x y (.sc (.int q a)) (.sc (.int q b)) = some (.sc (.bool (!decide (a = b)))):=by
 simp only [abin,plain,eqGuard,binOp,Op.intCmp]; simp; rfl
theorem Axo:abin P .add t x y (.sc (.int q a)) (.sc (.int q b)) = some (.sc (.int q (q.wrap (a + b)))):=by
 simp only [abin,plain,eqGuard,binOp,Op.intArith]; simp; rfl
theorem Axg:abin P .sub t x y (.sc (.int q a)) (.sc (.int q b)) = some (.sc (.int q (q.wrap (a - b)))):=by
 simp only [abin,plain,eqGuard,binOp,Op.intArith]; simp; rfl
theorem Axh {a b:ByteArray}:abin P .eql t x y (.sc (.string a)) (.sc (.string b)) = some (.sc (.bool (a.toList == b.toList))):=by
 simp only [abin,plain,eqGuard,binOp,Op.stringOp]; simp; rfl
theorem Aso {a b:ByteArray}:abin P .neq t x y (.sc (.string a)) (.sc (.string b)) = some (.sc (.bool !(a.toList == b.toList))):=by
 simp only [abin,plain,eqGuard,binOp,Op.stringOp]; simp; rfl
end
theorem Ab7 {α:Type} (a:α):pureRun P (pure a:Sem α) = some a:=rfl
theorem Aaj {t:TypeId} {d:TypeDesc} (h:P.underlying t = some d):pureRun P (underlying t) = some d:=by
 show pureRun P (match P.underlying t with | some d => pure d | none => stuck "no such type") = some d
 rw [h]; rfl
theorem Asp {t:TypeId} {x y:Operand} {a b:List UInt8}:abin P .eql t x y (.sc (.string ⟨⟨a⟩⟩)) (.sc (.string ⟨⟨b⟩⟩)) = some (.sc (.bool (decide (a = b)))):=by
 rw [Axh,ByteArray.toList_eq,ByteArray.toList_eq]
 congr 3
 by_cases h:a = b <;> simp [h]
theorem Apo {t:TypeId} {x y:Operand} {a b:List UInt8}:abin P .neq t x y (.sc (.string ⟨⟨a⟩⟩)) (.sc (.string ⟨⟨b⟩⟩)) = some (.sc (.bool (!decide (a = b)))):=by
 rw [Aso,ByteArray.toList_eq,ByteArray.toList_eq]
 congr 3
 by_cases h:a = b <;> simp [h]
theorem Axd {t T:TypeId} {m:Mem} (ht:P.underlying t = some .string) {l:List UInt8}:abuiltin P .len #[t] T [.sc (.string ⟨⟨l⟩⟩)] m = some (.sc (.int .i64 l.length),m):=by
 have h:pureRun P (Builtin.len_ #[t] 0 #[.string ⟨⟨l⟩⟩]) = some (goInt l.length):=by
  unfold Builtin.len_
  simp only [List.getElem?_toArray,List.getElem?_cons_zero]
  rw [Aaf,Aaj ht]
  rfl
 show ((pureRun P (Builtin.len_ #[t] 0 #[.string ⟨⟨l⟩⟩])).map AV.sc).map (·,m) = _
 rw [h]; rfl
theorem Abj {t T e:TypeId} {m:Mem} (ht:P.underlying t = some (.slice e)) {l:List AV}:abuiltin P .len #[t] T [.lst l] m = some (.sc (.int .i64 l.length),m):=by
 show (if (telem P t).isSome then _ else _:Option AV).map (·,m) = _
 simp [telem,ht,goInt]
theorem Ae3 {t T e:TypeId} {m:Mem} (ht:P.underlying t = some (.slice e)) {b:Nat}:abuiltin P .len #[t] T [.emp b] m = some (.sc (.int .i64 0),m):=by
 show (if (telem P t).isSome then _ else _:Option AV).map (·,m) = _
 simp [telem,ht,goInt]
theorem Adp {t T e:TypeId} {m:Mem} (ht:P.underlying t = some (.slice e)) {id off len k:Nat} {ag:Bool} {c:Option Nat}:abuiltin P .len #[t] T [.sl id off len k ag c] m = some (.sc (.int .i64 len),m):=by
 show (if (telem P t).isSome then _ else _:Option AV).map (·,m) = _
 simp [telem,ht,goInt]
theorem Aft {t:TypeId} {q:IntKind} (ht:P.underlying t = some .string) {l:List UInt8} {i:Nat} {b:UInt8} (h:l[i]? = some b):aindex P t (.sc (.string ⟨⟨l⟩⟩)) (.sc (.int q i)) = some (.sc (.int .u8 b.toNat)):=by
 have hi:i < l.length:=(List.getElem?_eq_some_iff.1 h).1
 have hs:(⟨⟨l⟩⟩:ByteArray)[i]? = some b:=by
  obtain ⟨h1,h2⟩:=List.getElem?_eq_some_iff.1 h
  rw [getElem?_pos (⟨⟨l⟩⟩:ByteArray) i (by simpa [ByteArray.size] using hi)]
  exact congrArg some h2
 have:pureRun P (Instr.index t (.string ⟨⟨l⟩⟩) (.int q i)) = some (.int .u8 b.toNat):=by
  unfold Instr.index
  rw [Aaf]
  show pureRun P _ = _
  rw [Aaf,Aaj ht]
  simp only [Option.bind_some]
  rw [if_pos (by omega),Int.toNat_natCast,hs]
  rfl
 show (pureRun P (Instr.index t (.string ⟨⟨l⟩⟩) (.int q i))).map AV.sc = _
 rw [this]; rfl
def Gives (P:Program) (cfg:Cfg) (f:FuncId) (args:List AV) (r:AV):Prop:=∀ m0 args0 m,fzvs m0 args0 = (args,m) → EH P cfg (.func f) args0 m0 r m
theorem Ada:∀ (l:List AV) (m:Mem),(fzvs m l).1.length = l.length
 | [],m => rfl
 | x :: l,m => by simp only [fzvs,List.length_cons]; rw [Ada l]
theorem Aae {f : FuncId} {fn : Func} {c : Code} {args : List AV} {r : AV} (hf : P.funcs[f]? = some fn) (hb : fn.body = some c) (hk : cfg.hook f = none) (hka : cfg.keepArgs f = false) (hg : cfg.gc f = 1) (hr : ∀ n, r.bel n = true) (hn : fn.name ≠ "runtime.NumGoroutine") (hl : args.length ≤ fn.ntmps)
  (h:∀ m,go P cfg fn.ntmps (leave P (cfg.keepRes f) fn.results.toList (fun v m' => v = r ∧ Kp m m')) [.code c] (Sl.putAll .nil 0 args) m):Gives P cfg f args r:=by
 intro m0 args0 m hz
 have hlen:args.length = args0.length:=by rw [← Ada args0 m0,hz]
 have:wph P cfg (.func f) args0 m0 fun v m' => v = r ∧ m' = m:=by
  refine Aiy hf hb hk hn (by omega) ?_
  rw [hka,hg]
  simp only [Bool.false_eq_true,if_false,hz]
  obtain ⟨e,s',m',h1,h2,vs,h3,h4,h5⟩:=Aen _ _ _ _ (h m)
  refine Ab8 (h m) ?_
  rintro e s' m' ⟨h2,vs,h3,h4,h5⟩
  exact ⟨h2,vs,h3,gcK_1 (by rw [h4]; exact hr _) h5 ⟨h4,rfl⟩⟩
 obtain ⟨v,m',h1,rfl,rfl⟩:=this
 exact h1
theorem Abe {f : FuncId} {fn : Func} {c : Code} {args : List AV} {r : AV} (hf : P.funcs[f]? = some fn) (hb : fn.body = some c) (hk : cfg.hook f = none) (hka : cfg.keepArgs f = false) (hn : fn.name ≠ "runtime.NumGoroutine") (hl : args.length ≤ fn.ntmps)
  (h:∀ m Q,(∀ e s m',leave P (cfg.keepRes f) fn.results.toList (fun v m' => v = r ∧ Kp m m') e s m' → Q e s m') → go P cfg fn.ntmps Q [.code c] (Sl.putAll .nil 0 args) m) (hg:cfg.gc f = 1:=by rfl) (hr:∀ n,r.bel n = true:=by intro n; simp [AV.bel,AV.bels]):Gives P cfg f args r :=
 Aae hf hb hk hka hg hr hn hl fun m => h m _ fun _ _ _ x => x
theorem Gives.go {N:Nat} {Q:Ex → Sl → Mem → Prop} {f:FuncId} {args:List AV} {r:AV} {d:Option Tmp} {k:List It} {s:Sl} {m:Mem} (h:Gives P cfg f args r) (hz:fzvs m args = (args,m):=by first | (simp; done) | rfl):goH P cfg N Q (.func f) args d k s m = goP P cfg N Q (aput N s d r) k m:=by
 have h1:=h m args m hz
 apply propext
 constructor
 ·rintro ⟨v,m1,h2,h3⟩
  obtain ⟨rfl,rfl⟩:=EH.unique h1 h2
  exact h3
 ·exact fun h3 => ⟨r,m,h1,h3⟩
theorem Gives.goF {N:Nat} {Q:Ex → Sl → Mem → Prop} {f:FuncId} {args args0:List AV} {r:AV} {d:Option Tmp} {k:List It} {s:Sl} {m m1:Mem} (h:Gives P cfg f args r) (hz:fzvs m args0 = (args,m1)):goH P cfg N Q (.func f) args0 d k s m = goP P cfg N Q (aput N s d r) k m1:=by
 have h1:=h m args0 m1 hz
 apply propext
 constructor
 ·rintro ⟨v,m1,h2,h3⟩
  obtain ⟨rfl,rfl⟩:=EH.unique h1 h2
  exact h3
 ·exact fun h3 => ⟨r,m1,h1,h3⟩
theorem Aar {N:Nat} {Q:Ex → Sl → Mem → Prop} {f:FuncId} {args args0:List AV} {r:AV} {d:Option Tmp} {k:List It} {s:Sl} {m:Mem} (h:Gives P cfg f args r) (hk:∀ m',Kp m m' → goP P cfg N Q (aput N s d r) k m') (hz:fzvs m args0 = (args,m):=by first | (simp; done) | rfl):goH P cfg N Q (.func f) args0 d k s m:=by
 rw [h.goF hz]; exact hk m (.refl m)
theorem Arp {N:Nat} {Q:Ex → Sl → Mem → Prop} {t:Bool} {x y:Code} {k:List It} {s:Sl} {m:Mem}:goB P cfg N Q (.sc (.bool t)) x y k s m = ((t = true → go P cfg N Q (.code x :: k) s m) ∧ (t = false → go P cfg N Q (.code y :: k) s m)):=by
 cases t <;> simp [goB,wpB]
theorem Azj {N:Nat} {Q:Ex → Sl → Mem → Prop} {t:Bool} {o:Oper} {k:List It} {s:Sl} {m:Mem}:goW P cfg N Q t o k s m = ((t = true → goS P cfg N Q o k s m) ∧ (t = false → goP P cfg N Q (aput N s o.dst undefV) k m)):=by
 cases t <;> simp [goW,wpIf,goS,goP]
theorem Aux {N:Nat} {Q:Ex → Sl → Mem → Prop} {t:Bool} {o:Oper} {k:List It} {s:Sl} {m:Mem}:goWU P cfg N Q t o k s m = ((t = true → goU P cfg N Q o k s m) ∧ (t = false → goP P cfg N Q (aput N s o.dst undefV) k m)):=by
 cases t <;> simp [goWU,wpIf,goU,goP]
theorem Aam {keep:Bool} {rs:List ResultVar} {K:AV → Mem → Prop} {s:Sl} {m:Mem}:leave P keep rs K .ret s m = ∃ vs,aresult P s m rs = some vs ∧ K (if keep then (oneOf vs,m) else fzr m (oneOf vs)).1 (if keep then (oneOf vs,m) else fzr m (oneOf vs)).2:=by simp [leave]
theorem Aa6 {t:Nat} {K:AV → Mem → Prop} {s:Sl} {m:Mem}:leave P false [.tmp t] K .ret s m = K (fzr m (s.at t)).1 (fzr m (s.at t)).2:=by simp [leave,aresult,oneOf]
theorem Adw {t u:Nat} {K:AV → Mem → Prop} {s:Sl} {m:Mem}:leave P false [.tmp t,.tmp u] K .ret s m = K (fzr m (.tup [s.at t,s.at u])).1 (fzr m (.tup [s.at t,s.at u])).2:=by simp [leave,aresult,oneOf]
theorem Aov {t u v:Nat} {K:AV → Mem → Prop} {s:Sl} {m:Mem}:leave P false [.tmp t,.tmp u,.tmp v] K .ret s m = K (fzr m (.tup [s.at t,s.at u,s.at v])).1 (fzr m (.tup [s.at t,s.at u,s.at v])).2:=by simp [leave,aresult,oneOf]
theorem A10 {m:Mem} {v:Value}:fzr m (.sc v) = (.sc v,m):=Eq.trans rfl rfl
theorem Adk {m:Mem} {vs:List AV}:fzr m (.tup vs) = (.tup (fzvs m vs).1,(fzvs m vs).2):=Eq.trans rfl rfl
theorem Ars {m:Mem} {cs:List AV}:fzr m (.agg cs) = fzv m (.agg cs):=Eq.trans rfl rfl
theorem Axw {m:Mem} {id off len k:Nat} {ag:Bool} {c:Option Nat}:fzr m (.sl id off len k ag c) = fz1 m (.sl id off len k ag c):=Eq.trans rfl rfl
theorem Aac {t:Nat} {s:Sl} {m:Mem} {v:Value} {e:Ex} {keep:Bool} {K:AV → Mem → Prop} (he:e = .normal ∨ e = .ret) (h:s.at t = .sc v) (hK:K (.sc v) m):leave P keep [.tmp t] K e s m:=by
 refine ⟨he,[s.at t],rfl,?_⟩
 cases keep <;> (simp only [oneOf,h]; exact hK)
theorem Aqw {s:Sl} {T:TypeId} {a:Operand}:objE s (.load T a) = objV (ev s a):=Eq.trans rfl rfl
theorem Aop {s:Sl} {T:TypeId} {a v:Operand}:objE s (.store T a v) = objV (ev s a):=Eq.trans rfl rfl
theorem Auj {id off:Nat}:objV (.ptr id off) = some id:=Eq.trans rfl rfl
theorem Aqv {s:Sl} {a0:Operand}:objE s (.move a0) = Option.none:=Eq.trans rfl rfl
theorem Amg {s:Sl} {a0:Operand}:objE s (.assign a0) = Option.none:=Eq.trans rfl rfl
theorem Aot {s:Sl} {a0:TypeId}:objE s (.alloc a0) = Option.none:=Eq.trans rfl rfl
theorem Aul {s:Sl} {a0:TypeId} {a1:Operand}:objE s (.box a0 a1) = Option.none:=Eq.trans rfl rfl
theorem Aor {s:Sl} {a0:TypeId} {a1:Array (Nat × Operand)}:objE s (.build a0 a1) = Option.none:=Eq.trans rfl rfl
theorem Agx {s:Sl} {a0:TypeId} {a1:Nat} {a2:Array (Nat × Operand)}:objE s (.buildSlice a0 a1 a2) = Option.none:=Eq.trans rfl rfl
theorem Ajb {s:Sl} {a0:Operand}:objE s (.nilCheck a0) = Option.none:=Eq.trans rfl rfl
theorem Aos {s:Sl} {a0:BinOp} {a1:TypeId} {a2:Operand} {a3:Operand} {a4:TypeId}:objE s (.binOp a0 a1 a2 a3 a4) = Option.none:=Eq.trans rfl rfl
theorem Aoq {s:Sl} {a0:TypeId} {a1:Operand} {a2:Option Operand} {a3:Option Operand} {a4:Option Operand}:objE s (.slice a0 a1 a2 a3 a4) = Option.none:=Eq.trans rfl rfl
theorem Aho {s:Sl} {a0:TypeId} {a1:Operand} {a2:Nat}:objE s (.fieldAddr a0 a1 a2) = Option.none:=Eq.trans rfl rfl
theorem Ahn {s:Sl} {a0:TypeId} {a1:Operand} {a2:Operand}:objE s (.indexAddr a0 a1 a2) = Option.none:=Eq.trans rfl rfl
theorem Amf {s:Sl} {a0:TypeId} {a1:Operand} {a2:Operand} {a3:Bool}:objE s (.lookup a0 a1 a2 a3) = Option.none:=Eq.trans rfl rfl
theorem Akp {s:Sl} {a0:Operand} {a1:Nat}:objE s (.extract a0 a1) = Option.none:=Eq.trans rfl rfl
theorem Aqx {s:Sl} {a0:Call}:objE s (.call a0) = Option.none:=Eq.trans rfl rfl
attribute [simp] Aqw Aop Auj Aqv Amg Aot Aul Aor Agx Ajb Aos Aoq Aho Ahn Amf Akp Aqx
attribute [simp ↓] A1n Azf Azg A1i A1h Azi Auv Aq9 Ao4 A1l Aku Ao2 A1j Akt A1k Ao3 A1m Ao5 A1o Azm Ajn Akz Ams Ak0 Ajo Au4 Apb Arn Au3 Aro Azl Arm Aht Au5 Ark Akx Amp Aky Arl Ajm Ajl Amo Amq Au6 Au0 Ao9 Ari Auz Arj Azk Arh Ahs Au1 Ard Akv Auy Amm Afm Ahr Akw Ajh Are Ajj Arg Aji Arf Aml Amn Au2 Aug Auh Arc Ao6
attribute [simp] Auw Arb Au7 Au8 Au9 Arq A1v A1u Aud Auc A14 Awt Az0 Ame Ako Ahm Amd Agw Amc Aaa Asc Axk Axj Axl Axm Axn Axi Axo Axg Asp Apo Axd Abj Ae3 Adp ayields abool fzvs fzs Sl.putAll
theorem Am6 {t:TypeId} {q:IntKind} (ht:P.underlying t = some .string) {b:UInt8} {l:List UInt8}:aindex P t (.sc (.string ⟨⟨b :: l⟩⟩)) (.sc (.int q 0)) = some (.sc (.int .u8 b.toNat)):=Aft ht (i:=0) rfl
theorem Ap4 {b:Bool}:pureRun P (Op.unary .not (.bool b)) = some (.bool !b):=Eq.trans rfl rfl
theorem Ayj {v:Value}:scal (.sc v) = some v:=Eq.trans rfl rfl
attribute [simp] Am6 Ap4 Ayj
theorem Abt:pureRun P program = some P:=Eq.trans rfl rfl
theorem Aki (q:Mark):pureRun P (mark q) = some ():=Eq.trans rfl rfl
theorem Ahl {f : FuncId} {fn : Func} {args : Array Value} {e : Array Value → Sem Value} (hf : P.funcs[f]? = some fn) (hn : (fn.name == "runtime.NumGoroutine") = false) (hb : fn.body = none) (h1 : Extern.findNext fn = none) (h2 : Extern.find fn = some e) :
  pureRun P (callFunc f args) = (pureRun P (e args)).map Next.value:=by
 unfold callFunc
 rw [Aaf,Abt]
 simp only [Option.bind_some,hf,hn,hb,Bool.false_eq_true,if_false,Option.isNone_none,if_true]
 rw [Aaf,Aki]
 simp only [Option.bind_some,h1,h2]
 first
 | (rw [Aaf]; cases pureRun P (e args) <;> rfl)
 | (simp only [Aaf]; cases pureRun P (e args) <;> rfl)
theorem A13 {m m':Mem} {x:AV} {v:Value} (h:fz1 m x = (.sc v,m')):x = .sc v ∧ m' = m:=by
 unfold fz1 at h
 split at h
 ·split at h
  ·split at h <;> cases h
  ·cases h
 ·cases h
 ·cases h; exact ⟨rfl,rfl⟩
theorem A1z {m m':Mem} {x:AV} {v:Value} (h:fzv m x = (.sc v,m')):x = .sc v ∧ m' = m:=by
 unfold fzv at h
 split at h
 ·cases h
 ·exact A13 h
theorem Ail:∀ {l:List AV} {args:List AV} {vs:List Value} {m m':Mem},fzvs m l = (args,m') → scals args = some vs → l = args ∧ m' = m
 | [],args,vs,m,m',h,hs => by cases h; exact ⟨rfl,rfl⟩
 | x :: l,args,vs,m,m',h,hs => by
  simp only [fzvs,Prod.mk.injEq] at h
  obtain ⟨rfl,h2⟩:=h
  simp only [scals] at hs
  split at hs
  ·rename_i a b h3 h4
   cases hf:fzv m x with
   | mk y m1 =>
    rw [hf] at h3 h4 h2
    cases y <;> simp [scal] at h3
    subst h3
    obtain ⟨rfl,rfl⟩:=A1z hf
    cases hf2:fzvs m1 l with
    | mk ys m2 =>
     rw [hf2] at h4 h2
     obtain ⟨rfl,rfl⟩:=Ail hf2 h4
     exact ⟨rfl,h2.symm⟩
  ·cases hs
theorem Ak1 {f:FuncId} {fn:Func} {args:List AV} {vs:List Value} {r:Value} (hf:P.funcs[f]? = some fn) (hb:fn.body = none) (hk:cfg.hook f = none) (hs:scals args = some vs)
  (hr:pureRun P (callFunc f vs.toArray) = some (.value r)):Gives P cfg f args (.sc r):=by
 intro m0 args0 m hz
 obtain ⟨rfl,rfl⟩:=Ail hz hs
 obtain ⟨v,m',h1,rfl,rfl⟩:=Aof (K:=fun v m' => v = .sc r ∧ m' = m) hf hb hk hs hr ⟨rfl,rfl⟩
 exact h1
theorem Ask {T:TypeId} {id off:Nat} {m:Mem}:aload P T (.ptr id off) m = (match m.get id with | some (.cells cs _ _) => partOf P T cs off | _ => none):=Eq.trans rfl rfl
theorem Apj {T:TypeId} {x:AV} {off:Nat} {m:Mem}:aload P T (.cptr x off) m = (if x.okc then partOf P T x.cells off else none):=Eq.trans rfl rfl
theorem Api {T:TypeId} {id off:Nat} {v:AV} {m:Mem}:astore P T (.ptr id off) v m = (match m.get id with | some (.cells cs false _) => if v.okc = true ∧ tsize P T = some v.cells.length ∧ off + v.cells.length ≤ cs.length then some (m.set id (splice cs off v.cells)) else none | _ => none):=Eq.trans rfl rfl
theorem Akk {T:TypeId} {cs:List AV} {off:Nat} (h:tagg P T = some false):partOf P T cs off = cs[off]?:=by unfold partOf; rw [h]
theorem Aet {T:TypeId} {cs:List AV} {off n:Nat} (h:tagg P T = some true) (h2:tsize P T = some n):partOf P T cs off = if off + n ≤ cs.length then some (.agg ((cs.drop off).take n)) else none:=by unfold partOf; rw [h,h2]
theorem Ayz {k:IntKind} {n:Int}:AV.okc (.sc (.int k n)) = true:=Eq.trans rfl rfl
theorem Aui {b:Bool}:AV.okc (.sc (.bool b)) = true:=Eq.trans rfl rfl
theorem Aon {b:ByteArray}:AV.okc (.sc (.string b)) = true:=Eq.trans rfl rfl
theorem Ayy {l:List AV}:AV.okc (.lst l) = true:=Eq.trans rfl rfl
theorem Ay0 {k:Nat}:AV.okc (.emp k) = true:=Eq.trans rfl rfl
theorem Ay1 {l:List AV}:AV.okc (.agg l) = true:=Eq.trans rfl rfl
theorem Ayv {a b:Nat}:AV.okc (.ptr a b) = true:=Eq.trans rfl rfl
theorem A09 {f:Fn} {a b:List AV}:AV.okc (.fn f a b) = true:=Eq.trans rfl rfl
theorem A08 {id off len k:Nat} {ag:Bool} {c:Option Nat}:AV.okc (.sl id off len k ag c) = true:=Eq.trans rfl rfl
theorem Ar3 {k:IntKind} {n:Int}:AV.cells (.sc (.int k n)) = [.sc (.int k n)]:=Eq.trans rfl rfl
theorem Apg {b:Bool}:AV.cells (.sc (.bool b)) = [.sc (.bool b)]:=Eq.trans rfl rfl
theorem Ale {b:ByteArray}:AV.cells (.sc (.string b)) = [.sc (.string b)]:=Eq.trans rfl rfl
theorem Ar2 {l:List AV}:AV.cells (.lst l) = [.lst l]:=Eq.trans rfl rfl
theorem Ar4 {k:Nat}:AV.cells (.emp k) = [.emp k]:=Eq.trans rfl rfl
theorem Ar5 {l:List AV}:AV.cells (.agg l) = l:=Eq.trans rfl rfl
theorem Ar1 {a b:Nat}:AV.cells (.ptr a b) = [.ptr a b]:=Eq.trans rfl rfl
theorem Aw8 {f:Fn} {a b:List AV}:AV.cells (.fn f a b) = [.fn f a b]:=Eq.trans rfl rfl
theorem Aw5 {id off len k:Nat} {ag:Bool} {c:Option Nat}:AV.cells (.sl id off len k ag c) = [.sl id off len k ag c]:=Eq.trans rfl rfl
attribute [simp] Ask Apj Api Akk Aet Ayz Aui Aon Ayy Ay0 Ay1 Ayv A09 A08 Ar3 Apg Ale Ar2 Ar4 Ar5 Ar1 Aw8 Aw5 splice
theorem Aag {T e:TypeId} {q:IntKind} (ht:P.underlying T = some (.slice e)) {k:Nat} (hk:tsize P e = some k) {l:List AV} {i:Nat} {x:AV} (h:l[i]? = some x) (hx:x.cells.length = k):aindexAddr P T (.lst l) (.sc (.int q i)) = some (.cptr x 0):=by
 unfold aindexAddr
 dsimp only
 rw [if_neg (by omega)]
 simp [telem,ht,h,hk,hx]
theorem Aax {T e:TypeId} {q:IntKind} (ht:P.underlying T = some (.slice e)) {k:Nat} (hk:tsize P e = some k) {id off len:Nat} {ag:Bool} {c:Option Nat} {i:Nat} (h:i < len):aindexAddr P T (.sl id off len k ag c) (.sc (.int q i)) = some (.ptr id (off + i * k)):=by
 unfold aindexAddr
 dsimp only
 rw [if_neg (by omega)]
 simp [telem,ht,h,hk]
theorem Kp.set {m m1:Mem} (h:Kp m m1) {id:Nat} (hi:m.next ≤ id) (cs:List AV):Kp m (m1.set id cs):=⟨h.next,fun j hj => by rw [Mem.get_set,if_neg (by omega)]; exact h.get j hj,h.x.same rfl rfl⟩
theorem Kp.mark {m m1:Mem} (h:Kp m m1) {id:Nat} (hi:m.next ≤ id) (cs:List AV) (v:Nat):Kp m (m1.mark id cs v):=⟨h.next,fun j hj => by rw [Mem.get_mark,if_neg (by omega)]; exact h.get j hj,h.x.same rfl rfl⟩
theorem Kp.kill {m m1:Mem} (h:Kp m m1) {id:Nat} (hi:m.next ≤ id):Kp m (m1.kill id):=⟨h.next,fun j hj => by rw [Mem.get_kill,if_neg (by omega)]; exact h.get j hj,h.x.same rfl rfl⟩
theorem Kp.newr {m m1:Mem} (h:Kp m m1) (cs:List AV) (f:Bool):Kp m (m1.new cs f):=h.trans (.new _ _ _)
theorem Abw {T e:TypeId} {q:IntKind} (ht:P.underlying T = some (.slice e)) {k:Nat} (hk:tsize P e = some k) {l:List AV} {x:AV} (hx:x.cells.length = k):aindexAddr P T (.lst (x :: l)) (.sc (.int q 0)) = some (.cptr x 0):=Aag ht hk (i:=0) rfl hx
section
variable {m:Mem}
theorem Azv {v:Value}:fz1 m (.sc v) = (.sc v,m):=Eq.trans rfl rfl
theorem Azp {v:Value}:fzv m (.sc v) = (.sc v,m):=Eq.trans rfl rfl
theorem Avf {a b:Nat}:fz1 m (.ptr a b) = (.ptr a b,m):=Eq.trans rfl rfl
theorem Avb {a b:Nat}:fzv m (.ptr a b) = (.ptr a b,m):=Eq.trans rfl rfl
theorem Avh {k:Nat}:fz1 m (.emp k) = (.lst [],m):=Eq.trans rfl rfl
theorem Avd {k:Nat}:fzv m (.emp k) = (.lst [],m):=Eq.trans rfl rfl
theorem Avg {l:List AV}:fz1 m (.lst l) = (.lst l,m):=Eq.trans rfl rfl
theorem Avc {l:List AV}:fzv m (.lst l) = (.lst l,m):=Eq.trans rfl rfl
theorem Azr {f:Fn} {a b:List AV}:fzv m (.fn f a b) = (.fn f a b,m):=Eq.trans rfl rfl
theorem Ave {cs:List AV}:fzv m (.agg cs) = (.agg (fzs m cs).1,(fzs m cs).2):=Eq.trans rfl rfl
theorem Azo {id off len k:Nat} {ag:Bool} {c:Option Nat}:fzv m (.sl id off len k ag c) = fz1 m (.sl id off len k ag c):=Eq.trans rfl rfl
end
attribute [simp] Azv Azp Avf Avb Avh Avd Avg Avc Azr Ave Azo
theorem Abi {N:Nat} {Q:Ex → Sl → Mem → Prop} {id:Nat} {ops:List Oper} {k:List It} {s:Sl} {m:Mem} (h:drawOk ⟨ops⟩ = true) (h2:go P cfg N Q (.opt ⟨ops⟩ ops [] :: k) s m):go P cfg N Q (.code (.region id ⟨ops⟩ true) :: k) s m:=by rw [Azh h]; exact .inl h2
theorem Amr {N:Nat} {Q:Ex → Sl → Mem → Prop} {all:Array Oper} {f:Nat × Nat → Bool} {k:List It} {s:Sl} {m:Mem} (h:metL all = []) (h2:go P cfg N Q k s m):goM P cfg N Q ((metL all).all f) k s m:=by rw [h]; exact ⟨rfl,h2⟩
theorem Kp.refl' {m:Mem}:Kp m m:=.refl m
theorem Kp.set_eq {m m1:Mem} {id:Nat} {cs:List AV} (hi:m.next ≤ id):Kp m (m1.set id cs) = Kp m m1:=propext ⟨fun h => ⟨h.next,fun j hj => by have:=h.get j hj; rwa [Mem.get_set,if_neg (by omega)] at this,h.x.same rfl rfl⟩,fun h => h.set hi cs⟩
theorem Kp.new_eq {m m1:Mem} {cs:List AV} {f:Bool} (hi:m.next ≤ m1.next):Kp m (m1.new cs f) = Kp m m1:=propext ⟨fun h => ⟨hi,fun j hj => by have:=h.get j hj; rwa [Mem.get_new,if_neg (by omega)] at this,h.x.same rfl rfl⟩,fun h => h.newr cs f⟩
theorem Kp.mark_eq {m m1:Mem} {id v:Nat} {cs:List AV} (hi:m.next ≤ id):Kp m (m1.mark id cs v) = Kp m m1:=propext ⟨fun h => ⟨h.next,fun j hj => by have:=h.get j hj; rwa [Mem.get_mark,if_neg (by omega)] at this,h.x.same rfl rfl⟩,fun h => h.mark hi cs v⟩
attribute [simp] Kp.refl' Kp.set_eq Kp.new_eq Kp.mark_eq Aa6 Adw Aov A10 Adk Ars Axw AV.bel AV.bels
variable {P:Program} {cfg:Cfg}
def wr:Code → List Nat
 | .region _ ops _ => ops.toList.filterMap (·.dst)
 | .seq a b => wr a ++ wr b
 | .cond _ a b => wr a ++ wr b
 | .block _ a => wr a
 | .loop a => wr a
 | _ => []
def Same (W:List Nat) (s s':Sl):Prop:=∀ t,W.contains t = false → s'.at t = s.at t
theorem Same.refl (W:List Nat) (s:Sl):Same W s s:=fun _ _ => rfl
theorem Same.trans {W:List Nat} {a b c:Sl} (h:Same W a b) (k:Same W b c):Same W a c:=fun t ht => (k t ht).trans (h t ht)
theorem Same.left {W V:List Nat} {a b:Sl} (h:Same W a b):Same (W ++ V) a b:=fun t ht => h t (by simp at ht ⊢; exact ht.1)
theorem Same.right {W V:List Nat} {a b:Sl} (h:Same V a b):Same (W ++ V) a b:=fun t ht => h t (by simp at ht ⊢; exact ht.2)
theorem At0 {N:Nat} {s s':Sl} {d:Option Tmp} {v:AV} {W:List Nat} (hd:∀ t,d = some t → t ∈ W) (h:aput N s d v = some s'):Same W s s':=by
 unfold aput at h
 split at h
 ·cases h; exact .refl _ _
 ·split at h
  ·rename_i t _ ht
   cases h
   intro u hu
   rw [Sl.at_set,if_neg]
   rintro rfl
   have:=hd _ rfl
   simp at hu
   exact hu this
  ·cases h
theorem Af4 {N:Nat} {s:Sl} {d:Option Tmp} {v:AV} {W:List Nat} {K K':Sl → Prop} (hd:∀ t,d = some t → t ∈ W) (h:wpP (aput N s d v) K) (k:∀ s',Same W s s' → K s' → K' s'):wpP (aput N s d v) K':=by
 unfold wpP at h ⊢
 split at h
 ·rename_i s' hs; exact k s' (At0 hd hs) h
 ·exact h.elim
theorem Aem {N:Nat} {all:Array Oper} {W:List Nat}:∀ (l:List Oper),(∀ o ∈ l,∀ t,o.dst = some t → t ∈ W) → ∀ (s:Sl) (m:Mem) (K:Sl → Mem → Prop),wpoU P cfg N all l s m K → wpoU P cfg N all l s m fun s' m' => K s' m' ∧ Same W s s'
 | [],hl,s,m,K,h => ⟨h,.refl _ _⟩
 | o :: l,hl,s,m,K,h => by
  simp only [wpoU] at h ⊢
  have ho:=hl o (by simp)
  have hl':∀ o ∈ l,∀ t,o.dst = some t → t ∈ W:=fun o ho => hl o (by simp [ho])
  exact Ab5 h (fun h => Aj6 h fun v m1 h => Af4 ho h fun s1 e h => Acx l s1 m1 _ _ (Aem l hl' s1 m1 K h) fun s' m' h => ⟨h.1,e.trans h.2⟩)
   (fun h => Af4 ho h fun s1 e h => Acx l s1 m _ _ (Aem l hl' s1 m K h) fun s' m' h => ⟨h.1,e.trans h.2⟩)
theorem Aix {N:Nat} {all:Array Oper} {W:List Nat}:∀ (l:List Oper),(∀ o ∈ l,∀ t,o.dst = some t → t ∈ W) → ∀ (s:Sl) (m:Mem) (acc:List (Sl × Mem)) (K:List (Sl × Mem) → Sl → Mem → Prop),wpt P cfg N all l s m acc K → wpt P cfg N all l s m acc fun a s' m' => K a s' m' ∧ Same W s s'
 | [],hl,s,m,acc,K,h => ⟨h,.refl _ _⟩
 | o :: l,hl,s,m,acc,K,h => by
  simp only [wpt] at h ⊢
  have ho:=hl o (by simp)
  have hl':∀ o ∈ l,∀ t,o.dst = some t → t ∈ W:=fun o ho => hl o (by simp [ho])
  exact Ab5 h (fun h => Ael h fun v m1 h => Af4 ho h fun s1 e h => Ac4 l s1 m1 _ _ _ (Aix l hl' s1 m1 _ K h) fun a s' m' h => ⟨h.1,e.trans h.2⟩)
   (fun h => Af4 ho h fun s1 e h => Ac4 l s1 m _ _ _ (Aix l hl' s1 m _ K h) fun a s' m' h => ⟨h.1,e.trans h.2⟩)
theorem Ati {N:Nat}:∀ {c:Code} {s:Sl} {m:Mem} {Q:Ex → Sl → Mem → Prop},wpc P cfg N c s m Q → wpc P cfg N c s m fun e s' m' => Q e s' m' ∧ Same (wr c) s s':=by
 intro c
 induction c with
 | skip => intro s m Q h; exact ⟨h,.refl _ _⟩
 | label l => intro s m Q h; exact ⟨h,.refl _ _⟩
 | exit l => intro s m Q h; exact ⟨h,.refl _ _⟩
 | ret => intro s m Q h; exact ⟨h,.refl _ _⟩
 | region id ops draw =>
  intro s m Q h
  have hw:∀ o ∈ ops.toList,∀ t,o.dst = some t → t ∈ wr (.region id ops draw):=fun o ho t ht => by
   simp only [wr,List.mem_filterMap]; exact ⟨o,ho,ht⟩
  simp only [wpc] at h ⊢
  split at h
  ·rename_i hd
   rw [if_pos hd]
   exact ⟨h.1,h.2.elim (fun h => .inl (Ac4 _ _ _ _ _ _ (Aix _ hw _ _ _ _ h) fun a s m h => ⟨h.1.1,h.1.2,h.2⟩)) fun h => .inr ⟨h.1,h.2.1,Aem _ hw _ _ _ h.2.2⟩⟩
  ·rename_i hd
   rw [if_neg hd]
   exact Aem _ hw _ _ _ h
 | seq a b iha ihb =>
  intro s m Q h
  simp only [wpc] at h ⊢
  refine Ab8 (iha h) fun e s1 m1 h => ?_
  obtain ⟨h,e1⟩:=h
  cases e with
  | normal => exact Ab8 (ihb h) fun e s2 m2 h => ⟨h.1,e1.left.trans h.2.right⟩
  | _ => exact ⟨h,e1.left⟩
 | cond c x y ihx ihy =>
  intro s m Q h
  simp only [wpc] at h ⊢
  unfold wpB at h ⊢
  split at h
  ·exact Ab5 h (fun h => Ab8 (ihx h) fun e s m h => ⟨h.1,h.2.left⟩) (fun h => Ab8 (ihy h) fun e s m h => ⟨h.1,h.2.right⟩)
  ·exact h.elim
 | block id b ih =>
  intro s m Q h
  simp only [wpc] at h ⊢
  refine Ab8 (ih h) fun e s m h => ?_
  obtain ⟨h,e1⟩:=h
  cases e with
  | exit id' =>
   simp only [blk] at h ⊢
   split at h
   ·rename_i e; rw [if_pos e]; exact ⟨h,e1⟩
   ·rename_i e; rw [if_neg e]; exact ⟨h,e1⟩
  | _ => exact ⟨h,e1⟩
 | loop b ih =>
  intro s m Q h
  simp only [wpc] at h ⊢
  obtain ⟨I,n,h1,h2⟩:=h
  refine ⟨fun n s' m' => I n s' m' ∧ Same (wr b) s s',n,⟨h1,.refl _ _⟩,fun n s1 m1 hI => Ab8 (ih (h2 n s1 m1 hI.1)) fun e s2 m2 h => ?_⟩
  obtain ⟨h,e1⟩:=h
  cases e with
  | normal => obtain ⟨n',hn,hI'⟩:=h; exact ⟨n',hn,hI',hI.2.trans e1⟩
  | _ => exact ⟨h,hI.2.trans e1⟩
 | rangeFunc g ps x y =>
  intro s m Q h
  simp only [wpc] at h ⊢
  split at h
  ·obtain ⟨hb,v,m2,h1,L,e,h2,h3,h4,h5⟩:=h
   exact ⟨hb,v,m2,h1,L,e,h2,h3,h4,h5,.refl _ _⟩
  ·exact h.elim
 | _ => intro s m Q h; exact h.elim
section
variable {N:Nat} {Q:Ex → Sl → Mem → Prop} {k:List It}
theorem Anz {b:Code} {s0:Sl} {m0:Mem} (I:Nat → Sl → Mem → Prop) (n:Nat) (h:I n s0 m0)
  (hb:∀ n s m,I n s m → Same (wr b) s0 s → ∀ Q':Ex → Sl → Mem → Prop,(∀ n' s' m',n' < n → I n' s' m' → Q' .normal s' m') → (∀ e s' m',e ≠ .normal → goE P cfg N Q k e s' m' → Q' e s' m') → go P cfg N Q' [.code b] s m):go P cfg N Q (.code (.loop b) :: k) s0 m0:=by
 refine ⟨fun n s m => I n s m ∧ Same (wr b) s0 s,n,⟨h,.refl _ _⟩,fun n s m hI => ?_⟩
 have:=hb n s m hI.1 hI.2 (thn (fun s m => ∃ n',n' < n ∧ I n' s m) (goE P cfg N Q k)) (fun n' s' m' hn hI' => ⟨n',hn,hI'⟩) fun e s' m' hne he => by
  cases e with
  | normal => exact absurd rfl hne
  | _ => exact he
 refine Ab8 (Ati this) fun e s' m' h => ?_
 obtain ⟨h,e1⟩:=h
 cases e with
 | normal => obtain ⟨n',hn,hI'⟩:=h; exact ⟨n',hn,hI',hI.2.trans e1⟩
 | _ => exact h
theorem Aas {b:Code} {s0:Sl} {m0:Mem} (ti n:Nat) (A:Nat → Sl → Mem → Prop) (h0:s0.at ti = .sc (.int .i64 0)) (hn:n ≤ 2 ^ 60) (hA:A 0 s0 m0)
  (hb:∀ i s m,i ≤ n → s.at ti = .sc (.int .i64 i) → A i s m → Same (wr b) s0 s → IntKind.i64.wrap ((i:Int) + 1) = (i:Int) + 1 → ∀ Q':Ex → Sl → Mem → Prop,(∀ s' m',i < n → s'.at ti = .sc (.int .i64 ((i:Int) + 1)) → A (i + 1) s' m' → Q' .normal s' m') → (∀ e s' m',e ≠ .normal → goE P cfg N Q k e s' m' → Q' e s' m') → go P cfg N Q' [.code b] s m):go P cfg N Q (.code (.loop b) :: k) s0 m0:=by
 refine Anz (fun j s m => ∃ i,j = n - i ∧ i ≤ n ∧ s.at ti = .sc (.int .i64 i) ∧ A i s m) n ⟨0,rfl,Nat.zero_le _,h0,hA⟩ ?_
 rintro j s m ⟨i,rfl,hi,e,hA⟩ hs Q' hq he
 refine hb i s m hi e hA hs (IntWalk.i64_in _ (by omega)) Q' (fun s' m' hlt e' hA' => hq (n - (i + 1)) s' m' (by omega) ⟨i + 1,rfl,hlt,by rw [e']; rfl,hA'⟩) he
end
theorem EH.go {N:Nat} {Q:Ex → Sl → Mem → Prop} {f:Fn} {args:List AV} {r:AV} {d:Option Tmp} {k:List It} {s:Sl} {m m1:Mem} (h1:EH P cfg f args m r m1):goH P cfg N Q f args d k s m = goP P cfg N Q (aput N s d r) k m1:=by
 apply propext
 constructor
 ·rintro ⟨v,m1,h2,h3⟩
  obtain ⟨rfl,rfl⟩:=EH.unique h1 h2
  exact h3
 ·exact fun h3 => ⟨r,m1,h1,h3⟩
theorem Aaw {f : FuncId} {fn : Func} {c : Code} {args args1 : List AV} {r : AV} {m m1 : Mem} (hf : P.funcs[f]? = some fn) (hb : fn.body = some c) (hk : cfg.hook f = none) (hka : cfg.keepArgs f = false) (hg : cfg.gc f = 1) (hz : fzvs m args = (args1, m1)) (hr : r.bel m1.next = true) (hn : fn.name ≠ "runtime.NumGoroutine") (hl : args.length ≤ fn.ntmps)
  (h:go P cfg fn.ntmps (leave P (cfg.keepRes f) fn.results.toList (fun v m' => v = r ∧ Kp m1 m')) [.code c] (Sl.putAll .nil 0 args1) m1):EH P cfg (.func f) args m r m1:=by
 have:wph P cfg (.func f) args m fun v m' => v = r ∧ m' = m1:=by
  refine Aiy hf hb hk hn hl ?_
  rw [hka,hg]
  simp only [Bool.false_eq_true,if_false,hz]
  refine Ab8 h ?_
  rintro e s' m' ⟨h2,vs,h3,h4,h5⟩
  exact ⟨h2,vs,h3,gcK_1 (by rw [h4]; exact hr) h5 ⟨h4,rfl⟩⟩
 obtain ⟨v,m',h1,rfl,rfl⟩:=this
 exact h1
theorem Abh {f:FuncId} {h:List AV → Mem → Option (AV × Mem)} {args:List AV} {m m':Mem} {v:AV} (hk:cfg.hook f = some h) (e:h args m = some (v,m')):EH P cfg (.func f) args m v m':=.of (n:=1) (by simp only [afn,hk,e])
theorem eh_of {fn:Fn} {args:List AV} {m m':Mem} {r:AV} (h:wph P cfg fn args m fun v m1 => v = r ∧ m1 = m'):EH P cfg fn args m r m':=by
 obtain ⟨v,m1,h1,rfl,rfl⟩:=h
 exact h1
end Go.V
