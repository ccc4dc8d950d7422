/- Part of a proof. -/
import Derived.Test.YthegkphhfleghaaGreatCP1
import Derived.MapKept
import Derived.Laws.BytesArg
import Derived.Lib.ConvBytes
set_option maxHeartbeats 64000000
set_option linter.unusedSimpArgs false
set_option linter.unusedVariables false
set_option linter.unusedSectionVars false
namespace Go.V
open Go.RowKit
variable {P:Program} {B:Bs} {W:World} {g:G} {m:Mem} {w:World}
theorem Aat {α:Type}:∀ (s:Sem α) (a:α),pureRun P s = some a → ∀ w,s.run P w = .ok a w:=by
 intro s
 induction s with
 | pure b => intro a h w; simp only [pureRun,Option.some.injEq] at h; subst h; rfl
 | program k ih => intro a h w; exact ih P a h w
 | mark m k ih => intro a h w; exact ih a h w
 | _ => intro a h; simp [pureRun] at h
theorem Ag3 {T:TypeId} {b:Bool} (h:tagg P T = some b) (w:World):(isAgg T).run P w = .ok b w:=by
 unfold tagg at h
 cases hu:P.underlying T with
 | none => rw [hu] at h; cases h
 | some d =>
  rw [hu] at h
  simp only [Option.map_some,Option.some.injEq] at h
  simp only [isAgg,Sem.run_bind,run_underlying hu,Result.andThen_ok]
  cases d <;> simp_all
theorem Aaw {T:TypeId} {n:Nat} (h:tsize P T = some n) (w:World):(sizeOf T).run P w = .ok n w:=by
 unfold tsize at h
 cases hi:P.info? T with
 | none => rw [hi] at h; cases h
 | some i => rw [hi] at h; simp at h; simp [sizeOf,typeInfo,hi,h]
theorem Abq {T:TypeId} {z:AV} (h:tzero P T = some z):∃ v,z = ofConst v ∧ (∀ w,(zeroValue T).run P w = .ok v w) ∧ ∃ i,P.info? T = some i ∧ i.zero = some v:=by
 unfold tzero at h
 cases hi:P.info? T with
 | none => rw [hi] at h; cases h
 | some i =>
  rw [hi] at h
  simp only [Option.bind_some] at h
  cases hz:i.zero with
  | none => rw [hz] at h; cases h
  | some v => rw [hz] at h; simp at h; exact ⟨v,h.symm,fun w => by simp [zeroValue,typeInfo,hi,hz],i,rfl,hz⟩
theorem Abk {T e:TypeId} (h:telem P T = some e):P.underlying T = some (.slice e):=by
 unfold telem at h
 split at h
 ·rename_i he; cases h; exact he
 ·cases h
theorem Aks {T:TypeId} {x:Nat × TypeId} (h:tarr P T = some x):P.underlying T = some (.array x.1 x.2):=by
 unfold tarr at h
 split at h
 ·rename_i he; cases h; exact he
 ·cases h
theorem Al7 {T:TypeId} {f:Nat} {fd:Field} (h:tfield P T f = some fd):∃ fs,P.underlying T = some (.struct fs) ∧ fs[f]? = some fd:=by
 unfold tfield at h
 split at h
 ·rename_i he; exact ⟨_,he,h⟩
 ·cases h
theorem Aju {T:TypeId} {cs:List AV} {vs:List Value} (k:Rels g cs vs) (ho:∀ u ∈ vs,u.oneCell' = true) {off:Nat} {x:AV} (h:partOf P T cs off = some x) :
  ∃ u,(∀ w,(part T vs.toArray off).run P w = .ok u w) ∧ Rel g x u:=by
 unfold partOf at h
 split at h
 ·rename_i n ha hs
  split at h
  ·rename_i hl
   cases h
   have hlen:=k.length
   refine ⟨.agg ((vs.drop off).take n).toArray,fun w => ?_,_,rfl,(k.drop off).take n,fun u hu => ho u (List.mem_of_mem_drop (List.mem_of_mem_take hu))⟩
   simp only [part,Sem.run_bind,Ag3 ha,Result.andThen_ok,if_true,Aaw hs,Sem.run_pure]
   congr 2
   apply Array.ext'
   simp [Array.toList_extract,List.extract_eq_take_drop]
  ·cases h
 ·rename_i n ha
  obtain ⟨u,h1,h2⟩:=k.get off x h
  refine ⟨u,fun w => ?_,h2⟩
  simp only [part,Sem.run_bind,Ag3 ha,Result.andThen_ok,Bool.false_eq_true,if_false]
  simp [h1]
 ·cases h
theorem Afg {T:TypeId} {cs:List AV} {vs:List Value} (k:Rels g cs vs) (ho:∀ u ∈ vs,u.oneCell' = true) {b o:Nat} (hc:∀ j v,vs[j]? = some v → w.cell? ⟨b,o + j,none⟩ = some v)
  {off:Nat} {x:AV} (h:partOf P T cs off = some x):∃ u,(loadVar T ⟨b,o + off,none⟩).run P w = .ok u w ∧ Rel g x u:=by
 unfold partOf at h
 split at h
 ·rename_i n ha hs
  split at h
  ·rename_i hl
   cases h
   have hlen:=k.length
   refine ⟨.agg ((vs.drop off).take n).toArray,?_,_,rfl,(k.drop off).take n,fun u hu => ho u (List.mem_of_mem_drop (List.mem_of_mem_take hu))⟩
   have hl2:((vs.drop off).take n).length = n:=by simp; omega
   have:=run_loadCells_list (P:=P) w ⟨b,o + off,none⟩ ((vs.drop off).take n) fun j v hv => by
    rw [List.getElem?_take] at hv
    split at hv
    ·rw [List.getElem?_drop] at hv
     have:=hc _ _ hv
     simp only [Addr.add]
     split
     ·rename_i e; subst e; simpa using this
     ·rw [Nat.add_assoc]; exact this
    ·cases hv
   rw [hl2] at this
   simp [loadVar,Ag3 ha,Aaw hs,this]
  ·cases h
 ·rename_i n ha
  obtain ⟨u,h1,h2⟩:=k.get off x h
  refine ⟨u,?_,h2⟩
  simp [loadVar,Ag3 ha,hc _ _ h1]
 ·cases h
theorem Aiq (h:WR B W g m w) {T:TypeId} {a:AV} {v:Value} (k:Rel g a v) {x:AV} (e:aload P T a m = some x) :
  ∃ u,(Instr.loadAt T v).run P w = .ok u w ∧ Rel g x u:=by
 cases a with
 | ptr id off =>
  simp only [aload] at e
  split at e
  ·rename_i cs f ver hg
   obtain ⟨vs,h1,h2,h3⟩:=h.cells hg
   simp only [Rel] at k
   obtain ⟨_,rfl⟩:=k
   obtain ⟨u,h4,h5⟩:=Afg (P:=P) h1 h2 h3 e
   exact ⟨u,by simpa [Instr.loadAt,Instr.sureAddr] using h4,h5⟩
  ·cases e
 | cptr y off =>
  simp only [aload] at e
  simp only [Rel] at k
  obtain ⟨b,o,u,h1,h2,rfl⟩:=k
  split at e
  ·rename_i hok
   obtain ⟨u',h4,h5⟩:=Afg (P:=P) h1.cells (h1.one hok) (b:=b) (o:=o) (fun j v hv => (h.fz _ _ _ (h2 j v (by simpa using hv))).1) e
   exact ⟨u',by simpa [Instr.loadAt,Instr.sureAddr] using h4,h5⟩
  ·cases e
 | _ => simp [aload] at e
theorem Ana (h:WR B W g m w) {T:TypeId} {a:AV} {va:Value} (ka:Rel g a va) {x:AV} {vx:Value} (kx:Rel g x vx) {m':Mem} (e:astore P T a x m = some m') :
  ∃ w',(Instr.storeAt T va vx).run P w = .ok () w' ∧ WR B W g m' w':=by
 cases a with
 | ptr id off =>
  simp only [astore] at e
  split at e
  ·rename_i cs ver hg
   split at e
   ·rename_i hc
    obtain ⟨hok,hs,hl⟩:=hc
    cases e
    simp only [Rel] at ka
    obtain ⟨_,rfl⟩:=ka
    obtain ⟨w',h1,h2⟩:=h.set hg off kx.cells hl (kx.one hok) P
    refine ⟨w',?_,h2⟩
    have hsz:vx.cells.size = x.cells.length:=by rw [← kx.cells.length]; simp
    simp [Instr.storeAt,Instr.sureAddr,storeVar,Aaw hs,hsz,h1]
   ·cases e
  ·cases e
 | _ => simp [astore] at e
theorem Agq (h:WR B W g m w) {x:AV} {v:Value} (k:Rel g x v) (hok:x.okc = true) (T:TypeId) :
  ∃ w' g',(newVar T v).run P w = .ok ⟨w.heap.size,0,none⟩ w' ∧ g.le g' ∧ Rel g' (.ptr m.next 0) (.pointer (some ⟨w.heap.size,0,none⟩)) ∧ WR B W g' (m.new x.cells false) w':=by
 have:=h.new (post:=[]) k.cells (k.one hok) false T
 simp only [List.append_nil,Array.toArray_toList] at this
 refine ⟨_,_,?_,G.le_new _ _ _ _ _,?_,this⟩
 ·simp only [newVar,newRow,Sem.run_bind,run_newObj,Result.andThen_ok,Sem.run_pure]; rfl
 ·rw [h.n]; exact Ahz _ _ _ _ _ _
structure SR (g:G) (N:Nat) (s:Sl) (a:Act):Prop where
 size:a.tmps.size = N
 rel:∀ t,Rel g (s.at t) (a.tmps.getD t undef)
theorem SR.mono {g':G} (h:g.le g') {N:Nat} {s:Sl} {a:Act} (k:SR g N s a):SR g' N s a:=⟨k.size,fun t => (k.rel t).mono h _ _⟩
theorem SR.ev {N:Nat} {s:Sl} {a:Act} (k:SR g N s a) (x:Operand):Rel g (ev s x) (a.eval x):=by
 cases x with
 | tmp t => exact k.rel t
 | const v => exact Aap v
 | global i => rfl
 | func f => exact ⟨[],[],rfl,.nil,.nil⟩
theorem SR.evs {N:Nat} {s:Sl} {a:Act} (k:SR g N s a):∀ xs:List Operand,Rels g (xs.map (V.ev s)) (xs.map a.eval)
 | [] => .nil
 | x :: xs => .cons (k.ev x) (SR.evs k xs)
theorem SR.set {N:Nat} {s:Sl} {a:Act} (k:SR g N s a) {x:AV} {v:Value} (h:Rel g x v) {d:Option Tmp} {s':Sl} (e:aput N s d x = some s'):SR g N s' (a.put d v):=by
 cases d with
 | none => simp only [aput,Option.some.injEq] at e; subst e; exact k
 | some d =>
  simp only [aput] at e
  split at e
  ·rename_i hd
   cases e
   refine ⟨by simpa [Act.put] using k.size,fun t => ?_⟩
   rw [Sl.at_set]
   simp only [Act.put]
   split
   ·rename_i e
    subst e
    have:t < a.tmps.size:=by rw [k.size]; exact hd
    simpa [this] using h
   ·rename_i e
    have:=k.rel t
    simpa [Array.getElem?_setIfInBounds_ne (show d ≠ t from fun x => e x.symm)] using this
  ·cases e
theorem Adb (place:Nat → Option (Nat × Nat)):∀ (ps:List (Nat × AV)) (cs:List AV) (vs:List Value) (pv:List (Nat × Value)) (cs':List AV),Rels g cs vs → (∀ u ∈ vs,u.oneCell' = true) →
  ps.map (·.1) = pv.map (·.1) → Rels g (ps.map (·.2)) (pv.map (·.2)) → fillAt place cs ps = some cs' → ∃ vs',Instr.fill place vs.toArray pv = some vs'.toArray ∧ Rels g cs' vs' ∧ ∀ u ∈ vs',u.oneCell' = true
 | [],cs,vs,pv,cs',h,ho,h1,h2,e => by
  cases pv with
  | nil => simp only [fillAt,Option.some.injEq] at e; subst e; exact ⟨vs,rfl,h,ho⟩
  | cons p pv => simp at h1
 | (i,x) :: ps,cs,vs,pv,cs',h,ho,h1,h2,e => by
  cases pv with
  | nil => simp at h1
  | cons p pv =>
   obtain ⟨i',v⟩:=p
   simp only [List.map_cons,List.cons.injEq] at h1
   obtain ⟨rfl,h1⟩:=h1
   simp only [List.map_cons,Rels,List.cons.injEq] at h2
   obtain ⟨v',rest,⟨hv',rfl⟩,hx,h2⟩:=h2
   subst hv'
   simp only [fillAt] at e
   cases hp:place i with
   | none => rw [hp] at e; cases e
   | some q =>
    obtain ⟨off,size⟩:=q
    rw [hp] at e
    simp only at e
    split at e
    ·rename_i hc
     obtain ⟨hok,hs,hl⟩:=hc
     have hcl:=hx.cells.length
     have hvl:=h.length
     simp only [Array.length_toList] at hcl
     have key:∀ (us:List Value) (j:Nat) (r:List Value),off + j + us.length ≤ r.length →
       (us.zipIdx j).foldl (fun cs (p:Value × Nat) => cs.setIfInBounds (off + p.2) p.1) r.toArray = (r.take (off + j) ++ us ++ r.drop (off + j + us.length)).toArray:=by
      intro us
      induction us with
      | nil => intro j r hr; simp
      | cons u us ih =>
       intro j r hr
       simp only [List.length_cons] at hr
       simp only [List.zipIdx_cons,List.foldl_cons,List.setIfInBounds_toArray]
       rw [ih (j + 1) (r.set (off + j) u) (by simp; omega)]
       congr 1
       have e1:(r.set (off + j) u).take (off + (j + 1)) = r.take (off + j) ++ [u]:=by
        rw [show off + (j + 1) = off + j + 1 by omega,List.take_succ_eq_append_getElem (by simp; omega)]
        rw [List.take_set_of_le (Nat.le_refl _)]
        simp
       have e2:(r.set (off + j) u).drop (off + (j + 1) + us.length) = r.drop (off + j + (us.length + 1)):=by
        rw [List.drop_set_of_lt (by omega)]
        congr 1
        omega
       rw [e1,e2]
       simp
     have hkey:=key v.cells.toList 0 vs (by simp; omega)
     simp only [Nat.add_zero] at hkey
     obtain ⟨vs',f1,f2,f3⟩:=Adb place ps (splice cs off x.cells) (vs.take off ++ v.cells.toList ++ vs.drop (off + v.cells.toList.length)) pv cs' (h.splice off hx.cells) (by
      intro u hu
      simp only [List.mem_append] at hu
      rcases hu with (hu | hu) | hu
      ·exact ho u (List.mem_of_mem_take hu)
      ·exact hx.one hok u hu
      ·exact ho u (List.mem_of_mem_drop hu)) h1 h2 e
     refine ⟨vs',?_,f2,f3⟩
     simp only [Instr.fill,hp]
     rw [if_neg (by simp; omega)]
     have hz:(v.cells.zipIdx.foldl (fun cs (p:Value × Nat) => cs.setIfInBounds (off + p.2) p.1) vs.toArray) = (v.cells.toList.zipIdx.foldl (fun cs (p:Value × Nat) => cs.setIfInBounds (off + p.2) p.1) vs.toArray):=by
      rw [← Array.foldl_toList]; simp
     have hz':(v.cells.zipIdx.foldl (fun cs x => match x with | (c,j) => cs.setIfInBounds (off + j) c) vs.toArray) = (vs.take off ++ v.cells.toList ++ vs.drop (off + v.cells.toList.length)).toArray:=hz.trans hkey
     rw [hz']
     exact f1
    ·cases e
variable {P:Program} {B:Bs} {W:World} {g:G} {m:Mem} {w:World}
theorem Acz (b o n:Nat):(⟨b,o,none⟩:Addr).add n = ⟨b,o + n,none⟩:=by
 unfold Addr.add
 split
 ·rename_i h; subst h; rfl
 ·rfl
theorem Ae9:∀ {xs:List AV} {us:List Value},scals xs = some us → ∀ {vs:List Value},Rels g xs vs → vs = us
 | [],us,h,vs,k => by simp only [scals,Option.some.injEq] at h; simp only [Rels] at k; rw [k,h]
 | x :: xs,us,h,vs,k => by
  simp only [scals] at h
  split at h
  ·rename_i a as h1 h2
   cases h
   simp only [Rels] at k
   obtain ⟨v,rest,rfl,k1,k2⟩:=k
   rw [Ae9 h2 k2]
   cases x with
   | sc u => simp only [scal,Option.some.injEq] at h1; simp only [Rel] at k1; rw [k1,h1]
   | _ => simp [scal] at h1
  ·cases h
theorem Ako {x:AV} {u v:Value} (h:scal x = some u) (k:Rel g x v):v = u:=by
 cases x with
 | sc a => simp only [scal,Option.some.injEq] at h; simp only [Rel] at k; rw [k,h]
 | _ => simp [scal] at h
theorem Ah2 {x:AV} {u v:Value} (h:plain x = some u) (k:Rel g x v):v = u:=by
 cases x with
 | sc a => simp only [plain,Option.some.injEq] at h; simp only [Rel] at k; rw [k,h]
 | agg cs =>
  simp only [plain] at h
  cases hs:scals cs with
  | none => rw [hs] at h; cases h
  | some us =>
   rw [hs] at h
   simp only [Option.map_some,Option.some.injEq] at h
   simp only [Rel] at k
   obtain ⟨vs,rfl,k1,_⟩:=k
   rw [← h,Ae9 hs k1]
 | _ => simp [plain] at h
theorem Agy {T:TypeId} {a:AV} {v:Value} (k:Rel g a v) {f:Nat} {x:AV} (e:afieldAddr P T a f = some x) (w:World) :
  ∃ u,(Instr.fieldAt T v f).run P w = .ok u w ∧ Rel g x u:=by
 unfold afieldAddr at e
 split at e
 ·rename_i fd hf
  obtain ⟨fs,hu,hfd⟩:=Al7 hf
  split at e
  ·rename_i n hs
   split at e
   ·cases e
   ·rename_i hn
    split at e
    ·rename_i id off
     cases e
     simp only [Rel] at k
     obtain ⟨h1,rfl⟩:=k
     refine ⟨.pointer (some ⟨(g.mu id).1,(g.mu id).2 + (off + fd.offset),none⟩),?_,h1,rfl⟩
     simp [Instr.fieldAt,run_underlying hu,hfd,Instr.sureAddr,fieldPlace,Aaw hs,hn,Acz,Nat.add_assoc]
    ·rename_i y off
     cases e
     simp only [Rel] at k
     obtain ⟨b,o,u,h1,h2,rfl⟩:=k
     refine ⟨.pointer (some ⟨b,o + (off + fd.offset),none⟩),?_,b,o,u,h1,h2,rfl⟩
     simp [Instr.fieldAt,run_underlying hu,hfd,Instr.sureAddr,fieldPlace,Aaw hs,hn,Acz,Nat.add_assoc]
    ·cases e
  ·cases e
 ·cases e
theorem Anj {T:TypeId} {a:AV} {v:Value} (k:Rel g a v) {f:Nat} {x:AV} (e:afield P T a f = some x) (w:World) :
  ∃ u,(Instr.field T v f).run P w = .ok u w ∧ Rel g x u:=by
 unfold afield at e
 split at e
 ·rename_i fd cs hf
  obtain ⟨fs,hu,hfd⟩:=Al7 hf
  simp only [Rel] at k
  obtain ⟨vs,rfl,h1,h2⟩:=k
  obtain ⟨u,h3,h4⟩:=Aju h1 h2 e
  exact ⟨u,by simp [Instr.field,run_underlying hu,hfd,asAgg,h3],h4⟩
 ·cases e
theorem Agx {T:TypeId} {a i:AV} {v vi:Value} (k:Rel g a v) (ki:Rel g i vi) {x:AV} (e:aindexAddr P T a i = some x) (w:World) :
  ∃ u,(Instr.indexAt T v vi).run P w = .ok u w ∧ Rel g x u:=by
 unfold aindexAddr at e
 split at e
 ·rename_i kk n
  simp only [Rel] at ki
  subst ki
  split at e
  ·cases e
  ·rename_i hn
   have hn':0 ≤ n:=by omega
   split at e
   ·rename_i el xs ht
    split at e
    ·rename_i y q hy hs
     split at e
     ·rename_i hl
      cases e
      simp only [Rel] at k
      obtain ⟨a,c,vs,kz,rfl,h1,h2,h3⟩:=k
      obtain ⟨u,h4,h5⟩:=h1.get _ _ hy
      obtain ⟨h6,b,o,rfl,h7⟩:=h3 _ _ h4
      have hlt:n.toNat < xs.length:=(List.getElem?_eq_some_iff.1 hy).1
      have hq:kz = q:=by rw [← h6,← hl,← h5.cells.length]; simp
      subst hq
      refine ⟨.pointer (some ⟨b,o + n.toNat * kz + 0,none⟩),?_,b,o + n.toNat * kz,u,h5,h7,rfl⟩
      have hc:0 ≤ n ∧ n < xs.length:=⟨hn',by omega⟩
      simp [Instr.indexAt,asIntOf,run_underlying (Abk ht),hc,Aaw hs,Acz]
     ·cases e
    ·cases e
   ·rename_i el id off len q ag cap ht
    split at e
    ·rename_i hc
     obtain ⟨hlt,hs⟩:=hc
     cases e
     simp only [Rel] at k
     obtain ⟨h1,a,c,rfl,h2,h3,_⟩:=k
     obtain ⟨rfl,_⟩:=h3 (by omega)
     refine ⟨.pointer (some ⟨(g.mu id).1,(g.mu id).2 + (off + n.toNat * q),none⟩),?_,h1,rfl⟩
     have hc:0 ≤ n ∧ n < len:=⟨hn',by omega⟩
     simp [Instr.indexAt,asIntOf,run_underlying (Abk ht),hc,Aaw hs,Acz,Nat.add_assoc]
    ·cases e
   ·rename_i id off ht
    split at e
    ·rename_i ln el ha
     split at e
     ·rename_i q hs
      split at e
      ·rename_i hlt
       cases e
       simp only [Rel] at k
       obtain ⟨h1,rfl⟩:=k
       refine ⟨.pointer (some ⟨(g.mu id).1,(g.mu id).2 + (off + n.toNat * q),none⟩),?_,h1,rfl⟩
       have hc:0 ≤ n ∧ n < (ln:Int):=⟨hn',by omega⟩
       simp [Instr.indexAt,asIntOf,run_underlying (Aks ha),hc,Instr.sureAddr,Aaw hs,Acz,Nat.add_assoc]
      ·cases e
     ·cases e
    ·cases e
   ·cases e
 ·cases e
theorem Anh {T:TypeId} {a i:AV} {v vi:Value} (k:Rel g a v) (ki:Rel g i vi) {x:AV} (e:aindex P T a i = some x) (w:World) :
  ∃ u,(Instr.index T v vi).run P w = .ok u w ∧ Rel g x u:=by
 unfold aindex at e
 split at e
 ·rename_i s kk n
  simp only [Rel] at k ki
  subst k; subst ki
  cases hp:pureRun P (Instr.index T (.string s) (.int kk n)) with
  | none => rw [hp] at e; cases e
  | some u => rw [hp] at e; cases e; exact ⟨u,Aat _ _ hp w,rfl⟩
 ·rename_i cs kk n
  simp only [Rel] at k ki
  subst ki
  obtain ⟨vs,rfl,h1,h2⟩:=k
  split at e
  ·cases e
  ·rename_i hn
   split at e
   ·rename_i ln el ha
    split at e
    ·rename_i q hs
     split at e
     ·rename_i hlt
      obtain ⟨u,h3,h4⟩:=Aju h1 h2 e
      have hc:0 ≤ n ∧ n < (ln:Int):=⟨by omega,by omega⟩
      exact ⟨u,by simp [Instr.index,asIntOf,run_underlying (Aks ha),hc,Aaw hs,h3],h4⟩
     ·cases e
    ·cases e
   ·cases e
 ·cases e
theorem Aep {T:TypeId} {v u:Value} {b:Bool} (xo yo:Operand) (hb:binOp .eql T v u = (do pure (.bool (← Op.equal T v u)))) (hn:binOp .neq T v u = (do pure (.bool (!(← Op.equal T v u)))))
  (hg:∀ op,eqGuard op T xo yo v u = pure ()) (h:∀ d w,(Op.equalIn (d + 1) T v u).run P w = .ok b w) (w:World) :
  (do eqGuard .eql T xo yo v u; binOp .eql T v u:Sem Value).run P w = .ok (.bool b) w ∧ (do eqGuard .neq T xo yo v u; binOp .neq T v u:Sem Value).run P w = .ok (.bool !b) w:=by
 have h':∀ w,(Op.equal T v u).run P w = .ok b w:=fun w => h 9999 w
 rw [hg,hg,hb,hn]
 constructor
 ·simp only [pure_bind,Sem.run_bind,h',Result.andThen_ok,Sem.run_pure]
 ·simp only [pure_bind,Sem.run_bind,h',Result.andThen_ok,Sem.run_pure]
theorem Aff {T:TypeId} {x y:AV} {v u:Value} (k:Rel g x v) (ky:Rel g y u) {b:Bool} (e:nilTest P T x y = some b) (xo yo:Operand) (w:World) :
  (do eqGuard .eql T xo yo v u; binOp .eql T v u:Sem Value).run P w = .ok (.bool b) w ∧ (do eqGuard .neq T xo yo v u; binOp .neq T v u:Sem Value).run P w = .ok (.bool !b) w:=by
 have hgp:∀ (a b:Option Addr) op,eqGuard op T xo yo (.pointer a) (.pointer b) = pure ():=fun a b op => by cases op <;> rfl
 unfold nilTest at e
 split at e
 ·rename_i el hu
  simp only [Rel] at ky
  subst ky
  split at e <;> cases e
  ·simp only [Rel] at k; obtain ⟨_,rfl⟩:=k
   exact Aep xo yo rfl rfl (hgp _ _) (fun d w => by simp only [Op.equalIn,Sem.run_bind,run_underlying hu,Result.andThen_ok]; rfl) w
  ·simp only [Rel] at k; obtain ⟨_,_,_,_,_,rfl⟩:=k
   exact Aep xo yo rfl rfl (hgp _ _) (fun d w => by simp only [Op.equalIn,Sem.run_bind,run_underlying hu,Result.andThen_ok]; rfl) w
 ·rename_i a1 a2 a3 hu
  simp only [Rel] at ky
  subst ky
  split at e <;> cases e
  ·simp only [Rel] at k; obtain ⟨_,_,rfl,_⟩:=k
   exact Aep xo yo rfl rfl (fun op => by cases op <;> rfl) (fun d w => by simp only [Op.equalIn,Sem.run_bind,run_underlying hu,Result.andThen_ok]; rfl) w
  ·simp only [Rel] at k; obtain ⟨_,rfl⟩:=k
   exact Aep xo yo rfl rfl (fun op => by cases op <;> rfl) (fun d w => by simp only [Op.equalIn,Sem.run_bind,run_underlying hu,Result.andThen_ok]; rfl) w
 ·rename_i a1 hu
  simp only [Rel] at ky
  subst ky
  split at e <;> cases e
  simp only [Rel] at k; obtain ⟨_,rfl,_⟩:=k
  exact Aep xo yo rfl rfl (fun op => by cases op <;> rfl) (fun d w => by simp only [Op.equalIn,Sem.run_bind,run_underlying hu,Result.andThen_ok]; rfl) w
 ·rename_i a1 a2 hu
  simp only [Rel] at ky
  subst ky
  split at e <;> cases e
  simp only [Rel] at k; obtain ⟨_,rfl⟩:=k
  exact Aep xo yo rfl rfl (fun op => by cases op <;> rfl) (fun d w => by simp only [Op.equalIn,Sem.run_bind,run_underlying hu,Result.andThen_ok]; rfl) w
 ·rename_i a1 hu
  simp only [Rel] at ky
  subst ky
  have hgs:∀ (a b:Option Addr) (l c l' c':Nat) op,eqGuard op T xo yo (.slice a l c) (.slice b l' c') = pure ():=fun a b l c l' c' op => by cases op <;> rfl
  split at e <;> cases e
  ·simp only [Rel] at k; subst k
   exact Aep xo yo rfl rfl (hgs _ _ _ _ _ _) (fun d w => by simp only [Op.equalIn,Sem.run_bind,run_underlying hu,Result.andThen_ok]; rfl) w
  ·simp only [Rel] at k; obtain ⟨_,_,rfl⟩:=k
   exact Aep xo yo rfl rfl (hgs _ _ _ _ _ _) (fun d w => by simp only [Op.equalIn,Sem.run_bind,run_underlying hu,Result.andThen_ok]; rfl) w
  ·simp only [Rel] at k; obtain ⟨_,_,_,rfl,_⟩:=k
   exact Aep xo yo rfl rfl (hgs _ _ _ _ _ _) (fun d w => by simp only [Op.equalIn,Sem.run_bind,run_underlying hu,Result.andThen_ok]; rfl) w
  ·simp only [Rel] at k
   obtain ⟨a,c,vs,kz,rfl,h1,_,h2⟩:=k
   simp only [Rels] at h1
   obtain ⟨v0,r0,rfl,_,_⟩:=h1
   obtain ⟨_,b,o,rfl,_⟩:=h2 0 v0 rfl
   exact Aep xo yo rfl rfl (hgs _ _ _ _ _ _) (fun d w => by simp only [Op.equalIn,Sem.run_bind,run_underlying hu,Result.andThen_ok]; rfl) w
 ·cases e
theorem Asr {op:BinOp} {T:TypeId} {xo yo:Operand} {x y:AV} {v u:Value} (k:Rel g x v) (ky:Rel g y u) {z:AV} (e:abin P op T xo yo x y = some z) (w:World) :
  ∃ r,(do eqGuard op T xo yo v u; binOp op T v u:Sem Value).run P w = .ok r w ∧ Rel g z r:=by
 unfold abin at e
 split at e
 ·rename_i a b ha hb
  have ea:=Ah2 ha k
  have eb:=Ah2 hb ky
  subst ea; subst eb
  cases hp:pureRun P (do eqGuard op T xo yo v u; binOp op T v u:Sem Value) with
  | none => rw [hp] at e; cases e
  | some r => rw [hp] at e; cases e; exact ⟨r,Aat _ _ hp w,rfl⟩
 ·split at e
  ·cases hn:nilTest P T x y with
   | none => rw [hn] at e; cases e
   | some b => rw [hn] at e; cases e; exact ⟨_,(Aff k ky hn xo yo w).1,rfl⟩
  ·cases hn:nilTest P T x y with
   | none => rw [hn] at e; cases e
   | some b => rw [hn] at e; cases e; exact ⟨_,(Aff k ky hn xo yo w).2,rfl⟩
  ·cases e
theorem Ajl:∀ {fs:List Field} {pl:List (Nat × Nat)},placesOf P fs = some pl → ∀ w,(fs.mapM (fun f => Prod.mk f.offset <$> sizeOf f.type):Sem (List (Nat × Nat))).run P w = .ok pl w
 | [],pl,h,w => by simp only [placesOf,Option.some.injEq] at h; subst h; rfl
 | f :: fs,pl,h,w => by
  simp only [placesOf] at h
  split at h
  ·rename_i n r h1 h2
   cases h
   have h3:=Ajl h2 w
   simp [List.mapM_cons,Aaw h1,h3]
  ·cases h
theorem Ano {T:TypeId} {ps:List (Nat × AV)} {pv:List (Nat × Value)} (h1:ps.map (·.1) = pv.map (·.1)) (h2:Rels g (ps.map (·.2)) (pv.map (·.2))) {x:AV} (e:abuild P T ps = some x) (w:World) :
  ∃ u,(Instr.build T pv.toArray).run P w = .ok u w ∧ Rel g x u:=by
 unfold abuild at e
 split at e
 ·rename_i z hz
  obtain ⟨v,rfl,hv,_⟩:=Abq hz
  split at e
  ·rename_i hok
   have hr:=Aap (g:=g) v
   split at e
   ·rename_i fs hu
    split at e
    ·rename_i pl hpl
     cases hf:fillAt (fun i => pl[i]?) (ofConst v).cells ps with
     | none => rw [hf] at e; cases e
     | some cs' =>
      rw [hf] at e
      cases e
      obtain ⟨vs',f1,f2,f3⟩:=Adb (fun i => pl[i]?) ps _ v.cells.toList pv cs' hr.cells (hr.one hok) h1 h2 hf
      refine ⟨.agg vs'.toArray,?_,vs',rfl,f2,f3⟩
      have hp:=Ajl hpl w
      simp [Instr.build,hv,run_underlying hu,Array.mapM_eq_mapM_toList,hp]
      simp only [Array.toArray_toList] at f1
      simp [f1]
    ·cases e
   ·rename_i n el hu
    split at e
    ·rename_i q hs
     cases hf:fillAt (fun i => some (i * q,q)) (ofConst v).cells ps with
     | none => rw [hf] at e; cases e
     | some cs' =>
      rw [hf] at e
      cases e
      obtain ⟨vs',f1,f2,f3⟩:=Adb (fun i => some (i * q,q)) ps _ v.cells.toList pv cs' hr.cells (hr.one hok) h1 h2 hf
      refine ⟨.agg vs'.toArray,?_,vs',rfl,f2,f3⟩
      simp only [Array.toArray_toList] at f1
      simp [Instr.build,hv,run_underlying hu,Aaw hs,f1]
    ·cases e
   ·cases e
  ·cases e
 ·cases e
variable {P:Program} {B:Bs} {W:World} {g:G} {m:Mem} {w:World}
def orel (g:G):Option AV → Option Value → Prop
 | some x,some v => Rel g x v
 | none,none => True
 | _,_ => False
theorem Afe:∀ {lo:Option AV} {l:Option Nat} (_:obnd lo = some l) {vlo:Option Value} (_:orel g lo vlo),(l = none ∧ vlo = none) ∨ ∃ kk i,0 ≤ i ∧ l = some i.toNat ∧ vlo = some (.int kk i)
 | none,l,h,none,_ => by simp only [obnd,Option.some.injEq] at h; exact .inl ⟨h.symm,rfl⟩
 | none,l,h,some v,k => k.elim
 | some x,l,h,none,k => by cases x <;> exact k.elim
 | some x,l,h,some v,k => by
  unfold obnd at h
  split at h
  ·rename_i heq; cases heq
  ·rename_i kk i heq
   split at h
   ·rename_i hi
    cases h
    cases heq
    simp only [orel,Rel] at k
    subst k
    exact .inr ⟨kk,i,hi,rfl,rfl⟩
   ·cases h
  ·cases h
theorem Alv (kk:IntKind) (i:Int) (y:Nat) (code:BoundsCode) (h0:0 ≤ i) (h1:i.toNat ≤ y) (w:World):(Instr.sliceBound (.int kk i) y code).run P w = .ok i.toNat w:=by
 have:0 ≤ i ∧ i ≤ y:=⟨h0,by omega⟩
 simp [Instr.sliceBound,asIntOf,this]
theorem Arg {len cap:Nat} {l h q:Option Nat} {lo hi mx:Option Value}
  (hl:(l = none ∧ lo = none) ∨ ∃ kk i,0 ≤ i ∧ l = some i.toNat ∧ lo = some (.int kk i))
  (hh:(h = none ∧ hi = none) ∨ ∃ kk i,0 ≤ i ∧ h = some i.toNat ∧ hi = some (.int kk i))
  (hq:(q = none ∧ mx = none) ∨ ∃ kk i,0 ≤ i ∧ q = some i.toNat ∧ mx = some (.int kk i))
  (c0:q.isSome = true → h.isSome = true) (c1:l.getD 0 ≤ h.getD len) (c2:h.getD len ≤ q.getD cap) (c3:q.getD cap ≤ cap) (w:World) :
  (Instr.sliceBounds true len cap lo hi mx).run P w = .ok (l.getD 0,h.getD len,q.getD cap) w:=by
 rcases hq with ⟨rfl,rfl⟩ | ⟨k3,i3,h3,rfl,rfl⟩ <;> rcases hh with ⟨rfl,rfl⟩ | ⟨k2,i2,h2,rfl,rfl⟩ <;> rcases hl with ⟨rfl,rfl⟩ | ⟨k1,i1,h1,rfl,rfl⟩ <;>
  first
  | (simp at c0; done)
  | (simp only [Option.getD_some,Option.getD_none] at c1 c2 c3 ⊢
     simp only [Instr.sliceBounds]
     simp [Alv, *])
theorem Anc {T:TypeId} {a:AV} {v:Value} (k:Rel g a v) {lo hi mx:Option AV} {vlo vhi vmx:Option Value} (kl:orel g lo vlo) (kh:orel g hi vhi) (kq:orel g mx vmx)
  {x:AV} (e:aslice P T a lo hi mx = some x) (w:World):∃ u,(Instr.sliceAt T v vlo vhi vmx).run P w = .ok u w ∧ Rel g x u:=by
 have gen:aslice1 P T a lo hi mx = some x → ∃ u,(Instr.sliceAt T v vlo vhi vmx).run P w = .ok u w ∧ Rel g x u:=by
  intro e'
  unfold aslice1 at e'
  split at e'
  ·rename_i el l h q ht hlo hhi hmx
   have bl:=Afe hlo kl
   have bh:=Afe hhi kh
   have bq:=Afe hmx kq
   have hu:=Abk ht
   split at e'
   ·rename_i ks hs
    have key:∀ (ad:Option Addr) (len cap:Nat),v = .slice ad len cap → (q.isSome = true → h.isSome = true) → l.getD 0 ≤ h.getD len → h.getD len ≤ q.getD cap → q.getD cap ≤ cap →
      (Instr.sliceAt T v vlo vhi vmx).run P w = .ok (.slice (if q.getD cap = l.getD 0 then ad else ad.map (·.add (l.getD 0 * ks))) (h.getD len - l.getD 0) (q.getD cap - l.getD 0)) w:=by
     intro ad len cap hv c0 c1 c2 c3
     subst hv
     have:=Arg (P:=P) bl bh bq c0 c1 c2 c3 w
     simp [Instr.sliceAt,run_underlying hu,Instr.slice,this,Aaw hs]
    split at e'
    ·rename_i b
     split at e'
     ·rename_i hc
      obtain ⟨c1,c2,c3⟩:=hc
      cases e'
      match b,k,c3 with
      | 0,k,_ =>
       simp only [Rel] at k
       refine ⟨_,key none 0 0 k (by simp) (by omega) (by simp [c2]) (by simp),?_⟩
       simp [c1,c2,Rel]
      | 1,k,_ =>
       simp only [Rel] at k
       obtain ⟨a,k⟩:=k
       refine ⟨_,key a 0 0 k (by simp) (by omega) (by simp [c2]) (by simp),?_⟩
       simp [c1,c2,Rel]
      | 2,k,_ =>
       simp only [Rel] at k
       obtain ⟨a,c,k⟩:=k
       refine ⟨_,key (some a) 0 c k (by simp) (by omega) (by simp [c2]) (by simp),?_⟩
       simp only [c1,c2,Rel]
       simp [Addr.add]
      | b + 3,k,c3 => omega
     ·cases e'
    ·rename_i b q'
     split at e'
     ·rename_i hc
      obtain ⟨c1,rfl,rfl⟩:=hc
      cases e'
      match b,k with
      | 0,k =>
       simp only [Rel] at k
       refine ⟨_,key none 0 0 k (by simp) (by simp [c1]) (by simp) (by simp),?_⟩
       simp [c1,Rel]
      | 1,k =>
       simp only [Rel] at k
       obtain ⟨a,k⟩:=k
       refine ⟨_,key a 0 0 k (by simp) (by simp [c1]) (by simp) (by simp),?_⟩
       simp [c1,Rel]
      | 2,k =>
       simp only [Rel] at k
       obtain ⟨a,c,k⟩:=k
       refine ⟨_,key (some a) 0 c k (by simp) (by simp [c1]) (by simp) (by simp),?_⟩
       simp [c1,Rel]
      | b + 3,k => exact k.elim
     ·cases e'
    ·rename_i xs
     split at e'
     ·rename_i hc
      obtain ⟨c1,c2,c3⟩:=hc
      cases e'
      simp only [Rel] at k
      obtain ⟨ad,c,vs,kz,k,h1,⟨h2,h2n⟩,h3⟩:=k
      refine ⟨_,key ad xs.length c k (by simp) c1 (by simp; omega) (by simp),?_⟩
      simp only [Option.getD_none]
      have hvl:=h1.length
      refine ⟨if c = l.getD 0 then ad else ad.map (·.add (l.getD 0 * ks)),c - l.getD 0,(vs.take (h.getD xs.length)).drop (l.getD 0),ks,by simp [Nat.min_eq_left c2],(h1.take _).drop _,⟨by simp [Nat.min_eq_left c2]; omega,fun e => by have:ad = none:=(by split at e; exact e; simpa using e); have:=h2n this; omega⟩,fun i u hu => ?_⟩
      rw [List.getElem?_drop,List.getElem?_take] at hu
      split at hu
      ·rename_i hlt
       obtain ⟨g1,b,o,rfl,g2⟩:=h3 _ _ hu
       obtain ⟨y,hy,hyr⟩:=h1.get' _ _ hu
       have hks:kz = ks:=by
        have:=List.all_eq_true.1 c3 y (List.mem_of_getElem? hy)
        simp only [beq_iff_eq] at this
        rw [this,← g1,← hyr.cells.length]
        simp
       subst hks
       refine ⟨g1,b,o + l.getD 0 * kz,?_,?_⟩
       ·rw [if_neg (by omega)]
        simp [Acz]
       ·have:o + l.getD 0 * kz + i * kz = o + (l.getD 0 + i) * kz:=by rw [Nat.add_mul]; omega
        rw [this]
        exact g2
      ·cases hu
     ·cases e'
    ·rename_i xs q'
     split at e'
     ·rename_i hc
      obtain ⟨rfl,c2,c3⟩:=hc
      cases e'
      simp only [Rel] at k
      obtain ⟨ad,c,vs,kz,k,h1,⟨h2,h2n⟩,h3⟩:=k
      refine ⟨_,key ad xs.length c k (by simp) (by simp) (by simp; omega) (by simp; omega),?_⟩
      simp only [Option.getD_some,Rel]
      refine ⟨ad,?_⟩
      rw [if_pos c2.symm]
      simp [c2]
     ·cases e'
    ·rename_i id off len k' ag cap
     split at e'
     ·rename_i hc
      obtain ⟨c1,c2,rfl⟩:=hc
      cases e'
      simp only [Rel] at k
      obtain ⟨hid,ad,c,k,h1,h2,h3,h4⟩:=k
      refine ⟨_,key (some ad) len c k (by simp) c1 (by simp; omega) (by simp),?_⟩
      simp only [Option.getD_none,Rel]
      refine ⟨hid,if c = l.getD 0 then ad else ad.add (l.getD 0 * k'),c - l.getD 0,?_,by omega,fun hc0 => ?_,?_,?_⟩
      ·split <;> rfl
      ·obtain ⟨rfl,h6⟩:=h2 (by omega)
       rw [if_neg (by omega),Acz]
       refine ⟨by rw [Nat.add_assoc],?_⟩
       have:(c - l.getD 0) * k' + l.getD 0 * k' = c * k':=by rw [← Nat.add_mul]; congr 1; omega
       omega
      ·intro c' hc'
       cases cap with
       | none => cases hc'
       | some c0 => simp only [Option.map_some,Option.some.injEq] at hc'; rw [h3 c0 rfl,hc']
      ·intro hc'
       cases cap with
       | some c0 => cases hc'
       | none =>
        have:=h4 rfl
        have h5:(c - l.getD 0) * k' + l.getD 0 * k' = c * k':=by rw [← Nat.add_mul]; congr 1; omega
        omega
     ·cases e'
    ·rename_i id off len k' ag cap q'
     split at e'
     ·rename_i h'
      split at e'
      ·rename_i hc
       obtain ⟨c1,c2,c3,rfl⟩:=hc
       simp only [Rel] at k
       obtain ⟨hid,ad,c,k,h1,h2,h3,h4⟩:=k
       have hrun:=key (some ad) len c k (by simp) (by simpa using c1) (by simpa using c2) (by simp; omega)
       simp only [Option.getD_some] at hrun
       split at e'
       ·rename_i hq
        cases e'
        refine ⟨_,hrun,some ad,?_⟩
        rw [if_pos hq.symm]
        congr 1 <;> omega
       ·rename_i hq
        cases e'
        refine ⟨_,hrun,hid,ad.add (l.getD 0 * k'),q' - l.getD 0,?_,by omega,fun hc0 => ?_,?_,by simp⟩
        ·rw [if_neg (by omega)]; rfl
        ·obtain ⟨rfl,h6⟩:=h2 (by omega)
         rw [Acz]
         refine ⟨by rw [Nat.add_assoc],?_⟩
         have:(q' - l.getD 0) * k' + l.getD 0 * k' = q' * k':=by rw [← Nat.add_mul]; congr 1; omega
         have:q' * k' ≤ c * k':=Nat.mul_le_mul_right _ (by omega)
         omega
        ·intro c' hc'; simpa using hc'
      ·cases e'
     ·cases e'
    ·cases e'
   ·cases e'
  ·cases e'
 cases a with
 | sc u =>
  cases u with
  | string s =>
   simp only [Rel] at k
   subst k
   simp only [aslice] at e
   split at e
   ·rename_i l h hl hh
    have e1:∀ {lo:Option AV} {vlo l:Option Value},orel g lo vlo → oscal lo = some l → vlo = l:=by
     intro lo vlo l kl hl
     cases lo with
     | none => cases vlo with
      | none => simpa [oscal] using hl
      | some v => exact kl.elim
     | some y => cases vlo with
      | none => exact kl.elim
      | some v =>
       simp only [oscal,Option.map_eq_some_iff] at hl
       obtain ⟨u,h1,rfl⟩:=hl
       rw [Ako h1 kl]
    have e3:vmx = none:=by
     cases vmx with
     | none => rfl
     | some v => exact kq.elim
    rw [e1 kl hl,e1 kh hh,e3]
    cases hp:pureRun P (Instr.sliceAt T (.string s) l h none) with
    | none => rw [hp] at e; cases e
    | some u => rw [hp] at e; cases e; exact ⟨u,Aat _ _ hp w,rfl⟩
   ·cases e
  | _ => exact gen e
 | _ => exact gen e
theorem Asp {T ty:TypeId} {a:AV} {v:Value} (k:Rel g a v) {x:AV} (e:alen P T a = some x) (w:World):∃ u,(Builtin.len_ #[T] ty #[v]).run P w = .ok u w ∧ Rel g x u:=by
 have hty:Builtin.len_ #[T] ty #[v] = Builtin.len_ #[T] 0 #[v]:=rfl
 rw [hty]
 have sl:∀ (ad:Option Addr) (n c:Nat),(telem P T).isSome = true → v = .slice ad n c → (Builtin.len_ #[T] 0 #[v]).run P w = .ok (goInt n) w:=by
  intro ad n c ht hv
  obtain ⟨el,hel⟩:=Option.isSome_iff_exists.1 ht
  subst hv
  simp [Builtin.len_,run_underlying (Abk hel)]
 cases a with
 | sc u =>
  simp only [alen] at e
  simp only [Rel] at k
  subst k
  cases hp:pureRun P (Builtin.len_ #[T] 0 #[v]) with
  | none => rw [hp] at e; cases e
  | some r => rw [hp] at e; cases e; exact ⟨r,Aat _ _ hp w,rfl⟩
 | emp n =>
  simp only [alen] at e
  split at e
  ·rename_i ht
   cases e
   match n,k with
   | 0,k => simp only [Rel] at k; exact ⟨_,sl _ _ _ ht k,rfl⟩
   | 1,k => simp only [Rel] at k; obtain ⟨_,k⟩:=k; exact ⟨_,sl _ _ _ ht k,rfl⟩
   | 2,k => simp only [Rel] at k; obtain ⟨_,_,k⟩:=k; exact ⟨_,sl _ _ _ ht k,rfl⟩
   | n + 3,k => exact k.elim
  ·cases e
 | lst xs =>
  simp only [alen] at e
  split at e
  ·rename_i ht
   cases e
   simp only [Rel] at k
   obtain ⟨a,c,vs,q,k,_⟩:=k
   exact ⟨_,sl _ _ _ ht k,rfl⟩
  ·cases e
 | sl id off len q ag cap =>
  simp only [alen] at e
  split at e
  ·rename_i ht
   cases e
   simp only [Rel] at k
   obtain ⟨_,a,c,k,_⟩:=k
   exact ⟨_,sl _ _ _ ht k,rfl⟩
  ·cases e
 | agg cs =>
  simp only [alen] at e
  cases ht:tarr P T with
  | none => rw [ht] at e; cases e
  | some n =>
   rw [ht] at e
   cases e
   refine ⟨goInt n.1,?_,rfl⟩
   simp [Builtin.len_,run_underlying (Aks ht)]
 | _ => simp [alen] at e
theorem Asq {T ty:TypeId} {a:AV} {v:Value} (k:Rel g a v) {x:AV} (e:acap P T a = some x) (w:World):∃ u,(Builtin.cap_ #[T] ty #[v]).run P w = .ok u w ∧ Rel g x u:=by
 have sl:∀ (ad:Option Addr) (n c:Nat),(telem P T).isSome = true → v = .slice ad n c → (Builtin.cap_ #[T] ty #[v]).run P w = .ok (goInt c) w:=by
  intro ad n c ht hv
  obtain ⟨el,hel⟩:=Option.isSome_iff_exists.1 ht
  subst hv
  simp [Builtin.cap_,run_underlying (Abk hel)]
 unfold acap at e
 split at e
 ·split at e
  ·rename_i ht
   cases e
   rename_i n
   match n,ht,k with
   | 0,ht,k => simp only [Rel] at k; exact ⟨_,sl _ _ _ ht.2 k,rfl⟩
   | 1,ht,k => simp only [Rel] at k; obtain ⟨_,k⟩:=k; exact ⟨_,sl _ _ _ ht.2 k,rfl⟩
   | n + 2,ht,k => omega
  ·cases e
 ·split at e
  ·rename_i ht
   cases e
   simp only [Rel] at k
   obtain ⟨_,a,c,k,_,_,h,_⟩:=k
   rw [h _ rfl] at k
   exact ⟨_,sl _ _ _ ht k,rfl⟩
  ·cases e
 ·cases e
theorem Aby {z:AV} {zv:Value} (k:Rel g z zv) (hz:0 < zv.cells.size):∀ n,Rels g (zeros z.cells n) ((List.range (n * zv.cells.size)).map fun i => zv.cells[i % zv.cells.size]!)
 | 0 => by simp [zeros,Rels]
 | n + 1 => by
  have ih:=Aby k hz n
  have:(n + 1) * zv.cells.size = zv.cells.size + n * zv.cells.size:=by rw [Nat.succ_mul]; omega
  rw [this,List.range_add,List.map_append]
  simp only [zeros]
  refine Rels.append ?_ ?_
  ·have:(List.range zv.cells.size).map (fun i => zv.cells[i % zv.cells.size]!) = zv.cells.toList:=by
    apply List.ext_getElem
    ·simp
    ·intro i h1 h2
     simp at h1
     simp [Nat.mod_eq_of_lt h1,h1]
   rw [this]
   exact k.cells
  ·rw [List.map_map]
   have:((fun i => zv.cells[i % zv.cells.size]!) ∘ fun x => zv.cells.size + x) = fun i => zv.cells[i % zv.cells.size]!:=by
    funext i
    simp
   rw [this]
   exact ih
theorem Ah4 {z:AV} {zv:Value} (k:Rel g z zv) (hok:z.okc = true) (hz:0 < zv.cells.size) (n:Nat):∀ u ∈ ((List.range (n * zv.cells.size)).map fun i => zv.cells[i % zv.cells.size]!),u.oneCell' = true:=by
 intro u hu
 obtain ⟨i,_,rfl⟩:=List.mem_map.1 hu
 refine k.one hok _ ?_
 have:i % zv.cells.size < zv.cells.size:=Nat.mod_lt _ hz
 simp [this]
theorem Ad9 (g:G) (b s l:Nat) (len k:Nat) (ag:Bool) (cap:Option Nat) (c:Nat) (h1:len ≤ c) (h2:c * k ≤ s) (h3:∀ c',cap = some c' → c = c') (h4:cap = none → l ≤ c * k) :
  Rel (g.new b 0 s l) (.sl g.n 0 len k ag cap) (.slice (some ⟨b,0,none⟩) len c):=by
 simp only [Rel]
 refine ⟨Nat.lt_succ_self _,⟨b,0,none⟩,c,rfl,h1,fun _ => ?_,h3,fun hc => ?_⟩
 ·simp [G.new,h2]
 ·simp [G.new,h4 hc]
theorem Aid (T:TypeId) (xs:List AV) (h:WR B W g m w) {vs:List Value} (k:Rels g xs vs):∃ g',g.le g' ∧ WR B W g' (fzx P T m xs).2 w ∧ Rels g' (fzx P T m xs).1 vs:=by
 unfold fzx
 split
 ·exact ⟨g,.refl g,h,k⟩
 ·exact Abn xs h k
theorem Aee (P:Program) (T:TypeId) (l:List AV) (m:Mem):(fzx P T m l).1.length = l.length:=by
 have:∀ (l:List AV) (m:Mem),(fzvs m l).1.length = l.length:=by
  intro l
  induction l with
  | nil => intro m; rfl
  | cons a l ih => intro m; simp [fzvs,ih]
 unfold fzx
 split
 ·rfl
 ·exact this l m
theorem fzx_f {T:TypeId} (h:nofz P T = false) {l:List AV} {m:Mem}:fzx P T m l = fzvs m l:=by unfold fzx; rw [h]; rfl
theorem fzx_t {T:TypeId} (h:nofz P T = true) {l:List AV} {m:Mem}:fzx P T m l = (l,m):=by unfold fzx; rw [h]; rfl
theorem Agm (h:WR B W g m w) {T:TypeId} {len:Nat} {ps:List (Nat × AV)} {pv:List (Nat × Value)} (h1:ps.map (·.1) = pv.map (·.1)) (h2:Rels g (ps.map (·.2)) (pv.map (·.2)))
  {x:AV} {m':Mem} (e:abuildSlice P T len ps m = some (x,m')) :
  ∃ u w' g',(Instr.buildSlice T len pv.toArray).run P w = .ok u w' ∧ g.le g' ∧ Rel g' x u ∧ WR B W g' m' w':=by
 unfold abuildSlice at e
 split at e
 ·rename_i el ht
  split at e
  ·rename_i k z ag hs hz hag
   split at e
   ·rename_i hc
    obtain ⟨c1,c2,c3,c4⟩:=hc
    obtain ⟨zv,hzv,hzr,_⟩:=Abq hz
    dsimp only at e
    obtain ⟨g1,l1,w1,r1⟩:=Aid (P:=P) T _ h h2
    generalize hfz:fzx P T m (ps.map (·.2)) = fz at *
    obtain ⟨ps',m1⟩:=fz
    dsimp only at e w1 r1
    cases hf:fillAt (fun i => some (i * k,k)) (zeros z.cells len) ((ps.map (·.1)).zip ps') with
    | none => rw [hf] at e; cases e
    | some cs' =>
     rw [hf] at e
     simp only [Option.map_some,Option.some.injEq,Prod.mk.injEq] at e
     obtain ⟨rfl,rfl⟩:=e
     have hr:Rel g1 z zv:=by rw [hzv]; exact Aap zv
     have hzs:zv.cells.size = k:=by rw [← c3,← hr.cells.length]; simp
     have hl1:(ps.map (·.1)).length = ps'.length:=by
      have a1:=h2.length; have a2:=r1.length
      simp at a1 a2 ⊢
      omega
     obtain ⟨vs',f1,f2,f3⟩:=Adb (fun i => some (i * k,k)) ((ps.map (·.1)).zip ps') (zeros z.cells len) _ pv cs' (Aby hr (by omega) len) (Ah4 hr c2 (by omega) len)
      (by rw [← h1,List.map_fst_zip (by omega)]) (by rw [List.map_snd_zip (by omega)]; exact r1) hf
     have hnew:=w1.new (post:=[]) f2 f3 false el
     simp only [List.append_nil] at hnew
     have hlen:vs'.length = len * k:=by
      have key:∀ (ps:List (Nat × AV)) (cs cs':List AV),fillAt (fun i => some (i * k,k)) cs ps = some cs' → cs'.length = cs.length:=by
       intro ps
       induction ps with
       | nil => intro cs cs' h; simp only [fillAt,Option.some.injEq] at h; rw [h]
       | cons p ps ih =>
        intro cs cs' h
        simp only [fillAt] at h
        split at h
        ·rename_i hc'
         rw [ih _ _ h]
         simp [splice]
         omega
        ·cases h
      rw [f2.length,key _ _ _ hf,← (Aby hr (by omega) len).length]
      simp [hzs]
     refine ⟨.slice (some ⟨w.heap.size,0,none⟩) len len,_,_,?_,l1.trans (G.le_new _ _ _ _ _),?_,hnew⟩
     ·have hbig:¬ (2 ^ 24 < len * k):=by omega
      have hzc:zv.cells.size ≠ 0:=by omega
      simp only [Instr.buildSlice,Sem.run_bind,run_underlying (Abk ht),Result.andThen_ok,Aaw hs]
      rw [if_neg hbig]
      by_cases h0:len * k = 0
      ·have hl0:len = 0:=by
        rcases Nat.mul_eq_zero.1 h0 with h | h
        ·exact h
        ·omega
       subst hl0
       rw [if_pos h0]
       simp only [Nat.zero_mul,List.range_zero,List.map_nil] at f1
       have ha:(Array.map (fun x => (#[]:Array Value)[x % (#[]:Array Value).size]!) (Array.range (0 * k))) = ([]:List Value).toArray:=by simp
       simp only [pure_bind,ha,f1,Sem.run_bind,newRow,run_newObj,Result.andThen_ok,Sem.run_pure]
       rfl
      ·rw [if_neg h0]
       have ha:((Array.range (len * k)).map fun i => zv.cells[i % zv.cells.size]!) = ((List.range (len * zv.cells.size)).map fun i => zv.cells[i % zv.cells.size]!).toArray:=by
        rw [hzs]
        apply Array.ext'
        simp
       simp only [Sem.run_bind,hzr,Result.andThen_ok,pure_bind,ha,f1,newRow,run_newObj,Sem.run_pure]
       rfl
     ·have:=w1.n
      rw [this]
      exact Ad9 g1 _ _ _ len k ag (some len) len (Nat.le_refl _) (by rw [hlen]; exact Nat.le_refl _) (by intro c' hc'; simpa using hc') (by simp)
   ·cases e
  ·cases e
 ·cases e
variable {P:Program} {B:Bs} {W:World} {g:G} {m:Mem} {w:World}
theorem Aiz (z:Array Value) (n:Nat):(madeCells z n) = ((List.range n).map fun i => z[i % z.size]!).toArray:=by
 apply Array.ext'
 simp [madeCells]
theorem Aiu (z:Array Value) (n:Nat):(Builtin.zeroCells z n) = ((List.range (n * z.size)).map fun i => z[i % z.size]!).toArray:=by
 apply Array.ext'
 simp [Builtin.zeroCells]
theorem Aur {T:TypeId} {k b:Nat} {z:AV} (hs:tsize P T = some k) (hb:tbytes P T = some b) (hz:tzero P T = some z):∃ i v,P.info? T = some i ∧ i.size = k ∧ i.bytes = b ∧ i.zero = some v ∧ z = ofConst v:=by
 obtain ⟨v,h1,_,i,h2,h3⟩:=Abq hz
 unfold tsize at hs
 unfold tbytes at hb
 rw [h2] at hs hb
 simp at hs hb
 exact ⟨i,v,h2,hs,hb,h3,h1⟩
theorem Agw (h:WR B W g m w) {T:TypeId} {l c:AV} {vl vc:Value} (kl:Rel g l vl) (kc:Rel g c vc) {x:AV} {m':Mem} (e:amakeSlice P T l c m = some (x,m')) :
  ∃ u w' g',(Instr.makeSlice T vl vc).run P w = .ok u w' ∧ g.le g' ∧ Rel g' x u ∧ WR B W g' m' w':=by
 unfold amakeSlice at e
 split at e
 ·rename_i el l c ht
  simp only [Rel] at kl kc
  subst kl; subst kc
  split at e
  ·rename_i k by_ z ag hs hb hz hag
   split at e
   ·rename_i hc
    obtain ⟨c1,c2,c3,c4,c5,c6,c7⟩:=hc
    cases e
    obtain ⟨i,zv,hi,hsz,hby,hzz,hzc⟩:=Aur hs hb hz
    have hr:Rel g z zv:=by rw [hzc]; exact Aap zv
    have hzs:zv.cells.size = k:=by rw [← c3,← hr.cells.length]; simp
    have hb1:(i.bytes:Int) * c ≤ 281474976710656:=by
     have h1:((c.toNat * by_:Nat):Int) ≤ 1099511627776:=by omega
     rw [Int.natCast_mul,Int.toNat_of_nonneg (by omega),Int.mul_comm,← hby] at h1
     omega
    have hrun:=run_make (P:=P) w T el i zv (Abk ht) hi hzz .i64 .i64 l c c4 c5 hb1 (by omega)
    rw [hsz,Aiz,← hzs] at hrun
    have hnew:=h.new (post:=[]) (Aby hr (by omega) c.toNat) (Ah4 hr c2 (by omega) c.toNat) false el
    simp only [List.append_nil] at hnew
    refine ⟨_,_,_,hrun,G.le_new _ _ _ _ _,?_,hnew⟩
    rw [h.n]
    refine Ad9 g _ _ _ l.toNat k ag (some c.toNat) c.toNat (by omega) ?_ (by intro c' hc'; simpa using hc') (by simp)
    simp [hzs]
   ·cases e
  ·cases e
 ·cases e
structure Src (P:Program) (w:World) (T u e:TypeId) (k b:Nat) (z:Value) (x:Value) (n:Nat) (news:List Value):Prop where
 here:∀ base sLen sCap ty,sLen + n ≤ sCap → (Builtin.append_ #[T,u] ty #[.slice base sLen sCap,x]).run P w =
  ((match base with | some a => storeCells (a.add (sLen * k)) news | none => pure ()).run P w).andThen fun _ w' => .ok (.slice base (sLen + n) sCap) w'
 grow:∀ base sLen sCap ty (olds:List Value),sCap < sLen + n → sLen + n ≤ 2 ^ 46 → (sLen + n) * b ≤ 2 ^ 46 → (Builtin.firstCells k sLen (.slice base sLen sCap)).run P w.drew = .ok olds.toArray w.drew →
  (Builtin.append_ #[T,u] ty #[.slice base sLen sCap,x]).run P w = .ok (.slice (some ⟨w.heap.size,0,none⟩) (sLen + n) (grownCap w (sLen + n) sCap e))
   (w.drew.alloc (.cells (olds ++ news ++ (Builtin.zeroCells z.cells (grownCap w (sLen + n) sCap e - (sLen + n))).toList).toArray e))
theorem Ax2 {T u e:TypeId} {k b:Nat} {z x:Value} {n:Nat} {news:List Value} {d:TypeDesc} {i:TypeInfo} (ht:P.underlying T = some (.slice e)) (hu:P.underlying u = some d) (hd:∀ q,d ≠ .int q)
  (hi:P.info? e = some i) (hs:i.size = k) (hb:i.bytes = b) (hz:i.zero = some z) (hl:(Builtin.lenOf x).run P w = .ok n w)
  (h1:(Builtin.firstCells k n x).run P w = .ok news.toArray w) (h2:(Builtin.firstCells k n x).run P w.drew = .ok news.toArray w.drew):Src P w T u e k b z x n news:=by
 have hm:(match d with | .int _ => true | _ => false) = false:=by cases d <;> first | rfl | exact (hd _ rfl).elim
 subst hs; subst hb
 constructor
 ·intro base sLen sCap ty hn
  cases base <;> simp [Builtin.append_,run_underlying ht,run_underlying hu,hm,sizeOf,typeInfo,hi,hl,hn,h1]
 ·intro base sLen sCap ty olds hg h63 h46 ho
  have hn:¬ (sLen + n ≤ sCap):=by omega
  have h63':¬ (9223372036854775807 < ((sLen:Int) + (n:Int))):=by omega
  have hfit:=growslice_fits hg (show (sLen + n) * i.bytes ≤ 140737488355328 by omega)
  have h48':¬ (281474976710656 < Builtin.nextslicecap (sLen + n) sCap * i.bytes):=by omega
  simp [Builtin.append_,run_underlying ht,run_underlying hu,hm,sizeOf,typeInfo,zeroValue,hi,hz,hl,hn,h63',h48',Question.forced,h2,ho,newRow,grownCap]
  congr 2
  apply Array.ext'
  simp [List.append_assoc]
theorem Ati {T u e:TypeId} {k b:Nat} {z:Value} {n:Nat} {q:IntKind} {i:TypeInfo} (ht:P.underlying T = some (.slice e)) (hu:P.underlying u = some (.int q))
  (hi:P.info? e = some i) (hs:i.size = k) (hb:i.bytes = b) (hz:i.zero = some z) (hzk:z.cells.size = k) (h40:n ≤ 2 ^ 40) (hnb:n * b ≤ 2 ^ 46):Src P w T u e k b z (.int .i64 (n:Int)) n ((List.range (n * k)).map fun i => z.cells[i % k]!):=by
 have hw:IntKind.i64.wrap (n:Int) = n:=IntWalk.i64_in _ ⟨by omega,by omega⟩
 have hneg:¬ ((n:Int) < 0):=by omega
 subst hs; subst hb
 have hbig:¬ (281474976710656 < (n:Int) * (i.bytes:Int)):=by
  have:((n * i.bytes:Nat):Int) ≤ 70368744177664:=by omega
  rw [Int.natCast_mul] at this
  omega
 have hzc:Builtin.zeroCells z.cells n = ((List.range (n * i.size)).map fun j => z.cells[j % i.size]!).toArray:=by rw [Aiu,hzk]
 have happ:∀ w',(if n * i.size = 0 then (pure #[]:Sem (Array Value)) else do pure (Builtin.zeroCells (← zeroValue e).cells n)).run P w' = .ok ((List.range (n * i.size)).map fun j => z.cells[j % i.size]!).toArray w':=by
  intro w'
  by_cases h0:n * i.size = 0
  ·rw [if_pos h0,h0]; rfl
  ·rw [if_neg h0]; simp [zeroValue,typeInfo,hi,hz,hzc]
 constructor
 ·intro base sLen sCap ty hn
  by_cases h0:n * i.size = 0
  ·cases base <;> simp [Builtin.append_,run_underlying ht,run_underlying hu,sizeOf,typeInfo,hi,asInt,asIntOf,hw,hneg,hbig,hn,h0,storeCells]
  ·cases base <;> simp [Builtin.append_,run_underlying ht,run_underlying hu,sizeOf,typeInfo,zeroValue,hz,hi,asInt,asIntOf,hw,hneg,hbig,hn,h0,hzc]
 ·intro base sLen sCap ty olds hg h63 h46 ho
  have hn:¬ (sLen + n ≤ sCap):=by omega
  have h63':¬ (9223372036854775807 < ((sLen:Int) + (n:Int))):=by omega
  have hfit:=growslice_fits hg (show (sLen + n) * i.bytes ≤ 140737488355328 by omega)
  have h48':¬ (281474976710656 < Builtin.nextslicecap (sLen + n) sCap * i.bytes):=by omega
  by_cases h0:n * i.size = 0
  ·simp [Builtin.append_,run_underlying ht,run_underlying hu,sizeOf,typeInfo,zeroValue,hi,hz,asInt,asIntOf,hw,hneg,hbig,hn,h63',h48',Question.forced,h0,ho,newRow,grownCap]
   congr 2
   apply Array.ext'
   simp
  ·simp [Builtin.append_,run_underlying ht,run_underlying hu,sizeOf,typeInfo,zeroValue,hi,hz,asInt,asIntOf,hw,hneg,hbig,hn,h63',h48',Question.forced,h0,ho,newRow,grownCap,hzc]
   congr 2
   apply Array.ext'
   simp [List.append_assoc]
theorem WR.extend (h:WR B W g m w) {id:Nat} {cs:List AV} {f:Bool} {ver:Nat} (k:m.get id = some (.cells cs f ver)) (off q:Nat) (hq:off + q ≤ cs.length) (hf:f = true → off + q = cs.length)
  {xs:List AV} {us:List Value} (hx:Rels g xs us) (h1:∀ u ∈ us,u.oneCell' = true) (hroom:(g.mu id).2 + off + q + us.length ≤ g.sz id) (hz:off = 0) (P:Program) :
  ∃ w',(storeCells ⟨(g.mu id).1,(g.mu id).2 + off + q,none⟩ us).run P w = .ok () w' ∧
   WR B W (g.new (g.mu id).1 ((g.mu id).2 + off) (g.sz id) (q + xs.length)) ((m.kill id).new ((cs.drop off).take q ++ xs) f) w':=by
 obtain ⟨hb,⟨pre,vs,post,el,h2,h3,h4,h5,h7⟩,h6⟩:=h.objs id cs f ver k
 have hlen:=h4.length
 have hus:=hx.length
 have hid:=h.ids id _ k
 have hst:=run_storeCells_at P (g.mu id).1 ((g.mu id).2 + off + q) el us 0 (pre ++ vs ++ post).toArray w h2 (by rw [List.size_toArray]; omega) h1
 refine ⟨_,hst,?_⟩
 have hw:∀ b,b ≠ (g.mu id).1 → (w.setRow (g.mu id).1 ((pre ++ vs ++ post).toArray.toList.take ((g.mu id).2 + off + q + 0) ++ us ++ (pre ++ vs ++ post).toArray.toList.drop ((g.mu id).2 + off + q + 0 + us.length)).toArray).heap[b]? = w.heap[b]?:=by
  intro b hb'
  simp only [World.setRow,Array.getElem?_modify]
  rw [if_neg (by omega)]
 have hw2:=setRow_heap w (g.mu id).1 (pre ++ vs ++ post).toArray ((pre ++ vs ++ post).toArray.toList.take ((g.mu id).2 + off + q + 0) ++ us ++ (pre ++ vs ++ post).toArray.toList.drop ((g.mu id).2 + off + q + 0 + us.length)).toArray el (0,0) h2
 generalize hW:w.setRow (g.mu id).1 _ = w' at *
 have hsize:w'.heap.size = w.heap.size:=by rw [← hW]; simp [World.setRow]
 have hos:w'.os = w.os ∧ w'.tape = w.tape ∧ w'.output = w.output:=by rw [← hW]; exact ⟨rfl,rfl,rfl⟩
 simp only [List.toList_toArray,Nat.add_zero] at hw2
 have e1:(pre ++ vs ++ post).take ((g.mu id).2 + off + q) = pre ++ vs.take off ++ (vs.drop off).take q:=by
  have e3:pre.take (pre.length + (off + q)) = pre:=List.take_of_length_le (by omega)
  have e4:(vs ++ post).take (off + q) = vs.take (off + q):=List.take_append_of_le_length (by omega)
  have e5:vs.take (off + q) = vs.take off ++ (vs.drop off).take q:=List.take_add
  rw [← h3,Nat.add_assoc,List.append_assoc,List.take_append,e3,Nat.add_sub_cancel_left,e4,e5,List.append_assoc]
 have hw3:w'.heap[(g.mu id).1]? = some (.cells ((pre ++ vs.take off) ++ ((vs.drop off).take q ++ us) ++ (pre ++ vs ++ post).drop ((g.mu id).2 + off + q + us.length)).toArray el (0,0)):=by
  rw [hw2,e1]
  simp [List.append_assoc]
 have hlow:∀ o,o < (g.mu id).2 + off + q → w'.cell? ⟨(g.mu id).1,o,none⟩ = w.cell? ⟨(g.mu id).1,o,none⟩:=by
  intro o ho
  unfold World.cell?
  simp only [hw2,h2,Option.isSome_none,Bool.false_eq_true,if_false,List.getElem?_toArray]
  have hl:((pre ++ vs ++ post).take ((g.mu id).2 + off + q)).length = (g.mu id).2 + off + q:=by rw [List.length_take]; omega
  rw [List.append_assoc,List.getElem?_append_left (by omega),List.getElem?_take,if_pos ho]
 have hle:=G.le_new g (g.mu id).1 ((g.mu id).2 + off) (g.sz id) (q + xs.length)
 have hmu:(g.new (g.mu id).1 ((g.mu id).2 + off) (g.sz id) (q + xs.length)).mu g.n = ((g.mu id).1,(g.mu id).2 + off):=by simp [G.new]
 have hold:∀ j,j < g.n → (g.new (g.mu id).1 ((g.mu id).2 + off) (g.sz id) (q + xs.length)).mu j = g.mu j:=hle.mu
 have hget:∀ j,((m.kill id).new ((cs.drop off).take q ++ xs) f).get j = if j = g.n then some (.cells ((cs.drop off).take q ++ xs) f (m.clock + 1)) else if j = id then none else m.get j:=by
  intro j
  rw [Mem.get_new,Mem.get_kill]
  simp only [Mem.next_kill,h.n]
  rfl
 have hltb:(g.mu id).1 < w.heap.size:=h.block_lt k
 have hcells:∀ (b:Nat) (o:Obj),w.heap[b]? = some o → o.isCells = false → w'.heap[b]? = some o:=by
  intro b o ho hc
  rw [hw b (by rintro rfl; rw [h2] at ho; cases ho; cases hc)]
  exact ho
 refine ⟨h.below.trans ⟨hos.1,hos.2.1,hos.2.2,by omega,fun b hb' => hw b (by omega)⟩,by rw [hsize]; exact h.base,by simp [G.new,h.n],?_,?_,?_,?_,h.x.step hle rfl rfl rfl rfl hcells rfl fun b o _ p => ⟨(hw b fun e => p.obj id (by rw [k]; rfl) e.symm).trans p.here,p.fz,fun i hi => ?_⟩⟩
 ·intro j o hj
  rw [hget] at hj
  show j < g.n + 1
  split at hj
  ·omega
  ·split at hj
   ·cases hj
   ·have:=h.ids j o hj; omega
 ·intro j cs' f' ver' hj
  rw [hget] at hj
  split at hj
  ·rename_i e
   subst e
   simp only [Option.some.injEq,AObj.cells.injEq] at hj
   obtain ⟨rfl,rfl,_⟩:=hj
   refine ⟨⟨by rw [hmu]; exact hb.1,by simp [G.new]; omega,by rw [hmu]; have:=hb.2.2; show (g.mu id).2 + off = 0; omega⟩,⟨pre ++ vs.take off,(vs.drop off).take q ++ us,_,el,by rw [hmu]; exact hw3,by rw [hmu]; simp; omega,(((h4.drop off).take q).append hx).mono hle,?_,?_⟩,fun o v hv => ?_⟩
   ·have hd:(pre ++ vs ++ post).length = pre.length + vs.length + post.length:=by rw [List.length_append,List.length_append]
    simp only [G.new,if_true]
    rw [← h5]
    simp only [List.length_append,List.length_take,List.length_drop]
    omega
   ·intro u hu
    rcases List.mem_append.1 hu with hu | hu
    ·exact h7 u (List.mem_of_mem_drop (List.mem_of_mem_take hu))
    ·exact h1 u hu
   ·rw [hmu] at hv ⊢
    have:=h6 o v hv
    refine ⟨this.1,?_⟩
    have:=hf this.1
    simp
    omega
  ·split at hj
   ·cases hj
   ·rename_i e1' e2'
    have hlt:=h.ids j _ hj
    refine ObjR.world (w:=w) (ObjR.mono hle hlt (h.objs j cs' f' ver' hj) (fun _ _ hv => hv)) ?_
    rw [hold j hlt]
    exact hw _ fun e' => e2' (h.inj j id (by rw [hj]; rfl) (by rw [k]; rfl) e')
 ·have other:∀ j,j ≠ g.n → (((m.kill id).new ((cs.drop off).take q ++ xs) f).get j).isSome = true → (m.get j).isSome = true ∧ j ≠ id ∧ j < g.n:=by
   intro j hj hs
   rw [hget,if_neg hj] at hs
   split at hs
   ·cases hs
   ·rename_i hne
    obtain ⟨o,ho⟩:=Option.isSome_iff_exists.1 hs
    exact ⟨hs,hne,h.ids j o ho⟩
  intro i j hi hj he
  by_cases ei:i = g.n <;> by_cases ej:j = g.n
  ·rw [ei,ej]
  ·obtain ⟨a1,a2,a3⟩:=other j ej hj
   rw [ei,hmu,hold j a3] at he
   exact absurd (h.inj j id a1 (by rw [k]; rfl) he.symm) a2
  ·obtain ⟨a1,a2,a3⟩:=other i ei hi
   rw [ej,hmu,hold i a3] at he
   exact absurd (h.inj i id a1 (by rw [k]; rfl) he) a2
  ·obtain ⟨a1,a2,a3⟩:=other i ei hi
   obtain ⟨b1,b2,b3⟩:=other j ej hj
   rw [hold i a3,hold j b3] at he
   exact h.inj i j a1 b1 he
 ·intro b o v hv
  refine ⟨?_,(h.fz b o v hv).2⟩
  have hc:=(h.fz b o v hv).1
  by_cases hbb:b = (g.mu id).1
  ·subst hbb
   have h8:=h6 o v hv
   rw [hlow o (by have:=hf h8.1; omega)]
   exact hc
  ·unfold World.cell? at hc ⊢
   simp only at hc ⊢
   rw [hw b hbb]
   exact hc
 ·rw [hget] at hi
  split at hi
  ·rename_i e; rw [e,hmu]; exact p.obj id (by rw [k]; rfl)
  ·split at hi
   ·cases hi
   ·obtain ⟨o',ho'⟩:=Option.isSome_iff_exists.1 hi
    rw [hold i (h.ids i o' ho')]
    exact p.obj i hi
variable {P:Program} {B:Bs} {W:World} {g:G} {m:Mem} {w:World}
theorem Aag {α β:Type}:∀ (s:Sem α) (f:α → Sem β),pureRun P (s >>= f) = (pureRun P s).bind fun a => pureRun P (f a):=by
 intro s
 induction s with
 | pure a => intro f; rfl
 | program k ih => intro f; exact ih P f
 | mark q k ih => intro f; exact ih f
 | _ => intro f; rfl
theorem Af8 {T:TypeId} {x:TypeId × TypeId} (h:tmap P T = some x):P.underlying T = some (.map x.1 x.2):=by
 unfold tmap at h
 split at h
 ·rename_i he; cases h; exact he
 ·cases h
theorem Ents.keys:∀ {l:List (Value × AV × Nat)} {es:List MapEntry},Ents g l es → es.map (·.key) = l.map (·.1)
 | [],es,h => by simp only [Ents] at h; subst h; rfl
 | x :: l,es,h => by
  obtain ⟨v,es',rfl,_,h⟩:=h
  simp [Ents.keys h]
theorem Ents.length {l:List (Value × AV × Nat)} {es:List MapEntry} (h:Ents g l es):es.length = l.length:=by
 have:=congrArg List.length h.keys
 simpa using this
theorem Ents.get:∀ {l:List (Value × AV × Nat)} {es:List MapEntry},Ents g l es → ∀ (i:Nat) (x:Value × AV × Nat),l[i]? = some x → ∃ v,es[i]? = some ⟨x.1,v,x.2.2⟩ ∧ Rel g x.2.1 v
 | [],es,h,i,x,hx => by simp at hx
 | y :: l,es,h,i,x,hx => by
  obtain ⟨v,es',rfl,h1,h2⟩:=h
  cases i with
  | zero => simp at hx; subst hx; exact ⟨v,rfl,h1⟩
  | succ i => simpa using Ents.get h2 i x (by simpa using hx)
theorem Ents.set:∀ {l:List (Value × AV × Nat)} {es:List MapEntry},Ents g l es → ∀ (i:Nat) (k:Value) (x:AV) (v:Value) (b:Nat),Rel g x v → Ents g (l.set i (k,x,b)) (es.set i ⟨k,v,b⟩)
 | [],es,h,i,k,x,v,b,hx => by simp only [Ents] at h; subst h; simp [Ents]
 | y :: l,es,h,i,k,x,v,b,hx => by
  obtain ⟨u,es',rfl,h1,h2⟩:=h
  cases i with
  | zero => exact ⟨v,es',rfl,hx,h2⟩
  | succ i => exact ⟨u,es'.set i ⟨k,v,b⟩,by simp,h1,Ents.set h2 i k x v b hx⟩
theorem Ents.snoc:∀ {l:List (Value × AV × Nat)} {es:List MapEntry},Ents g l es → ∀ (k:Value) (x:AV) (v:Value) (b:Nat),Rel g x v → Ents g (l ++ [(k,x,b)]) (es ++ [⟨k,v,b⟩])
 | [],es,h,k,x,v,b,hx => by simp only [Ents] at h; subst h; exact ⟨v,[],rfl,hx,rfl⟩
 | y :: l,es,h,k,x,v,b,hx => by
  obtain ⟨u,es',rfl,h1,h2⟩:=h
  exact ⟨u,es' ++ [⟨k,v,b⟩],by simp,h1,Ents.snoc h2 k x v b hx⟩
theorem Ents.erase:∀ {l:List (Value × AV × Nat)} {es:List MapEntry},Ents g l es → ∀ (i:Nat),Ents g (l.eraseIdx i) (es.eraseIdx i)
 | [],es,h,i => by simp only [Ents] at h; subst h; simp [Ents]
 | y :: l,es,h,i => by
  obtain ⟨u,es',rfl,h1,h2⟩:=h
  cases i with
  | zero => exact h2
  | succ i => exact ⟨u,es'.eraseIdx i,by simp,h1,Ents.erase h2 i⟩
theorem Ents.find:∀ {l:List (Value × AV × Nat)} {es:List MapEntry},Ents g l es → ∀ (p:Nat → Bool),es.findIdx? (fun e => p e.born) = l.findIdx? fun x => p x.2.2
 | [],es,h,p => by simp only [Ents] at h; subst h; rfl
 | y :: l,es,h,p => by
  obtain ⟨u,es',rfl,h1,h2⟩:=h
  simp [List.findIdx?_cons,Ents.find h2 p]
def blank (k:Value):MapEntry:=⟨k,undef,0⟩
theorem Aj5 (d:TypeDesc) (k:Value):∀ (es:List MapEntry) (i:Nat) (r:Option (Nat × Value)),Instr.findNow d k ((es.map (·.key)).map blank) i = some r →
  Instr.findNow d k es i = some (r.map fun x => (x.1,((es[x.1 - i]?).map (·.val)).getD undef)) ∧ ∀ x,r = some x → i ≤ x.1
 | [],i,r,h => by
  simp only [List.map_nil,Instr.findNow,Option.some.injEq] at h
  subst h
  exact ⟨rfl,fun x hx => by cases hx⟩
 | e :: es,i,r,h => by
  simp only [List.map_cons,Instr.findNow,blank] at h ⊢
  cases hs:Instr.sameNow d k e.key with
  | none => rw [hs] at h; cases h
  | some t =>
   rw [hs] at h
   cases t with
   | true =>
    simp only [Option.some.injEq] at h ⊢
    subst h
    exact ⟨by simp,fun x hx => by cases hx; exact Nat.le_refl _⟩
   | false =>
    obtain ⟨h1,h2⟩:=Aj5 d k es (i + 1) r h
    refine ⟨?_,fun x hx => by have:=h2 x hx; omega⟩
    dsimp only
    rw [h1]
    congr 1
    cases r with
    | none => rfl
    | some x =>
     have:=h2 x rfl
     obtain ⟨q,hq⟩:∃ q,x.1 - i = q + 1:=⟨x.1 - i - 1,by omega⟩
     simp only [Option.map_some]
     rw [hq,List.getElem?_cons_succ,show x.1 - (i + 1) = q by omega]
theorem Agt (d:TypeDesc) (k:Value):∀ (es:List MapEntry) (i:Nat),Instr.findNow d k ((es.map (·.key)).map blank) i = none → Instr.findNow d k es i = none
 | [],i,h => by simp [Instr.findNow] at h
 | e :: es,i,h => by
  simp only [List.map_cons,Instr.findNow,blank] at h ⊢
  cases hs:Instr.sameNow d k e.key with
  | none => rfl
  | some t =>
   rw [hs] at h
   cases t with
   | true => cases h
   | false => exact Agt d k es (i + 1) h
theorem Afk (T:TypeId) (k:Value) (w:World):∀ (es:List MapEntry) (i:Nat) (r:Option (Nat × Value)),pureRun P (Instr.findAsking T k ((es.map (·.key)).map blank) i) = some r →
  (Instr.findAsking T k es i).run P w = .ok (r.map fun x => (x.1,((es[x.1 - i]?).map (·.val)).getD undef)) w ∧ ∀ x,r = some x → i ≤ x.1
 | [],i,r,h => by
  simp only [List.map_nil,Instr.findAsking] at h ⊢
  cases h
  exact ⟨rfl,fun x hx => by cases hx⟩
 | e :: es,i,r,h => by
  simp only [List.map_cons,Instr.findAsking,blank] at h ⊢
  rw [Aag] at h
  cases hs:pureRun P (Op.equal T k e.key) with
  | none => rw [hs] at h; cases h
  | some t =>
   rw [hs] at h
   simp only [Option.bind_some] at h
   rw [Sem.run_bind,Aat _ _ hs w,Result.andThen_ok]
   cases t with
   | true =>
    cases h
    exact ⟨by simp,fun x hx => by cases hx; exact Nat.le_refl _⟩
   | false =>
    obtain ⟨h1,h2⟩:=Afk T k w es (i + 1) r h
    refine ⟨?_,fun x hx => by have:=h2 x hx; omega⟩
    simp only [Bool.false_eq_true,if_false]
    rw [h1]
    congr 1
    cases r with
    | none => rfl
    | some x =>
     have:=h2 x rfl
     obtain ⟨q,hq⟩:∃ q,x.1 - i = q + 1:=⟨x.1 - i - 1,by omega⟩
     simp only [Option.map_some]
     rw [hq,List.getElem?_cons_succ,show x.1 - (i + 1) = q by omega]
theorem Abo {T:TypeId} {k:Value} {es:List MapEntry} {r:Option Nat} (h:afind P T k (es.map (·.key)) = some r) (w:World) :
  (Instr.findKey T k es).run P w = .ok (r.map fun i => (i,((es[i]?).map (·.val)).getD undef)) w:=by
 unfold afind at h
 cases hu:P.underlying T with
 | none => rw [hu] at h; cases h
 | some d =>
  rw [hu] at h
  dsimp only at h
  have e0:((es.map (·.key)).map fun x => (⟨x,undef,0⟩:MapEntry)) = (es.map (·.key)).map blank:=rfl
  rw [e0] at h
  unfold Instr.findKey
  rw [Sem.run_bind,run_underlying hu,Result.andThen_ok]
  cases hn:Instr.findNow d k ((es.map (·.key)).map blank) 0 with
  | some x =>
   rw [hn] at h
   cases h
   rw [(Aj5 d k es 0 x hn).1]
   cases x <;> rfl
  | none =>
   rw [hn] at h
   simp only [Option.map_eq_some_iff] at h
   obtain ⟨x,hx,rfl⟩:=h
   rw [Agt d k es 0 hn]
   rw [(Afk T k w es 0 x hx).1]
   cases x <;> rfl
theorem Ahg {T:TypeId} {e:Bool} {k:AV} {v u:Value} (h:akey P T e k = some v) (r:Rel g k u) (w:World):u = v ∧ (Instr.checkKey e 10000 T v).run P w = .ok () w:=by
 unfold akey at h
 split at h
 ·rename_i x hx
  split at h
  ·rename_i hc
   cases h
   obtain ⟨q,hq⟩:=Option.isSome_iff_exists.1 hc
   exact ⟨Ah2 hx r,by cases q; exact Aat _ _ hq w⟩
  ·cases h
 ·cases h
def lookRest (kt et:TypeId) (vk:Value) (ok:Bool) (es:Array MapEntry):Sem Value:=do
 Instr.checkKey es.isEmpty 10000 kt vk
 let (v,ok') ← match ← Instr.findKey kt vk es.toList with
  | some (_,v) => pure (v,true)
  | none => pure (← zeroValue et,false)
 pure (if ok then .tuple #[v,.bool ok'] else v)
theorem Alc (h:WR B W g m w) {T:TypeId} {x k:AV} {vx vk:Value} (rx:Rel g x vx) (rk:Rel g k vk) {ok:Bool} {r:AV} (e:alookup P T x k ok m = some r) :
  ∃ u,(Instr.lookup T vx vk ok).run P w = .ok u w ∧ Rel g r u:=by
 unfold alookup at e
 split at e
 ·rename_i kt et ht
  have hu:=Af8 ht
  split at e
  ·rename_i es hes
   obtain ⟨es',hrun,hE⟩:∃ es':List MapEntry,(Instr.lookup T vx vk ok).run P w = (lookRest kt et vk ok es'.toArray).run P w ∧ Ents g es es':=by
    unfold amapOf at hes
    split at hes
    ·rename_i id
     simp only [Option.map_eq_some_iff] at hes
     obtain ⟨M,hM,rfl⟩:=hes
     obtain ⟨_,_,es',h2,h3⟩:=h.x.mids id M hM
     simp only [Rel] at rx
     obtain ⟨_,rfl⟩:=rx
     refine ⟨es',?_,h3⟩
     unfold Instr.lookup
     rw [Sem.run_bind,run_underlying hu,Result.andThen_ok]
     dsimp only
     rw [Sem.run_bind]
     simp only [getObj,Sem.run,h2,Result.andThen_ok]
     rfl
    ·cases hes
     simp only [Rel] at rx
     subst rx
     refine ⟨[],?_,rfl⟩
     unfold Instr.lookup
     rw [Sem.run_bind,run_underlying hu,Result.andThen_ok]
     rfl
    ·cases hes
   have hemp:es'.toArray.isEmpty = es.isEmpty:=by
    have:=hE.length
    cases es <;> cases es' <;> simp_all
   split at e
   ·rename_i kv hk
    obtain ⟨rfl,hck⟩:=Ahg hk rk w
    rw [hrun]
    unfold lookRest
    rw [hemp,Sem.run_bind,hck,Result.andThen_ok]
    rw [← hE.keys] at e
    split at e
    ·rename_i i hf
     split at e
     ·rename_i v hv
      cases e
      obtain ⟨u,h1,h2⟩:=hE.get i _ hv
      have hfk:=Abo hf w
      rw [Sem.run_bind]
      simp only [hfk,Result.andThen_ok,Option.map_some,h1,Option.getD_some,Sem.run_pure,pure_bind]
      cases ok with
      | true => exact ⟨_,rfl,⟨[u,.bool true],by simp,.cons h2 (.one rfl)⟩⟩
      | false => exact ⟨_,rfl,h2⟩
     ·cases e
    ·rename_i hf
     simp only [Option.map_eq_some_iff] at e
     obtain ⟨z,hz,rfl⟩:=e
     obtain ⟨zv,rfl,hz2,_⟩:=Abq hz
     have hfk:=Abo hf w
     rw [Sem.run_bind]
     simp only [hfk,Result.andThen_ok,Option.map_none,Sem.run_bind,hz2,Sem.run_pure,pure_bind]
     cases ok with
     | true => exact ⟨_,rfl,⟨[zv,.bool false],by simp,.cons (Aap _) (.one rfl)⟩⟩
     | false => exact ⟨_,rfl,Aap _⟩
    ·cases e
   ·cases e
  ·cases e
 ·cases e
theorem keyStays {old new:Value} (h:Instr.sameBits 10000 old new = true) (w:World):(Instr.keyThatStays old new).run P w = .ok new w:=by
 unfold Instr.keyThatStays
 rw [if_pos h]
 rfl
theorem Aga {α:Type} (l:List α) (i:Nat) (f:α → α) (x:α) (h:l[i]? = some x):l.modify i f = l.set i (f x):=by
 apply List.ext_getElem?
 intro j
 rw [List.getElem?_modify,List.getElem?_set]
 by_cases e:i = j
 ·subst e
  obtain ⟨h1,h2⟩:=List.getElem?_eq_some_iff.1 h
  simp [h1,h2]
 ·simp [e]
theorem Abm {r:Nat} {es:List MapEntry} {c:Nat} (h:w.heap[r]? = some (.map es.toArray c)):(getObj r).run P w = .ok (.map es.toArray c) w:=by simp [getObj,Sem.run,h]
theorem Aa9 {r:Nat} {es:Array MapEntry} {c:Nat} (o':Obj) (h:w.heap[r]? = some (.map es c)):(setObj r o').run P w = .ok () (w.putObj r o'):=by simp [setObj,Sem.run,h,World.putObj]
theorem Adv (h:WR B W g m w) {T:TypeId} {x k v:AV} {vx vk vv:Value} (rx:Rel g x vx) (rk:Rel g k vk) (rv:Rel g v vv) {m':Mem} (e:amapUpdate P T x k v m = some m') :
  ∃ w',(Instr.mapUpdate T vx vk vv).run P w = .ok () w' ∧ WR B W g m' w':=by
 unfold amapUpdate at e
 split at e
 ·rename_i kt et id ht
  have hu:=Af8 ht
  simp only [Rel] at rx
  obtain ⟨_,rfl⟩:=rx
  split at e
  ·rename_i M kv hM hk
   obtain ⟨rfl,hck⟩:=Ahg hk rk w
   obtain ⟨_,_,es,h2,hE⟩:=h.x.mids id M hM
   have hlt:=(Array.getElem?_eq_some_iff.1 h2).1
   unfold Instr.mapUpdate
   rw [Sem.run_bind,run_underlying hu,Result.andThen_ok]
   dsimp only
   rw [Sem.run_bind,Abm h2,Result.andThen_ok]
   dsimp only
   rw [Sem.run_bind,hck,Result.andThen_ok]
   rw [← hE.keys] at e
   split at e
   ·rename_i i hf
    split at e
    ·rename_i k0 x0 b0 hv
     split at e
     ·rename_i hsb
      cases e
      obtain ⟨u,h1,_⟩:=hE.get i _ hv
      have hfk:=Abo hf w
      have hmod:es.toArray.modify i (fun e => { e with key:=vk,val:=vv }) = (es.set i ⟨vk,vv,b0⟩).toArray:=by
       rw [List.modify_toArray,Aga es i _ _ h1]
      refine ⟨_,?_,WR.setMap h hM (hE.set i vk v vv b0 rv) M.ck⟩
      rw [Sem.run_bind]
      simp only [hfk,Result.andThen_ok,Option.map_some,List.getElem?_toArray,h1,Option.getD_some]
      rw [Sem.run_bind,keyStays hsb,Result.andThen_ok,hmod,Aa9 _ h2]
     ·cases e
    ·cases e
   ·rename_i hf
    cases e
    have hfk:=Abo hf w
    refine ⟨_,?_,WR.setMap h hM (hE.snoc vk v vv M.ck rv) (M.ck + 1)⟩
    rw [Sem.run_bind]
    simp only [hfk,Result.andThen_ok,Option.map_none,List.push_toArray]
    rw [Aa9 _ h2]
   ·cases e
  ·cases e
 ·cases e
theorem Aio (h:WR B W g m w) {T:TypeId} {x k:AV} {vx vk:Value} (rx:Rel g x vx) (rk:Rel g k vk) {r:AV} {m':Mem} (e:amapEntry P T x k m = some (r,m')) :
  ∃ u w',(Instr.mapEntry T vx vk).run P w = .ok u w' ∧ Rel g r u ∧ WR B W g m' w':=by
 unfold amapEntry at e
 split at e
 ·rename_i kt et id ht
  have hu:=Af8 ht
  simp only [Rel] at rx
  obtain ⟨_,rfl⟩:=rx
  split at e
  ·rename_i M kv hM hk
   obtain ⟨rfl,hck⟩:=Ahg hk rk w
   obtain ⟨_,_,es,h2,hE⟩:=h.x.mids id M hM
   have hlt:=(Array.getElem?_eq_some_iff.1 h2).1
   unfold Instr.mapEntry
   rw [Sem.run_bind,run_underlying hu,Result.andThen_ok]
   dsimp only
   rw [Sem.run_bind,Abm h2,Result.andThen_ok]
   dsimp only
   rw [Sem.run_bind,hck,Result.andThen_ok]
   rw [← hE.keys] at e
   split at e
   ·rename_i i hf
    split at e
    ·rename_i k0 x0 b0 hv
     split at e
     ·rename_i hsb
      cases e
      obtain ⟨u,h1,hr⟩:=hE.get i _ hv
      have hfk:=Abo hf w
      have hmod:es.toArray.modify i (fun e => { e with key:=vk }) = (es.set i ⟨vk,u,b0⟩).toArray:=by
       rw [List.modify_toArray,Aga es i _ _ h1]
      refine ⟨.tuple #[u,goInt b0],_,?_,⟨[u,goInt b0],by simp,.cons hr (.one rfl)⟩,WR.setMap h hM (hE.set i vk x0 u b0 hr) M.ck⟩
      rw [Sem.run_bind]
      simp only [hfk,Result.andThen_ok,Option.map_some,List.getElem?_toArray,h1,Option.getD_some]
      rw [Sem.run_bind,keyStays hsb,Result.andThen_ok,hmod,Sem.run_bind,Aa9 _ h2]
      rfl
     ·cases e
    ·cases e
   ·rename_i hf
    simp only [Option.map_eq_some_iff,Prod.mk.injEq] at e
    obtain ⟨z,hz,rfl,rfl⟩:=e
    obtain ⟨zv,rfl,hz2,_⟩:=Abq hz
    have hfk:=Abo hf w
    refine ⟨.tuple #[zv,goInt M.ck],_,?_,⟨[zv,goInt M.ck],by simp,.cons (Aap _) (.one rfl)⟩,WR.setMap h hM (hE.snoc vk _ zv M.ck (Aap _)) (M.ck + 1)⟩
    rw [Sem.run_bind]
    simp only [hfk,Result.andThen_ok,Option.map_none,List.push_toArray]
    rw [Sem.run_bind,hz2,Result.andThen_ok,Sem.run_bind,Aa9 _ h2]
    rfl
   ·cases e
  ·cases e
 ·cases e
theorem Agl (h:WR B W g m w) {T:TypeId} {x k v:AV} {vx vk vv:Value} (rx:Rel g x vx) (rk:Rel g k vk) (rv:Rel g v vv) {m':Mem} (e:aentryStore x k v m = some m') :
  ∃ w',(Instr.entryStore T vx vk vv).run P w = .ok () w' ∧ WR B W g m' w':=by
 unfold aentryStore at e
 split at e
 ·rename_i id kd born
  simp only [Rel] at rx rk
  obtain ⟨_,rfl⟩:=rx
  subst rk
  split at e
  ·rename_i M hM
   obtain ⟨_,_,es,h2,hE⟩:=h.x.mids id M hM
   split at e
   ·rename_i i hf
    split at e
    ·rename_i k0 x0 b0 hv
     cases e
     obtain ⟨u,h1,hr⟩:=hE.get i _ hv
     have hfi:=hE.find fun b => (b:Int) == born
     rw [hf] at hfi
     have hmod:es.toArray.modify i (fun e => { e with val:=vv }) = (es.set i ⟨k0,vv,b0⟩).toArray:=by
      rw [List.modify_toArray,Aga es i _ _ h1]
     refine ⟨_,?_,WR.setMap h hM (hE.set i k0 v vv b0 rv) M.ck⟩
     unfold Instr.entryStore
     dsimp only
     rw [Sem.run_bind,Abm h2,Result.andThen_ok]
     dsimp only
     rw [Sem.run_bind]
     simp only [asInt,asIntOf,pure_bind,Sem.run_pure,Result.andThen_ok,List.findIdx?_toArray,hfi]
     rw [hmod,Aa9 _ h2]
    ·cases e
   ·cases e
  ·cases e
 ·cases e
theorem Ald (h:WR B W g m w) {T:TypeId} {ts:Array TypeId} (hts:ts[0]? = some T) (ty:TypeId) {x k:AV} {vx vk:Value} (rx:Rel g x vx) (rk:Rel g k vk) {r:AV} {m':Mem} (e:adelete P T x k m = some (r,m')) :
  ∃ u w',(Builtin.delete_ ts ty #[vx,vk]).run P w = .ok u w' ∧ Rel g r u ∧ WR B W g m' w':=by
 unfold adelete at e
 split at e
 ·rename_i kt et id ht
  have hu:=Af8 ht
  simp only [Rel] at rx
  obtain ⟨_,rfl⟩:=rx
  split at e
  ·rename_i M hM
   obtain ⟨_,_,es,h2,hE⟩:=h.x.mids id M hM
   have hlt:=(Array.getElem?_eq_some_iff.1 h2).1
   have hemp:es.toArray.isEmpty = M.es.isEmpty:=by
    have:=hE.length
    cases es <;> cases hq:M.es <;> simp_all
   split at e
   ·rename_i kv hk
    obtain ⟨rfl,hck⟩:=Ahg hk rk w
    unfold Builtin.delete_
    simp only [hts,List.getElem?_toArray,List.getElem?_cons_zero,List.getElem?_cons_succ]
    rw [Sem.run_bind,run_underlying hu,Result.andThen_ok]
    dsimp only
    rw [Sem.run_bind,Abm h2,Result.andThen_ok]
    dsimp only
    rw [hemp,Sem.run_bind,hck,Result.andThen_ok]
    rw [← hE.keys] at e
    split at e
    ·rename_i i hf
     cases e
     have hfk:=Abo hf w
     have her:es.toArray.eraseIdxIfInBounds i = (es.eraseIdx i).toArray:=by simp
     refine ⟨.tuple #[],_,?_,⟨[],rfl,.nil⟩,WR.setMap h hM (hE.erase i) M.ck⟩
     rw [Sem.run_bind]
     simp only [hfk,Result.andThen_ok,Option.map_some,her]
     rw [Sem.run_bind,Aa9 _ h2]
     rfl
    ·rename_i hf
     cases e
     have hfk:=Abo hf w
     refine ⟨.tuple #[],_,?_,⟨[],rfl,.nil⟩,WR.setMap h hM hE M.ck⟩
     rw [Sem.run_bind]
     simp only [hfk,Result.andThen_ok,Option.map_none]
     rw [Sem.run_bind,Aa9 _ h2]
     rfl
    ·cases e
   ·cases e
  ·cases e
 ·cases e
theorem Ai6 (h:WR B W g m w) {T:TypeId} {x:Option AV} {v:Option Value} (rx:orel g x v) {r:AV} {m':Mem} (e:amakeMap P T x m = some (r,m')) :
  ∃ u w' g',(Instr.makeMap T v).run P w = .ok u w' ∧ g.le g' ∧ Rel g' r u ∧ WR B W g' m' w':=by
 unfold amakeMap at e
 have fin:(r,m') = (.mp m.next,m.newMap) → ∃ u w' g',(pure (.map (some w.heap.size)):Sem Value).run P (w.alloc (.map #[] 0)) = .ok u w' ∧ g.le g' ∧ Rel g' r u ∧ WR B W g' m' w':=by
  intro e
  cases e
  refine ⟨_,_,_,rfl,G.le_new g w.heap.size 0 0 0,?_,h.newMap⟩
  rw [h.n]
  exact Af5 g _
 split at e
 ·rename_i ht
  cases v with
  | some _ => exact rx.elim
  | none =>
   cases e
   have:=fin rfl
   unfold Instr.makeMap
   simpa [Sem.run_bind] using this
 ·rename_i y k n ht
  cases v with
  | none => exact rx.elim
  | some v =>
   have:v = .int k n:=by simpa [orel,Rel] using rx
   subst this
   cases e
   have:=fin rfl
   obtain ⟨a,b⟩:=y
   have hu:=Af8 ht
   unfold Instr.makeMap
   simpa [Sem.run_bind,run_underlying hu,asInt,asIntOf] using this
 ·cases e
variable {P:Program} {B:Bs} {W:World} {g:G} {m:Mem} {w:World}
theorem Ad5 {ys:List AV} {us:List Value} {k:Nat} (h:Rels g ys us) (ha:(ys.all fun v => v.okc && v.cells.length == k) = true):(∀ u ∈ us,u.cells.size = k) ∧ ∀ c ∈ vflat us,c.oneCell' = true:=by
 have key:∀ u ∈ us,u.cells.size = k ∧ ∀ c ∈ u.cells.toList,c.oneCell' = true:=by
  intro u hu
  obtain ⟨i,hi⟩:=List.getElem?_of_mem hu
  obtain ⟨y,hy,hr⟩:=h.get' i u hi
  have:=List.all_eq_true.1 ha y (List.mem_of_getElem? hy)
  simp only [Bool.and_eq_true,beq_iff_eq] at this
  exact ⟨by rw [← this.2,← hr.cells.length]; simp,hr.one this.1⟩
 refine ⟨fun u hu => (key u hu).1,fun c hc => ?_⟩
 simp only [vflat,List.mem_flatMap] at hc
 obtain ⟨u,hu,hcu⟩:=hc
 exact (key u hu).2 c hcu
theorem Afr (h:WR B W g m w) {T u:TypeId} {s:AV} {vs x:Value} (ks:Rel g s vs) {zs:Option Nat} {src:Option (List AV)} {r:AV} {m':Mem} (e:aappend P T s zs src m = some (r,m')) (ty:TypeId)
  (hsrc:∀ el k by_ z zv ys0,telem P T = some el → tsize P el = some k → tbytes P el = some by_ → tzero P el = some z → z = ofConst zv → z.cells.length = k → 0 < k → P.underlying T = some (.slice el) → (∃ i,P.info? el = some i ∧ i.size = k ∧ i.bytes = by_ ∧ i.zero = some zv) →
   (match zs with | some n => (tzero P el).map (List.replicate n) | Option.none => src) = some ys0 → (ys0.all fun v => v.okc && v.cells.length == k) = true → (ys0 ≠ [] → ys0.length * by_ ≤ 2 ^ 46) →
   ∃ us,Rels g ys0 us ∧ Src P w T u el k by_ zv x ys0.length (vflat us)) :
  ∃ v w' g',(Builtin.append_ #[T,u] ty #[vs,x]).run P w = .ok v w' ∧ g.le g' ∧ Rel g' r v ∧ WR B W g' m' w':=by
 unfold aappend at e
 split at e
 ·rename_i el ht
  split at e
  ·rename_i k by_ z ag ys0 hs hb hz hag hys
   split at e
   ·rename_i hc
    obtain ⟨c1,c2,c3⟩:=hc
    obtain ⟨i,zv,hi,hsz,hby,hzz,hzc⟩:=Aur hs hb hz
    split at e
    ·-- nothing is appended
     obtain ⟨us,r1,S⟩:=hsrc el k by_ z zv [] ht hs hb hz hzc c2 c1 (Abk ht) ⟨i,hi,hsz,hby,hzz⟩ hys c3 (by simp)
     have hus:us = []:=by simpa [Rels] using r1
     subst hus
     have same:∀ (ad:Option Addr) (n c:Nat),vs = .slice ad n c → n ≤ c → (Builtin.append_ #[T,u] ty #[vs,x]).run P w = .ok vs w:=by
      intro ad n c hv hn
      subst hv
      rw [S.here ad n c ty (by simpa using hn)]
      cases ad <;> simp [vflat,storeCells]
     split at e
     ·cases e
      rename_i n
      match n,ks with
      | 0,ks => have:=ks; simp only [Rel] at this; exact ⟨vs,w,g,same _ _ _ this (Nat.le_refl _),.refl g,ks,h⟩
      | 1,ks => have:=ks; simp only [Rel] at this; obtain ⟨_,this⟩:=this; exact ⟨vs,w,g,same _ _ _ this (Nat.le_refl _),.refl g,ks,h⟩
      | 2,ks => have:=ks; simp only [Rel] at this; obtain ⟨_,_,this⟩:=this; exact ⟨vs,w,g,same _ _ _ this (Nat.zero_le _),.refl g,ks,h⟩
      | n + 3,ks => exact ks.elim
     ·cases e
      have:=ks
      simp only [Rel] at this
      obtain ⟨a,c,_,_,hv,_,hn,_⟩:=this
      exact ⟨vs,w,g,same _ _ _ hv hn.1,.refl g,ks,h⟩
     ·cases e
      have:=ks
      simp only [Rel] at this
      obtain ⟨_,a,c,hv,hn,_⟩:=this
      exact ⟨vs,w,g,same _ _ _ hv hn,.refl g,ks,h⟩
     ·cases e
    ·rename_i hne
     have hne':ys0 ≠ []:=fun e' => hne e'
     dsimp only at e
     generalize hfz:fzx P T m ys0 = fz at *
     obtain ⟨ys,m1⟩:=fz
     dsimp only at e
     have hyl:ys.length = ys0.length:=by
      have:=Aee P T ys0 m
      rw [hfz] at this
      exact this
     have hpos:0 < ys0.length:=List.length_pos_iff.2 hne'
     have grown:∀ (ad:Option Addr) (len c:Nat) (olds:List AV) (ovs:List Value) (g1:G) (m2:Mem) (f:Bool) (us:List Value),vs = .slice ad len c → WR B W g1 m2 w → g.le g1 → m2.next = g1.n → Rels g1 olds ovs → (∀ u ∈ ovs,u.oneCell' = true) → olds.length = len * k → Rels g ys0 us → Rels g1 ys us →
       Src P w T u el k by_ zv x ys0.length (vflat us) → c < len + ys0.length → len + ys0.length ≤ 2 ^ 46 → (len + ys0.length) * by_ ≤ 2 ^ 46 →
       (Builtin.firstCells k len (.slice ad len c)).run P w.drew = .ok ovs.toArray w.drew →
       ∃ v w' g',(Builtin.append_ #[T,u] ty #[vs,x]).run P w = .ok v w' ∧ g.le g' ∧ Rel g' (.sl m2.next 0 (len + ys.length) k ag Option.none) v ∧ WR B W g' (m2.new (olds ++ flat ys) f) w':=by
      intro ad len c olds ovs g1 m2 f us hv w1 l1 hn1 ro oo lo r0 r1 S hg h63 h46 hf
      obtain ⟨hk1,hk2⟩:=Ad5 r0 c3
      subst hv
      have hrun:=S.grow ad len c ty ovs hg h63 h46 hf
      have hcap:=grownCap_ge w (len + ys0.length) c el
      have hnew:=(w1.drew).new (post:=(Builtin.zeroCells zv.cells (grownCap w (len + ys0.length) c el - (len + ys0.length))).toList) (ro.append (Abs r1)) (fun u hu => by
       rcases List.mem_append.1 hu with hu | hu
       ·exact oo u hu
       ·exact hk2 u hu) f el
      refine ⟨_,_,_,hrun,l1.trans (G.le_new _ _ _ _ _),?_,hnew⟩
      ·rw [hyl,hn1]
       have hvl:=Ab3 k us hk1
       have hul:=r0.length
       have hzk:zv.cells.size = k:=by
        have:Rel g z zv:=by rw [hzc]; exact Aap zv
        rw [← c2,← this.cells.length]; simp
       refine Ad9 g1 _ _ _ _ _ _ _ _ hcap ?_ (by simp) (fun _ => ?_)
       ·simp only [List.length_append,Array.length_toList,size_zeroCells,hzk,hvl,ro.length,lo,hul]
        rw [Nat.sub_mul,Nat.add_mul]
        have:(len + ys0.length) * k ≤ grownCap w (len + ys0.length) c el * k:=Nat.mul_le_mul_right _ hcap
        rw [Nat.add_mul] at this
        omega
       ·have:(olds ++ flat ys).length = (len + ys0.length) * k:=by
         rw [List.length_append,lo,← (Abs r1).length,hvl,hul,Nat.add_mul]
        rw [this]
        exact Nat.mul_le_mul_right _ hcap
     have srcs:ys0.length * by_ ≤ 2 ^ 46 → ∃ us g1,Rels g ys0 us ∧ Src P w T u el k by_ zv x ys0.length (vflat us) ∧ g.le g1 ∧ WR B W g1 m1 w ∧ Rels g1 ys us:=by
      intro hb46
      obtain ⟨us,r0,S⟩:=hsrc el k by_ z zv ys0 ht hs hb hz hzc c2 c1 (Abk ht) ⟨i,hi,hsz,hby,hzz⟩ hys c3 (fun _ => hb46)
      obtain ⟨g1,l1,w1,r1⟩:=Aid (P:=P) T ys0 h r0
      rw [hfz] at w1 r1
      exact ⟨us,g1,r0,S,l1,w1,r1⟩
     split at e
     ·split at e
      ·rename_i hc'
       cases e
       rw [hyl] at hc'
       obtain ⟨us,g1,r0,S,l1,w1,r1⟩:=srcs hc'.1
       simp only [Rel] at ks
       have:=grown none 0 0 [] [] g1 m1 false us ks w1 l1 w1.n .nil (by simp) (by simp) r0 r1 S (by omega) (by omega) (by simpa using hc'.1) (by simp [Builtin.firstCells])
       simpa using this
      ·cases e
     ·split at e
      ·rename_i hc'
       cases e
       rw [hyl] at hc'
       obtain ⟨us,g1,r0,S,l1,w1,r1⟩:=srcs hc'.1
       simp only [Rel] at ks
       obtain ⟨a,ks⟩:=ks
       have:=grown a 0 0 [] [] g1 m1 false us ks w1 l1 w1.n .nil (by simp) (by simp) r0 r1 S (by omega) (by omega) (by simpa using hc'.1) (by cases a <;> simp [Builtin.firstCells,loadCells,loadCellsFrom])
       simpa using this
      ·cases e
     ·rename_i id off len k' ag' cap
      split at e
      ·rename_i cs fz ver hg
       split at e
       ·rename_i hc'
        obtain ⟨rfl,d2,d3,d4⟩:=hc'
        rw [hyl] at d2 d3 e
        have hb46:ys0.length * by_ ≤ 2 ^ 46:=Nat.le_trans (Nat.mul_le_mul_right _ (Nat.le_add_left _ _)) d2
        obtain ⟨us,g1,r0,S,l1,w1,r1⟩:=srcs hb46
        obtain ⟨hk1,hk2⟩:=Ad5 r0 c3
        have hvl:=Ab3 k' us hk1
        have hul:=r0.length
        have ks1:=ks.mono l1
        have ks2:=ks1
        simp only [Rel] at ks1
        obtain ⟨hid,a,c,hv,hlc,ha,hcap,hln⟩:=ks1
        obtain ⟨cvs,q1,q2,q3⟩:=w1.cells hg
        have hcl:=q1.length
        obtain ⟨⟨hB,hcsl⟩,⟨_,_,_,_,_,_,_,_,_⟩,_⟩:=w1.objs id cs fz ver hg
        have hold:(Builtin.firstCells k' len (.slice (some a) len c)).run P w.drew = .ok ((cvs.drop off).take (len * k')).toArray w.drew:=by
         simp only [Builtin.firstCells]
         have hll:((cvs.drop off).take (len * k')).length = len * k':=by simp; omega
         have hrd:=run_loadCells_list (P:=P) w.drew a ((cvs.drop off).take (len * k')) (fun j v hj => ?_)
         ·rw [hll] at hrd; exact hrd
         have hjl:j < len * k':=by
          rcases Nat.lt_or_ge j (len * k') with h' | h'
          ·exact h'
          ·rw [List.getElem?_eq_none (by rw [hll]; exact h')] at hj; cases hj
         have hc0:c ≠ 0:=by
          intro e0
          have:len = 0:=by omega
          subst this
          simp at hjl
         obtain ⟨rfl,_⟩:=ha hc0
         rw [List.getElem?_take,if_pos hjl,List.getElem?_drop] at hj
         rw [Acz,Nat.add_assoc]
         exact q3 _ _ hj
        have oldrel:Rels g1 ((cs.drop off).take (len * k')) ((cvs.drop off).take (len * k')):=(q1.drop off).take _
        have oldone:∀ u ∈ (cvs.drop off).take (len * k'),u.oneCell' = true:=fun u hu => q2 u (List.mem_of_mem_drop (List.mem_of_mem_take hu))
        have oldlen:((cs.drop off).take (len * k')).length = len * k':=by simp; omega
        split at e
        ·-- no room,surely
         rename_i hcc
         cases e
         have hfull:c < len + ys0.length:=by
          cases cap with
          | none => simp [full] at hcc
          | some c' => simp [full] at hcc; rw [hcap c' rfl]; exact hcc
         have:=grown (some a) len c _ _ g1 m1 false us hv w1 l1 w1.n oldrel oldone oldlen r0 r1 S hfull d3 d2 hold
         rw [hyl] at this
         exact this
        ·rename_i hcc
         split at e
         ·-- in place
          rename_i hin
          split at e
          ·cases e
          ·rename_i hfz'
           cases e
           have hfz0:fz = false:=by simpa using hfz'
           subst hfz0
           have hmul:(len + ys0.length) * k' = len * k' + ys0.length * k':=Nat.add_mul _ _ _
           have hroom:len + ys0.length ≤ c:=by
            cases cap with
            | some c' => simp [full] at hcc; rw [hcap c' rfl]; exact hcc
            | none =>
             have h1:=hln rfl
             rw [← hcsl.1] at h1
             have h2:(len + ys0.length) * k' ≤ c * k':=by omega
             exact Nat.le_of_mul_le_mul_right h2 c1
           obtain ⟨rfl,hsz'⟩:=ha (by omega)
           have hfl:(flat ys).length = ys0.length * k':=by rw [← (Abs r1).length,hvl,hul]
           obtain ⟨w',s1,s2⟩:=w1.set hg (off + len * k') (Abs r1) (by rw [hfl]; omega) hk2 P
           refine ⟨.slice (some ⟨(g1.mu id).1,(g1.mu id).2 + off,none⟩) (len + ys0.length) c,w',g1,?_,l1,?_,s2⟩
           ·rw [hv,S.here _ _ _ ty hroom]
            simp only [Acz]
            rw [Nat.add_assoc,s1]
            rfl
           ·simp only [Rel]
            exact ⟨hid,_,c,rfl,hroom,fun _ => ⟨rfl,hsz'⟩,hcap,hln⟩
         ·split at e
          ·-- in place,or not
           rename_i hout hfr
           cases e
           by_cases hroom:len + ys0.length ≤ c
           ·obtain ⟨rfl,hsz'⟩:=ha (by omega)
            have hmul:(len + ys0.length) * k' ≤ c * k':=Nat.mul_le_mul_right _ hroom
            rw [Nat.add_mul] at hmul
            have hfl:(flat ys).length = ys0.length * k':=by rw [← (Abs r1).length,hvl,hul]
            obtain ⟨w',s1,s2⟩:=w1.extend hg off (len * k') d4 hfr.2 (Abs r1) hk2 (by rw [hvl,hul]; omega) hfr.1 P
            refine ⟨.slice (some ⟨(g1.mu id).1,(g1.mu id).2 + off,none⟩) (len + ys0.length) c,w',_,?_,l1.trans (G.le_new _ _ _ _ _),?_,s2⟩
            ·rw [hv,S.here _ _ _ ty hroom]
             simp only [Acz]
             rw [s1]
             rfl
            ·rw [w1.n]
             simp only [Rel]
             refine ⟨Nat.lt_succ_self _,_,c,rfl,hroom,fun _ => ?_,by simp,fun _ => ?_⟩
             ·simp [G.new]; omega
             ·simp [G.new,hfl]; omega
           ·have:=grown (some a) len c _ _ g1 (m1.kill id) fz us hv (w1.kill id) l1 w1.n oldrel oldone oldlen r0 r1 S (by omega) d3 d2 hold
            rw [hyl] at this
            exact this
          ·cases e
       ·cases e
      ·cases e
     ·cases e
   ·cases e
  ·cases e
 ·cases e
theorem Ape (h:WR B W g m w) {T u:TypeId} {d x:AV} {vd vx:Value} (kd:Rel g d vd) (kx:Rel g x vx) {r:AV} {m':Mem} (e:acopy P T d x m = some (r,m')) (ty:TypeId) :
  ∃ v w' g',(Builtin.copy_ #[T,u] ty #[vd,vx]).run P w = .ok v w' ∧ g.le g' ∧ Rel g' r v ∧ WR B W g' m' w':=by
 unfold acopy at e
 split at e
 ·rename_i el ht
  split at e
  ·rename_i k ys0 id off len k' ag cap hs hys
   dsimp only at e
   obtain ⟨us,r0,hl,hf⟩:=Aes P h kx hys
   obtain ⟨g1,l1,w1,r1⟩:=Abn (ys0.take (min ys0.length len)) h (r0.take (min ys0.length len))
   generalize hfz:fzvs m (ys0.take (min ys0.length len)) = fz at *
   obtain ⟨ys,m1⟩:=fz
   dsimp only at e w1 r1
   split at e
   ·rename_i cs ver hg
    split at e
    ·rename_i hc
     obtain ⟨c1,rfl,c3,c4⟩:=hc
     cases e
     obtain ⟨hk1,hk2⟩:=Ad5 r0 c4
     have hul:=r0.length
     have kd1:=kd.mono l1
     simp only [Rel] at kd1
     obtain ⟨hid,a,c,rfl,hlc,ha,hcap,hln⟩:=kd1
     have htk:∀ u ∈ us.take (min ys0.length len),u.cells.size = k':=fun u hu => hk1 u (List.mem_of_mem_take hu)
     have hvl:=Ab3 k' _ htk
     have htl:(us.take (min ys0.length len)).length = min ys0.length len:=by rw [List.length_take,hul]; omega
     rw [htl] at hvl
     have hone:∀ c ∈ vflat (us.take (min ys0.length len)),c.oneCell' = true:=by
      intro c hc
      simp only [vflat,List.mem_flatMap] at hc
      obtain ⟨u,hu,hcu⟩:=hc
      exact hk2 c (by simp only [vflat,List.mem_flatMap]; exact ⟨u,List.mem_of_mem_take hu,hcu⟩)
     have hfirst:=hf (min ys0.length len) k' c1 (Nat.min_le_left _ _) hk1 w fun _ => rfl
     have hmk:min ys0.length len * k' ≤ len * k':=Nat.mul_le_mul_right _ (Nat.min_le_right _ _)
     obtain ⟨w',s1,s2⟩:=w1.set hg off (Abs r1) (by rw [← (Abs r1).length,hvl]; omega) hone P
     refine ⟨goInt ((min ys0.length len:Nat):Int),w',g1,?_,l1,rfl,s2⟩
     have hst:(storeCells a (vflat (us.take (min ys0.length len)))).run P w = .ok () w':=by
      by_cases hc0:c = 0
      ·have:len = 0:=by omega
       subst this
       simp only [Nat.min_zero,List.take_zero] at s1 ⊢
       simp only [vflat,List.flatMap_nil,storeCells,Sem.run_pure] at s1 ⊢
       exact s1
      ·obtain ⟨rfl,_⟩:=ha hc0
       exact s1
     have hmin:Nat.min ys0.length len = min ys0.length len:=rfl
     simp [Builtin.copy_,run_underlying (Abk ht),hl,Aaw hs,hmin,hfirst,hst]
    ·cases e
   ·cases e
  ·rename_i k ys0 b hs hys
   split at e
   ·rename_i hc
    obtain ⟨c1,c2,c4⟩:=hc
    cases e
    obtain ⟨us,r0,hl,hf⟩:=Aes P h kx hys
    obtain ⟨hk1,hk2⟩:=Ad5 r0 c4
    have hfirst:=hf 0 k c1 (Nat.zero_le _) hk1 w fun _ => rfl
    simp only [List.take_zero,vflat,List.flatMap_nil] at hfirst
    have fin:∀ (ad:Option Addr) (c:Nat),vd = .slice ad 0 c → (Builtin.copy_ #[T,u] ty #[vd,vx]).run P w = .ok (goInt 0) w:=by
     intro ad c hv
     subst hv
     have hmin:Nat.min ys0.length 0 = 0:=by simp
     cases ad <;> simp [Builtin.copy_,run_underlying (Abk ht),hl,Aaw hs,hmin,hfirst,storeCells]
    match b,c2,kd with
    | 0,_,kd => simp only [Rel] at kd; exact ⟨_,w,g,fin _ _ kd,.refl g,rfl,h⟩
    | 1,_,kd => simp only [Rel] at kd; obtain ⟨_,kd⟩:=kd; exact ⟨_,w,g,fin _ _ kd,.refl g,rfl,h⟩
    | 2,_,kd => simp only [Rel] at kd; obtain ⟨_,_,kd⟩:=kd; exact ⟨_,w,g,fin _ _ kd,.refl g,rfl,h⟩
    | b + 3,c2,_ => omega
   ·cases e
  ·cases e
 ·cases e
def OpOk (P:Program) (B:Bs) (W:World) (g:G) (m':Mem) (v:AV) (r:Result Next):Prop :=
 ∃ w' g' v',(r = .ok (.value v') w' ∨ (r = .ok .skip w' ∧ v' = undef)) ∧ g.le g' ∧ Rel g' v v' ∧ WR B W g' m' w'
theorem Ai8 (h:WR B W g m w) {b:Builtin} {ts:Array TypeId} {T:TypeId} {args:List AV} {vs:List Value} (k:Rels g args vs) {r:AV} {m':Mem} (e:abuiltin P b ts T args m = some (r,m')) (cs:Array Bool) :
  OpOk P B W g m' r ((builtin b ts T cs vs.toArray).run P w):=by
 unfold abuiltin at e
 split at e
 ·-- append
  split at e
  ·rename_i s x t u ht hu
   simp only [Rels] at k
   obtain ⟨vs',rest,rfl,k1,vx,rest',rfl,k2,rfl⟩:=k
   have happ:Builtin.append_ ts T #[vs',vx] = Builtin.append_ #[t,u] T #[vs',vx]:=by simp [Builtin.append_,ht,hu]
   have fin:(∃ v w' g',(Builtin.append_ #[t,u] T #[vs',vx]).run P w = .ok v w' ∧ g.le g' ∧ Rel g' r v ∧ WR B W g' m' w') → OpOk P B W g m' r ((builtin .append ts T cs [vs',vx].toArray).run P w):=by
    rintro ⟨v,w',g',h1,h2,h3,h4⟩
    refine ⟨w',g',v,.inl ?_,h2,h3,h4⟩
    simp [builtin,happ,h1]
   split at e
   ·rename_i q n hq
    simp only [Rel] at k2
    subst k2
    split at e
    ·rename_i hn
     refine fin (Afr h k1 e T fun el k by_ z zv ys0 e1 e2 e3 e4 e5 e6 e7 e8 ⟨i,hi,hs,hb,hz⟩ e9 _ e10 => ?_)
     simp only [e4,Option.map_some,Option.some.injEq] at e9
     subst e9
     have hr:Rel g z zv:=by rw [e5]; exact Aap zv
     have hzk:zv.cells.size = k:=by rw [← e6,← hr.cells.length]; simp
     refine ⟨List.replicate n.toNat zv,Rels.replicate hr _,?_⟩
     have hS:=Ati (w:=w) (n:=n.toNat) (z:=zv) e8 hq hi hs hb hz hzk (by omega) (by
      by_cases h0:n.toNat = 0
      ·rw [h0]; simp
      ·have:=e10 (by simp; omega); simpa using this)
     rw [Int.toNat_of_nonneg hn.1] at hS
     rw [List.length_replicate]
     have hfl:vflat (List.replicate n.toNat zv) = (List.range (n.toNat * k)).map fun i => zv.cells[i % k]!:=by
      have a1:=Aby (g:=g) (Aap zv) (by omega) n.toNat
      rw [← hzk]
      generalize n.toNat = N
      induction N with
      | zero => simp [vflat]
      | succ N ih =>
       rw [List.replicate_succ]
       simp only [vflat,List.flatMap_cons] at ih ⊢
       rw [ih]
       have:(N + 1) * zv.cells.size = zv.cells.size + N * zv.cells.size:=by rw [Nat.succ_mul]; omega
       rw [this,List.range_add,List.map_append,List.map_map]
       congr 1
       ·apply List.ext_getElem
        ·simp
        ·intro i h1 h2
         simp at h1
         simp [Nat.mod_eq_of_lt h1,h1]
       ·apply List.map_congr_left
        intro i _
        simp
     rw [hfl]
     exact hS
    ·unfold aappend at e
     split at e
     ·split at e
      ·rename_i heq
       simp at heq
      ·cases e
     ·cases e
   ·cases e
   ·rename_i d hnint hd _
    refine fin (Afr h k1 e T fun el k by_ z zv ys0 e1 e2 e3 e4 e5 e6 e7 e8 ⟨i,hi,hs,hb,hz⟩ e9 e11 e10 => ?_)
    dsimp only at e9
    obtain ⟨us,r0,hl,hf⟩:=Aes P h k2 e9
    obtain ⟨hk1,hk2⟩:=Ad5 r0 e11
    refine ⟨us,r0,?_⟩
    have hul:=r0.length
    have f1:=hf ys0.length k e7 (Nat.le_refl _) hk1 w fun _ => rfl
    have hus:vflat (us.take ys0.length) = vflat us:=by rw [← hul,List.take_length]
    rw [hus] at f1
    rw [← hus] at f1 ⊢
    exact Ax2 e8 hd hnint hi hs hb hz hl f1 (hf ys0.length k e7 (Nat.le_refl _) hk1 w.drew fun _ => rfl)
   ·cases e
  ·cases e
 ·-- copy
  split at e
  ·rename_i d x t ht
   simp only [Rels] at k
   obtain ⟨vd,rest,rfl,k1,vx,rest',rfl,k2,rfl⟩:=k
   obtain ⟨v,w',g',h1,h2,h3,h4⟩:=Ape (u:=0) h k1 k2 e T
   refine ⟨w',g',v,.inl ?_,h2,h3,h4⟩
   have:Builtin.copy_ ts T #[vd,vx] = Builtin.copy_ #[t,0] T #[vd,vx]:=by simp [Builtin.copy_,ht]
   simp [builtin,this,h1]
  ·cases e
 ·-- delete
  split at e
  ·rename_i d x t ht
   simp only [Rels] at k
   obtain ⟨vd,rest,rfl,k1,vx,rest',rfl,k2,rfl⟩:=k
   obtain ⟨v,w',h1,h2,h3⟩:=Ald h ht T k1 k2 e
   exact ⟨w',g,v,.inl (by simp [builtin,h1]),.refl g,h2,h3⟩
  ·cases e
 ·simp only [Option.map_eq_some_iff,Prod.mk.injEq] at e
  obtain ⟨r',e,rfl,rfl⟩:=e
  unfold abuiltin0 at e
  split at e
  ·split at e
   ·rename_i t x ht
    simp only [Rels] at k
    obtain ⟨v,rest,rfl,k1,rfl⟩:=k
    obtain ⟨u,h1,h2⟩:=Asp (ty:=T) k1 e w
    refine ⟨w,g,u,.inl ?_,.refl g,h2,h⟩
    have:Builtin.len_ ts T #[v] = Builtin.len_ #[t] T #[v]:=by simp [Builtin.len_,ht]
    simp [builtin,this,h1]
   ·cases e
  ·split at e
   ·rename_i t x ht
    simp only [Rels] at k
    obtain ⟨v,rest,rfl,k1,rfl⟩:=k
    obtain ⟨u,h1,h2⟩:=Asq (ty:=T) k1 e w
    refine ⟨w,g,u,.inl ?_,.refl g,h2,h⟩
    have:Builtin.cap_ ts T #[v] = Builtin.cap_ #[t] T #[v]:=by simp [Builtin.cap_,ht]
    simp [builtin,this,h1]
   ·cases e
  ·cases hs:scals args with
   | none => rw [hs] at e; cases e
   | some us =>
    rw [hs] at e
    simp only [Option.bind_some,Option.map_eq_some_iff] at e
    obtain ⟨y,hy,rfl⟩:=e
    rw [Ae9 hs k]
    refine ⟨w,g,y,.inl ?_,.refl g,rfl,h⟩
    have:=Aat _ _ hy w
    simp [builtin,this]
  ·cases hs:scals args with
   | none => rw [hs] at e; cases e
   | some us =>
    rw [hs] at e
    simp only [Option.bind_some,Option.map_eq_some_iff] at e
    obtain ⟨y,hy,rfl⟩:=e
    rw [Ae9 hs k]
    refine ⟨w,g,y,.inl ?_,.refl g,rfl,h⟩
    have:=Aat _ _ hy w
    simp [builtin,this]
  ·cases e
variable {P:Program} {B:Bs} {W:World} {g:G} {m:Mem} {w:World}
theorem OpOk.value {v:AV} {v':Value} {r:Result Next} (h:WR B W g m w) (hr:Rel g v v') (e:r = .ok (.value v') w):OpOk P B W g m v r:=⟨w,g,v',.inl e,.refl g,hr,h⟩
def OR (g:G) (s:Sl) (a:Act) (xs:List Operand):Prop:=∀ x ∈ xs,Rel g (ev s x) (a.eval x)
theorem SR.or {N:Nat} {s:Sl} {a:Act} (k:SR g N s a) (xs:List Operand):OR g s a xs:=fun x _ => k.ev x
theorem OR.evs {s:Sl} {a:Act}:∀ {xs:List Operand},OR g s a xs → Rels g (xs.map (V.ev s)) (xs.map a.eval)
 | [],_ => .nil
 | x :: xs,k => .cons (k x (by simp)) (OR.evs fun y hy => k y (by simp [hy]))
theorem Ad8 {s:Sl} {a:Act}:∀ {ps:List (Nat × Operand)},OR g s a (ps.map (·.2)) → (ps.map fun p => (p.1,ev s p.2)).map (·.1) = (ps.map fun p => (p.1,a.eval p.2)).map (·.1) ∧ Rels g ((ps.map fun p => (p.1,ev s p.2)).map (·.2)) ((ps.map fun p => (p.1,a.eval p.2)).map (·.2))
 | [],_ => ⟨rfl,.nil⟩
 | p :: ps,k => by
  obtain ⟨h1,h2⟩:=Ad8 (ps:=ps) fun y hy => k y (by simp only [List.map_cons,List.mem_cons]; exact .inr hy)
  exact ⟨by simp at h1 ⊢,.cons (k p.2 (by simp)) h2⟩
theorem Acq {s:Sl} {a:Act} {x:Option Operand} (k:OR g s a x.toList):orel g (x.map (ev s)) (x.map a.eval):=by
 cases x with
 | none => trivial
 | some x => exact k x (by simp)
theorem WR.later (h:WR B W g m w) {w':World} (k:Below w.heap.size w w'):WR B W g m w':=by
 have old:∀ (b:Nat) (o:Obj),w.heap[b]? = some o → w'.heap[b]? = some o:=fun b o ho => by
  rw [k.block b (Array.getElem?_eq_some_iff.1 ho).1]; exact ho
 refine ⟨h.below.trans ⟨k.os,k.tape,k.output,k.size,fun b hb => k.block b (Nat.lt_of_lt_of_le hb h.base)⟩,Nat.le_trans h.base k.size,h.n,h.ids,fun id cs f ver hi => ?_,h.inj,fun b o v hv => ?_,h.x.step (.refl g) rfl rfl rfl rfl (fun b o ho _ => old b o ho) rfl fun b o _ p => ⟨old b o p.here,p.fz,p.obj⟩⟩
 ·exact (h.objs id cs f ver hi).world (k.block _ (h.block_lt hi))
 ·refine ⟨?_,(h.fz b o v hv).2⟩
  have h1:=(h.fz b o v hv).1
  have h2:=Ad1 h1
  unfold World.cell? at h1 ⊢
  simp only at h1 h2 ⊢
  rw [k.block b h2]
  exact h1
theorem Asc (h:WR B W g m w) {w':World} (hb:Below w.heap.size w w') {b:Nat} (hn:w.heap.size ≤ b) (vs:List Value) (hc:∀ j v,vs[j]? = some v → w'.cell? ⟨b,j,none⟩ = some v) :
  g.le (g.freeze b 0 vs) ∧ WR B W (g.freeze b 0 vs) m w' ∧ ∀ j v,vs[j]? = some v → (g.freeze b 0 vs).fz b j = some v:=by
 have h':=h.later hb
 have hle:g.le (g.freeze b 0 vs):=by
  refine ⟨Nat.le_refl _,fun _ _ => rfl,fun _ _ => rfl,fun _ _ => rfl,fun b' o v hv => ?_,fun _ h => h,fun _ h => h,fun _ _ h => h⟩
  simp only [G.freeze]
  rw [if_neg]
  ·exact hv
  ·rintro ⟨rfl,_⟩
   have:=Ad1 (h.fz _ _ _ hv).1
   simp at this
   omega
 have lt:∀ id cs f ver,m.get id = some (.cells cs f ver) → (g.mu id).1 < w.heap.size:=fun id cs f ver hi => h.block_lt hi
 refine ⟨hle,⟨h'.below,h'.base,h'.n,h'.ids,fun id cs f ver hi => ?_,h'.inj,fun b' o v hv => ?_,h'.x.step hle rfl rfl rfl rfl (fun _ _ k _ => k) rfl fun b' o hp p => ⟨p.here,fun q => ?_,p.obj⟩⟩,fun j v hv => ?_⟩
 ·refine ObjR.mono hle (h'.ids id _ hi) (h'.objs id cs f ver hi) fun o v hv => ?_
  simp only [G.freeze] at hv
  split at hv
  ·rename_i hc'
   have:=lt id cs f ver hi
   omega
  ·exact hv
 ·simp only [G.freeze] at hv
  split at hv
  ·rename_i hc'
   obtain ⟨rfl,h1,h2⟩:=hc'
   exact ⟨hc o v (by simpa using hv),fun hlt => absurd h.base (by omega)⟩
  ·exact h'.fz b' o v hv
 ·simp only [G.freeze]
  rw [if_neg]
  ·exact p.fz q
  ·rintro ⟨rfl,_⟩
   have:=(Array.getElem?_eq_some_iff.1 (h.x.pn _ o hp).here).1
   omega
 ·have hj:j < vs.length:=by
   rcases Nat.lt_or_ge j vs.length with h1 | h1
   ·exact h1
   ·rw [List.getElem?_eq_none h1] at hv; cases hv
  simp only [G.freeze]
  rw [if_pos ⟨trivial,Nat.zero_le _,by omega⟩]
  simpa using hv
theorem Aey:∀ {xs:List AV} {l:List UInt8},xs.mapM byteOf = some l → ∀ {vs:List Value},Rels g xs vs → ∃ ns:List Int,vs = ns.map (Value.int .u8) ∧ l = ns.map fun n => UInt8.ofNat n.toNat
 | [],l,h,vs,k => by
  simp only [List.mapM_nil] at h
  cases h
  simp only [Rels] at k
  subst k
  exact ⟨[],rfl,rfl⟩
 | x :: xs,l,h,vs,k => by
  simp only [List.mapM_cons,Option.bind_eq_bind,Option.bind_eq_some_iff] at h
  obtain ⟨b,hb,l',hl,h2⟩:=h
  cases h2
  simp only [Rels] at k
  obtain ⟨v,rest,rfl,h1,h2⟩:=k
  obtain ⟨ns,rfl,rfl⟩:=Aey hl h2
  unfold byteOf at hb
  split at hb
  ·rename_i n
   cases hb
   simp only [Rel] at h1
   subst h1
   exact ⟨n :: ns,rfl,rfl⟩
  ·cases hb
theorem Af6:∀ (ns:List Int) (r:ByteArray),ns.foldl (fun r n => r.push (UInt8.ofNat n.toNat)) r = ⟨r.data ++ (ns.map fun n => UInt8.ofNat n.toNat).toArray⟩
 | [],r => by simp
 | n :: ns,r => by
  simp only [List.foldl_cons]
  rw [Af6 ns]
  simp [ByteArray.push]
theorem Ai7 (h:WR B W g m w) {T U:TypeId} {x:AV} {v:Value} (k:Rel g x v) {r:AV} (e:aconvert P T U x = some r):∃ w' g' v',(convert T U v).run P w = .ok v' w' ∧ g.le g' ∧ Rel g' r v' ∧ WR B W g' m w':=by
 unfold aconvert at e
 split at e
 ·rename_i u hu
  cases e
  simp only [Option.bind_eq_some_iff] at hu
  obtain ⟨y,hy,hr⟩:=hu
  have hv:=Ako hy k
  subst hv
  exact ⟨w,g,u,Aat _ _ hr w,.refl g,rfl,h⟩
 ·unfold aconvB at e
  split at e
  ·rename_i el h1 h2
   split at e
   ·rename_i s h3 _
    cases e
    simp only [Rel] at k
    subst k
    have hrun:=Go.Lib.run_convert_string_bytes (P:=P) w T U el s h1 h2 h3
    have hsz:=Go.Lib.bytesWorld_size w el s
    have hbel:Below w.heap.size w (Go.Lib.bytesWorld w el s):=⟨rfl,rfl,rfl,by omega,fun b hb => Go.Lib.bytesWorld_at_old w el s b hb⟩
    obtain ⟨vs,hvs⟩:∃ vs:List Value,vs = s.data.toList.map fun b => Value.int .u8 b.toNat:=⟨_,rfl⟩
    have hvl:vs.length = s.data.toList.length:=by rw [hvs]; exact List.length_map _
    have hsl:s.data.toList.length = s.size:=Array.length_toList
    have hcell:∀ j v,vs[j]? = some v → (Go.Lib.bytesWorld w el s).cell? ⟨w.heap.size,j,none⟩ = some v:=by
     intro j v hv
     rw [hvs,List.getElem?_map,Option.map_eq_some_iff] at hv
     obtain ⟨b,hb,rfl⟩:=hv
     have hj:j < s.size:=by
      have:=(List.getElem?_eq_some_iff.1 hb).1
      omega
     rw [Go.Lib.bytesWorld_cell w el s j hj]
     simp [List.getD,hb]
    obtain ⟨l1,w1,f1⟩:=Asc h hbel (Nat.le_refl _) vs hcell
    refine ⟨_,_,_,hrun,l1,?_,w1⟩
    simp only [Rel]
    refine ⟨some ⟨w.heap.size,0,none⟩,grownCap w s.size 0 el,vs,1,?_,?_,⟨?_,fun hn => by cases hn⟩,fun i u hu => ⟨?_,w.heap.size,0,rfl,?_⟩⟩
    ·rw [List.length_map,hsl]
    ·have:(s.data.toList.map fun b => AV.sc (.int .u8 b.toNat)) = vs.map AV.sc:=by rw [hvs,List.map_map]; rfl
     rw [this]; exact Rels.map_sc vs
    ·have:=grownCap_ge w s.size 0 el
     rw [List.length_map]; omega
    ·rw [hvs,List.getElem?_map,Option.map_eq_some_iff] at hu
     obtain ⟨b,hb,rfl⟩:=hu
     rfl
    ·intro j c hc
     rw [hvs,List.getElem?_map,Option.map_eq_some_iff] at hu
     obtain ⟨b,hb,rfl⟩:=hu
     have hj0:j = 0 ∧ c = .int .u8 b.toNat:=by
      have:(Value.int .u8 (b.toNat:Int)).cells = #[.int .u8 b.toNat]:=rfl
      rw [this] at hc
      rcases j with _ | j
      ·simp at hc; exact ⟨rfl,hc.symm⟩
      ·simp at hc
     obtain ⟨rfl,rfl⟩:=hj0
     have:=f1 i (.int .u8 b.toNat) (by rw [hvs,List.getElem?_map,hb]; rfl)
     simpa using this
   ·cases e
  ·rename_i el h1 h2
   split at e
   ·rename_i l h3 h4
    cases e
    unfold bytesOf at h4
    split at h4
    ·cases h4
     simp only [Rel] at k
     subst k
     refine ⟨w,g,.string ⟨#[]⟩,?_,.refl g,rfl,h⟩
     rw [run_convert_bytes_string w T U el _ _ _ h1 h3 h2]
     simp [Conv.bytesToString]
     rfl
    ·rename_i xs _
     simp only [Rel] at k
     obtain ⟨a,c,vs,q,rfl,k2,k3,k4⟩:=k
     obtain ⟨ns,rfl,rfl⟩:=Aey h4 k2
     have hlen:=k2.length
     rw [List.length_map] at hlen
     refine ⟨w,g,_,?_,.refl g,rfl,h⟩
     rw [run_convert_bytes_string w T U el _ _ _ h1 h3 h2]
     cases a with
     | none =>
      have hc:=k3.2 rfl
      have hx:xs.length = 0:=by have:=k3.1; omega
      have:ns = []:=List.length_eq_zero_iff.1 (by omega)
      subst this
      simp [Conv.bytesToString]
      rfl
     | some a =>
      cases hns:ns with
      | nil =>
       have hx:xs.length = 0:=by rw [← hlen,hns]; rfl
       rw [hx]
       have hl:(loadCells a 0).run P w = .ok (([]:List Int).map (Value.int .u8)).toArray w:=rfl
       rw [run_bytesToString w a 0 c [] hl]
       rfl
      | cons n0 ns' =>
       have h0:(ns.map (Value.int .u8))[0]? = some (.int .u8 n0):=by rw [hns]; rfl
       obtain ⟨hq,b,o,ha,_⟩:=k4 0 _ h0
       have hq1:q = 1:=by rw [← hq]; rfl
       subst hq1
       simp only [Option.some.injEq] at ha
       subst ha
       have hl:(loadCells ⟨b,o,none⟩ xs.length).run P w = .ok (ns.map (Value.int .u8)).toArray w:=by
        have:=run_loadCells_list (P:=P) w ⟨b,o,none⟩ (ns.map (Value.int .u8)) (fun j v hj => by
         obtain ⟨_,b',o',ha',hf⟩:=k4 j v hj
         simp only [Option.some.injEq,Addr.mk.injEq,and_true] at ha'
         obtain ⟨rfl,rfl⟩:=ha'
         rw [Acz]
         refine (h.fz _ _ _ ?_).1
         have hv:v.cells[0]? = some v:=by
          simp only [List.getElem?_map,Option.map_eq_some_iff] at hj
          obtain ⟨n,_,rfl⟩:=hj
          rfl
         have:=hf 0 v hv
         simpa using this)
        simpa [hlen] using this
       rw [hns] at hl
       rw [run_bytesToString w ⟨b,o,none⟩ xs.length c _ hl,Af6]
       simp [ByteArray.empty,ByteArray.emptyWithCapacity]
       rfl
    ·cases h4
   ·cases e
  ·cases e
theorem Alf {T:TypeId} {ok:Bool} {x:AV} {v:Value} (k:Rel g x v) {r:AV} (e:aassert P T ok x = some r) (w:World) (T':TypeId):∃ v',(Instr.typeAssert v T' T ok).run P w = .ok v' w ∧ Rel g r v':=by
 unfold aassert at e
 have zero:∀ {z:AV},tzero P T = some z → ∃ zv,(zeroValue T).run P w = .ok zv w ∧ Rel g z zv:=by
  intro z hz
  obtain ⟨zv,rfl,hv,_⟩:=Abq hz
  exact ⟨zv,hv w,Aap zv⟩
 split at e
 ·cases e
 ·cases e
 ·rename_i d hne hu
  split at e
  ·rename_i t y
   simp only [Rel] at k
   obtain ⟨u,rfl,k⟩:=k
   split at e
   ·rename_i ht
    subst ht
    cases e
    refine ⟨if ok then .tuple #[u,.bool true] else u,?_,?_⟩
    ·simp only [Instr.typeAssert,Sem.run_bind,run_underlying hu,Result.andThen_ok]
     cases d <;> first | (exact absurd hu (hne _)) | simp [Sem.run_pure]
    ·cases ok with
     | false => exact k
     | true => exact ⟨[u,.bool true],rfl,.cons k (.one rfl)⟩
   ·rename_i ht
    split at e
    ·rename_i hok
     simp only [Option.map_eq_some_iff] at e
     obtain ⟨z,hz,rfl⟩:=e
     obtain ⟨zv,hv,hr⟩:=zero hz
     refine ⟨.tuple #[zv,.bool false],?_,⟨[zv,.bool false],rfl,.cons hr (.one rfl)⟩⟩
     simp only [Instr.typeAssert,Sem.run_bind,run_underlying hu,Result.andThen_ok]
     cases d <;> first | (exact absurd hu (hne _)) | (simp [ht,hok,hv,Sem.run_bind,Sem.run_pure])
    ·cases e
  ·split at e
   ·rename_i hok
    simp only [Option.map_eq_some_iff] at e
    obtain ⟨z,hz,rfl⟩:=e
    obtain ⟨zv,hv,hr⟩:=zero hz
    simp only [Rel] at k
    subst k
    refine ⟨.tuple #[zv,.bool false],?_,⟨[zv,.bool false],rfl,.cons hr (.one rfl)⟩⟩
    simp only [Instr.typeAssert,Sem.run_bind,run_underlying hu,Result.andThen_ok]
    cases d <;> first | (exact absurd hu (hne _)) | (simp [hok,hv,Sem.run_bind,Sem.run_pure])
   ·cases e
  ·cases e
theorem Awj (h:WR B W g m w) {s:Sl} {a:Act} {o:Oper} (k:OR g s a o.op.operands.toList) {x:AV} {m':Mem} (e:aop P s o m = some (x,m')):OpOk P B W g m' x ((execOp a.eval o).run P w):=by
 obtain ⟨dst,op,type,pos,after,guard⟩:=o
 cases op <;> simp only [aop] at e
 case move y => cases e; exact .value h (k y (by simp [Op.operands])) rfl
 case assign y => cases e; exact .value h (k y (by simp [Op.operands])) rfl
 case pick c y z =>
  have kc:=k c (by simp [Op.operands])
  split at e
  ·rename_i t hc
   rw [hc] at kc
   simp only [Rel] at kc
   cases e
   refine .value h (v':=if t then a.eval y else a.eval z) ?_ (by simp [execOp,kc,asBool])
   cases t
   ·exact k z (by simp [Op.operands])
   ·exact k y (by simp [Op.operands])
  ·cases e
 case alloc T =>
  cases hz:tzero P T with
  | none => rw [hz] at e; cases e
  | some z =>
   rw [hz] at e
   simp only [Option.bind_some] at e
   split at e
   ·rename_i hok
    cases e
    obtain ⟨zv,rfl,hv,_⟩:=Abq hz
    obtain ⟨w',g',h1,h2,h3,h4⟩:=Agq (P:=P) h (Aap zv) hok T
    refine ⟨w',g',_,.inl ?_,h2,h3,h4⟩
    simp [execOp,Instr.alloc,hv,h1]
   ·cases e
 case box T y =>
  split at e
  ·rename_i hok
   cases e
   obtain ⟨w',g',h1,h2,h3,h4⟩:=Agq (P:=P) h (k y (by simp [Op.operands])) hok T
   refine ⟨w',g',_,.inl ?_,h2,h3,h4⟩
   simp [execOp,Instr.box,h1]
  ·cases e
 case build T ps =>
  simp only [Option.map_eq_some_iff,Prod.mk.injEq] at e
  obtain ⟨y,hy,rfl,rfl⟩:=e
  obtain ⟨h1,h2⟩:=Ad8 (ps:=ps.toList) (by simpa [Op.operands] using k)
  obtain ⟨u,h3,h4⟩:=Ano h1 h2 hy w
  refine .value h h4 ?_
  have:(ps.map fun (i,x) => (i,a.eval x)) = (ps.toList.map fun p => (p.1,a.eval p.2)).toArray:=by
   apply Array.ext'
   simp
  simp only [execOp,this,Sem.run_bind,h3,Result.andThen_ok,Sem.run_pure]
 case buildSlice T n ps =>
  obtain ⟨h1,h2⟩:=Ad8 (ps:=ps.toList) (by simpa [Op.operands] using k)
  obtain ⟨u,w',g',h3,h4,h5,h6⟩:=Agm h h1 h2 e
  refine ⟨w',g',u,.inl ?_,h4,h5,h6⟩
  have:(ps.map fun (i,x) => (i,a.eval x)) = (ps.toList.map fun p => (p.1,a.eval p.2)).toArray:=by
   apply Array.ext'
   simp
  simp only [execOp,this,Sem.run_bind,h3,Result.andThen_ok,Sem.run_pure]
 case load T y =>
  simp only [Option.map_eq_some_iff,Prod.mk.injEq] at e
  obtain ⟨z,hz,rfl,rfl⟩:=e
  obtain ⟨u,h1,h2⟩:=Aiq h (k y (by simp [Op.operands])) hz
  exact .value h h2 (by simp [execOp,h1])
 case store T y z =>
  simp only [Option.map_eq_some_iff,Prod.mk.injEq] at e
  obtain ⟨m1,hm,rfl,rfl⟩:=e
  obtain ⟨w',h1,h2⟩:=Ana h (k y (by simp [Op.operands])) (k z (by simp [Op.operands])) hm
  exact ⟨w',g,undef,.inr ⟨by simp [execOp,h1],rfl⟩,.refl g,rfl,h2⟩
 case nilCheck y =>
  have ky:=k y (by simp [Op.operands])
  split at e
  ·rename_i id off hy
   cases e
   rw [hy] at ky
   refine .value h ky ?_
   simp only [Rel] at ky
   simp [execOp,ky.2]
  ·rename_i z off hy
   cases e
   rw [hy] at ky
   refine .value h ky ?_
   simp only [Rel] at ky
   obtain ⟨b,o',u,_,_,hv⟩:=ky
   simp [execOp,hv]
  ·rename_i f fi ca hy
   split at e
   ·rename_i hp
    cases e
    rw [hy] at ky
    refine .value h ky ?_
    simp only [Rel] at ky
    obtain ⟨vf,vc,hv,_⟩:=ky
    simp only [execOp,hv]
    cases f <;> first | rfl | simp [isFuncPlain] at hp
   ·cases e
  ·rename_i id hy
   cases e
   rw [hy] at ky
   refine .value h ky ?_
   simp only [Rel] at ky
   simp only [execOp,ky.2]
   rfl
  ·cases e
 case lookup T y z ok =>
  simp only [Option.map_eq_some_iff,Prod.mk.injEq] at e
  obtain ⟨r,hr,rfl,rfl⟩:=e
  obtain ⟨u,h1,h2⟩:=Alc h (k y (by simp [Op.operands])) (k z (by simp [Op.operands])) hr
  exact .value h h2 (by simp [execOp,h1])
 case mapUpdate T y z u =>
  simp only [Option.map_eq_some_iff,Prod.mk.injEq] at e
  obtain ⟨m1,hm,rfl,rfl⟩:=e
  obtain ⟨w',h1,h2⟩:=Adv h (k y (by simp [Op.operands])) (k z (by simp [Op.operands])) (k u (by simp [Op.operands])) hm
  exact ⟨w',g,undef,.inr ⟨by simp [execOp,h1],rfl⟩,.refl g,rfl,h2⟩
 case insert T y z u =>
  simp only [Option.map_eq_some_iff,Prod.mk.injEq] at e
  obtain ⟨m1,hm,rfl,rfl⟩:=e
  obtain ⟨w',h1,h2⟩:=Adv h (k y (by simp [Op.operands])) (k z (by simp [Op.operands])) (k u (by simp [Op.operands])) hm
  exact ⟨w',g,undef,.inr ⟨by simp [execOp,h1],rfl⟩,.refl g,rfl,h2⟩
 case mapEntry T y z =>
  obtain ⟨u,w',h1,h2,h3⟩:=Aio h (k y (by simp [Op.operands])) (k z (by simp [Op.operands])) e
  exact ⟨w',g,u,.inl (by simp [execOp,h1]),.refl g,h2,h3⟩
 case entryStore T y z u =>
  simp only [Option.map_eq_some_iff,Prod.mk.injEq] at e
  obtain ⟨m1,hm,rfl,rfl⟩:=e
  obtain ⟨w',h1,h2⟩:=Agl (P:=P) (T:=T) h (k y (by simp [Op.operands])) (k z (by simp [Op.operands])) (k u (by simp [Op.operands])) hm
  exact ⟨w',g,undef,.inr ⟨by simp [execOp,h1],rfl⟩,.refl g,rfl,h2⟩
 case makeMap T r =>
  obtain ⟨u,w',g',h1,h2,h3,h4⟩:=Ai6 h (Acq (x:=r) (fun y hy => k y (by simp [Op.operands]; simpa using hy))) e
  exact ⟨w',g',u,.inl (by simp [execOp,h1]),h2,h3,h4⟩
 case binOp op T y z T' =>
  simp only [Option.map_eq_some_iff,Prod.mk.injEq] at e
  obtain ⟨r,hr,rfl,rfl⟩:=e
  obtain ⟨u,h1,h2⟩:=Asr (k y (by simp [Op.operands])) (k z (by simp [Op.operands])) hr w
  refine .value h h2 ?_
  simp only [execOp]
  rw [Sem.run_bind,h1]
  rfl
 case unOp op T y =>
  cases hs:scal (ev s y) with
  | none => rw [hs] at e; cases e
  | some v =>
   rw [hs] at e
   simp only [Option.bind_some,Option.map_eq_some_iff,Prod.mk.injEq] at e
   obtain ⟨r,hr,rfl,rfl⟩:=e
   have hv:=Ako hs (k y (by simp [Op.operands]))
   refine .value h (v':=r) rfl ?_
   simp [execOp,hv,Aat _ _ hr w]
 case convert T T' y =>
  simp only [Option.map_eq_some_iff,Prod.mk.injEq] at e
  obtain ⟨r,hr,rfl,rfl⟩:=e
  obtain ⟨w',g',v',h1,h2,h3,h4⟩:=Ai7 h (k y (by simp [Op.operands])) hr
  exact ⟨w',g',v',.inl (by simp [execOp,h1]),h2,h3,h4⟩
 case makeInterface T y =>
  simp only [Option.map_eq_some_iff,Prod.mk.injEq] at e
  obtain ⟨r,hr,rfl,rfl⟩:=e
  have ky:=k y (by simp [Op.operands])
  unfold amakeIface at hr
  split at hr
  ·cases hr
  ·cases hr
  ·rename_i d hne hu
   cases hr
   refine .value h (v':=.iface T (a.eval y)) ⟨_,rfl,ky⟩ ?_
   simp only [execOp,Instr.makeInterface,Sem.run_bind,run_underlying hu,Result.andThen_ok]
   cases d <;> first | rfl | (exact absurd hu (hne _))
 case typeAssert y T' T ok =>
  simp only [Option.map_eq_some_iff,Prod.mk.injEq] at e
  obtain ⟨r,hr,rfl,rfl⟩:=e
  obtain ⟨v',h1,h2⟩:=Alf (k y (by simp [Op.operands])) hr w T'
  exact .value h h2 (by simp [execOp,h1])
 case makeFunc f fi ca =>
  cases e
  refine .value h (v':=.func f (fi.map a.eval) (ca.map a.eval)) ?_ rfl
  exact ⟨fi.toList.map a.eval,ca.toList.map a.eval,by congr 1 <;> (apply Array.ext'; simp),OR.evs fun y hy => k y (by simp [Op.operands]; exact .inl (by simpa using hy)),OR.evs fun y hy => k y (by simp [Op.operands]; exact .inr (by simpa using hy))⟩
 case makeSlice T l c =>
  obtain ⟨u,w',g',h1,h2,h3,h4⟩:=Agw h (k l (by simp [Op.operands])) (k c (by simp [Op.operands])) e
  exact ⟨w',g',u,.inl (by simp [execOp,h1]),h2,h3,h4⟩
 case slice T y lo hi mx =>
  simp only [Option.map_eq_some_iff,Prod.mk.injEq] at e
  obtain ⟨z,hz,rfl,rfl⟩:=e
  obtain ⟨u,h1,h2⟩:=Anc (k y (by simp [Op.operands])) (Acq (x:=lo) (fun y hy => k y (by simp [Op.operands]; simp at hy; simp [hy]))) (Acq (x:=hi) (fun y hy => k y (by simp [Op.operands]; simp at hy; simp [hy]))) (Acq (x:=mx) (fun y hy => k y (by simp [Op.operands]; simp at hy; simp [hy]))) hz w
  exact .value h h2 (by simp [execOp,h1])
 case fieldAddr T y f =>
  simp only [Option.map_eq_some_iff,Prod.mk.injEq] at e
  obtain ⟨z,hz,rfl,rfl⟩:=e
  obtain ⟨u,h1,h2⟩:=Agy (k y (by simp [Op.operands])) hz w
  exact .value h h2 (by simp [execOp,h1])
 case field T y f =>
  simp only [Option.map_eq_some_iff,Prod.mk.injEq] at e
  obtain ⟨z,hz,rfl,rfl⟩:=e
  obtain ⟨u,h1,h2⟩:=Anj (k y (by simp [Op.operands])) hz w
  exact .value h h2 (by simp [execOp,h1])
 case indexAddr T y i =>
  simp only [Option.map_eq_some_iff,Prod.mk.injEq] at e
  obtain ⟨z,hz,rfl,rfl⟩:=e
  obtain ⟨u,h1,h2⟩:=Agx (k y (by simp [Op.operands])) (k i (by simp [Op.operands])) hz w
  exact .value h h2 (by simp [execOp,h1])
 case index T y i =>
  simp only [Option.map_eq_some_iff,Prod.mk.injEq] at e
  obtain ⟨z,hz,rfl,rfl⟩:=e
  obtain ⟨u,h1,h2⟩:=Anh (k y (by simp [Op.operands])) (k i (by simp [Op.operands])) hz w
  exact .value h h2 (by simp [execOp,h1])
 case extract y i =>
  have ky:=k y (by simp [Op.operands])
  split at e
  ·rename_i vs hy
   simp only [Option.map_eq_some_iff,Prod.mk.injEq] at e
   obtain ⟨z,hz,rfl,rfl⟩:=e
   rw [hy] at ky
   simp only [Rel] at ky
   obtain ⟨us,hv,h1⟩:=ky
   obtain ⟨u,h2,h3⟩:=h1.get i z hz
   exact .value h h3 (by simp [execOp,hv,Instr.extract,h2])
  ·cases e
 case call c =>
  obtain ⟨callee,args,argTypes⟩:=c
  cases callee with
  | builtin b =>
   dsimp only at e
   have:=Ai8 h (OR.evs (xs:=args.toList) fun y hy => k y (by simp [Op.operands,Call.operands]; simpa using hy)) e (args.map fun | .const _ => true | _ => false)
   have ha:(args.toList.map a.eval).toArray = args.map a.eval:=by apply Array.ext'; simp
   rw [ha] at this
   obtain ⟨w',g',v',h1,h2⟩:=this
   refine ⟨w',g',v',?_,h2⟩
   simp only [execOp,resolve,pure_bind,invoke]
   exact h1
  | value f => cases e
  | invoke r n => cases e
 all_goals cases e
variable {P:Program} {B:Bs} {W:World} {g:G} {m:Mem} {w:World}
def G.pins (g:G) (p:Nat → Option Obj):G:={ g with pn:=p }
theorem G.lee_pins (g:G) (p:Nat → Option Obj):g.lee (g.pins p):=⟨Nat.le_refl _,fun _ _ => rfl,fun _ _ => rfl,fun _ _ => rfl,fun _ _ _ h => h⟩
theorem WR.repin (h:WR B W g m w) (p:Nat → Option Obj) (hp:∀ b o,p b = some o → PinOk B g m w b o):WR B W (g.pins p) m w:=by
 have e:=G.lee_pins g p
 refine ⟨h.below,h.base,h.n,h.ids,fun i cs f ver hi => ?_,h.inj,h.fz,?_⟩
 ·obtain ⟨a1,⟨pre,vs,post,el,a2,a3,a4,a5⟩,a6⟩:=h.objs i cs f ver hi
  exact ⟨a1,⟨pre,vs,post,el,a2,a3,a4.monoE e,a5⟩,a6⟩
 ·refine ⟨fun i L hi => ?_,h.x.linj,fun i M hi => ?_,h.x.minj,h.x.df,h.x.lb,fun b o hb => have q:=hp b o hb; ⟨q.base,q.here,q.kind,q.fz,q.obj,q.map⟩⟩
  ·obtain ⟨a,b,fn,tmps,df,c,d,k⟩:=h.x.lids i L hi
   exact ⟨a,b,fn,tmps,df,c,d,fun t => (k t).monoE e _ _⟩
  ·obtain ⟨a,b,es,c,d⟩:=h.x.mids i M hi
   exact ⟨a,b,es,c,d.monoE e⟩
theorem WR.pinned_lt (h:WR B W g m w) {b:Nat} {o:Obj} (k:g.pn b = some o):b < w.heap.size:=(Array.getElem?_eq_some_iff.1 (h.x.pn b o k).here).1
theorem WR.pin_fresh (h:WR B W g m w):g.pn w.heap.size = none:=by
 cases hp:g.pn w.heap.size with
 | none => rfl
 | some o => exact absurd (h.pinned_lt hp) (Nat.lt_irrefl _)
theorem WR.pin (h:WR B W g m w) (o:Obj) (hk:o.isCells = true ∨ ∃ es c,o = .map es c):WR B W (g.pins fun b => if b = w.heap.size then some o else g.pn b) m (w.alloc o):=by
 have hb:Below w.heap.size w (w.alloc o):=(Below.refl w.heap.size w).alloc (Nat.le_refl _) o
 refine (h.later hb).repin _ fun b o' hp => ?_
 split at hp
 ·rename_i e
  subst e
  cases hp
  refine ⟨h.base,World.alloc_heap_new _ _,hk,fun q => ?_,fun id hi => ?_,fun id hi => ?_⟩
  ·cases hf:g.fz w.heap.size q with
   | none => rfl
   | some v => exact absurd (Ad1 (h.fz _ _ _ hf).1) (Nat.lt_irrefl _)
  ·obtain ⟨⟨cs,f,v⟩,ho⟩:=Option.isSome_iff_exists.1 hi
   exact Nat.ne_of_lt (h.block_lt ho)
  ·obtain ⟨M,hM⟩:=Option.isSome_iff_exists.1 hi
   obtain ⟨_,_,es,h2,_⟩:=h.x.mids id M hM
   exact Nat.ne_of_lt (Array.getElem?_eq_some_iff.1 h2).1
 ·exact (h.later hb).x.pn b o' hp
theorem WR.take (h:WR B W g m w) {b:Nat} {cs:List AV} {vs:List Value} {el:TypeId} (hb:B ≤ b) (hh:w.heap[b]? = some (.cells vs.toArray el (0,0))) (hf:∀ q,g.fz b q = none)
  (ho:∀ id,(m.get id).isSome = true → (g.mu id).1 ≠ b) (hpn:g.pn b = none) (k:Rels g cs vs) (h1:∀ u ∈ vs,u.oneCell' = true):WR B W (g.new b 0 vs.length cs.length) (m.new cs false) w:=by
 have hle:=G.le_new g b 0 vs.length cs.length
 have hmu:(g.new b 0 vs.length cs.length).mu g.n = (b,0):=by simp [G.new]
 have hold:∀ id,id < g.n → (g.new b 0 vs.length cs.length).mu id = g.mu id:=hle.mu
 refine ⟨h.below,h.base,by simp [G.new,h.n],?_,?_,?_,h.fz,h.x.step hle rfl rfl rfl rfl (fun _ _ k _ => k) rfl fun b' o hp p => ⟨p.here,p.fz,fun id hi => ?_⟩⟩
 ·intro id o hid
  rw [Mem.get_new,h.n] at hid
  show id < g.n + 1
  split at hid
  ·omega
  ·have:=h.ids id o hid; omega
 ·intro id cs' f' ver hid
  rw [Mem.get_new,h.n] at hid
  split at hid
  ·rename_i e
   subst e
   simp only [Option.some.injEq,AObj.cells.injEq] at hid
   obtain ⟨rfl,rfl,_⟩:=hid
   refine ⟨⟨by rw [hmu]; exact hb,by simp [G.new]⟩,⟨[],vs,[],el,by rw [hmu]; simpa using hh,by rw [hmu]; rfl,k.mono hle,by simp [G.new],h1⟩,fun o v hv => ?_⟩
   rw [hmu] at hv
   have:g.fz b o = some v:=hv
   rw [hf] at this; cases this
  ·exact ObjR.mono hle (h.ids id _ hid) (h.objs id cs' f' ver hid) (fun _ _ hv => hv)
 ·intro i j hi hj he
  rw [Mem.get_new,h.n] at hi hj
  by_cases ei:i = g.n <;> by_cases ej:j = g.n
  ·rw [ei,ej]
  ·simp only [ej,if_false] at hj
   obtain ⟨o,ho'⟩:=Option.isSome_iff_exists.1 hj
   rw [ei,hmu,hold j (h.ids j o ho')] at he
   exact absurd he.symm (ho j hj)
  ·simp only [ei,if_false] at hi
   obtain ⟨o,ho'⟩:=Option.isSome_iff_exists.1 hi
   rw [ej,hmu,hold i (h.ids i o ho')] at he
   exact absurd he (ho i hi)
  ·simp only [ei,ej,if_false] at hi hj
   obtain ⟨o,ho1⟩:=Option.isSome_iff_exists.1 hi
   obtain ⟨o',ho2⟩:=Option.isSome_iff_exists.1 hj
   rw [hold i (h.ids i o ho1),hold j (h.ids j o' ho2)] at he
   exact h.inj i j hi hj he
 ·rw [Mem.get_new,h.n] at hi
  split at hi
  ·rename_i e
   rw [e,hmu]
   intro e'
   rw [show b' = b from e'.symm] at hp
   rw [hpn] at hp; cases hp
  ·obtain ⟨o',ho'⟩:=Option.isSome_iff_exists.1 hi
   rw [hold id (h.ids id o' ho')]
   exact p.obj id hi
theorem WR.takeMap (h:WR B W g m w) {b:Nat} (hb:B ≤ b) (hh:w.heap[b]? = some (.map #[] 0)) (ho:∀ id,(m.map id).isSome = true → (g.mu id).1 ≠ b) (hpn:g.pn b = none):WR B W (g.new b 0 0 0) m.newMap w:=by
 have hle:=G.le_new g b 0 0 0
 have hmu:(g.new b 0 0 0).mu g.n = (b,0):=by simp [G.new]
 have gl:∀ i,m.newMap.map i = if i = g.n then some ⟨[],0,m.clock + 1⟩ else m.map i:=by intro i; simp [Mem.newMap,Mem.map,h.n]
 refine ⟨h.below,h.base,by simp [G.new,Mem.newMap,h.n],?_,?_,?_,h.fz,?_⟩
 ·intro id o hid
  have:=h.ids id o hid
  show id < g.n + 1
  omega
 ·intro id cs f ver hid
  exact ObjR.mono hle (h.ids id _ hid) (h.objs id cs f ver hid) fun _ _ hv => hv
 ·intro i j hi hj he
  obtain ⟨o,ho1⟩:=Option.isSome_iff_exists.1 hi
  obtain ⟨o',ho2⟩:=Option.isSome_iff_exists.1 hj
  rw [hle.mu i (h.ids i o ho1),hle.mu j (h.ids j o' ho2)] at he
  exact h.inj i j hi hj he
 ·refine ⟨fun i L hi => ?_,fun i j hi hj he => ?_,fun i M hi => ?_,fun i j hi hj he => ?_,h.x.df,h.x.lb,fun b' o hp => ?_⟩
  ·obtain ⟨a,k⟩:=h.x.lids i L hi
   exact ⟨Nat.lt_succ_of_lt a,LoopR.mono hle a k⟩
  ·obtain ⟨L,hL⟩:=Option.isSome_iff_exists.1 hi
   obtain ⟨L',hL'⟩:=Option.isSome_iff_exists.1 hj
   rw [hle.mu i (h.x.lids i L hL).1,hle.mu j (h.x.lids j L' hL').1] at he
   exact h.x.linj i j hi hj he
  ·rw [gl] at hi
   split at hi
   ·rename_i e
    subst e
    cases hi
    refine ⟨Nat.lt_succ_self _,?_⟩
    unfold MapR
    rw [hmu]
    exact ⟨hb,[],hh,rfl⟩
   ·obtain ⟨a,k⟩:=h.x.mids i M hi
    exact ⟨Nat.lt_succ_of_lt a,MapR.mono hle a k⟩
  ·rw [gl] at hi hj
   by_cases ei:i = g.n <;> by_cases ej:j = g.n
   ·rw [ei,ej]
   ·simp only [ej,if_false] at hj
    obtain ⟨L,hL⟩:=Option.isSome_iff_exists.1 hj
    rw [ei,hmu,hle.mu j (h.x.mids j L hL).1] at he
    exact absurd he.symm (ho j hj)
   ·simp only [ei,if_false] at hi
    obtain ⟨L,hL⟩:=Option.isSome_iff_exists.1 hi
    rw [ej,hmu,hle.mu i (h.x.mids i L hL).1] at he
    exact absurd he (ho i hi)
   ·simp only [ei,ej,if_false] at hi hj
    obtain ⟨L,hL⟩:=Option.isSome_iff_exists.1 hi
    obtain ⟨L',hL'⟩:=Option.isSome_iff_exists.1 hj
    rw [hle.mu i (h.x.mids i L hL).1,hle.mu j (h.x.mids j L' hL').1] at he
    exact h.x.minj i j hi hj he
  ·have p:=h.x.pn b' o hp
   refine ⟨p.base,p.here,p.kind,p.fz,fun id hi => ?_,fun id hi => ?_⟩
   ·obtain ⟨o',ho'⟩:=Option.isSome_iff_exists.1 hi
    rw [hle.mu id (h.ids id o' ho')]
    exact p.obj id hi
   ·rw [gl] at hi
    split at hi
    ·rename_i e
     rw [e,hmu]
     intro e'
     have hp':g.pn b' = some o:=hp
     rw [show b' = b from e'.symm,hpn] at hp'
     cases hp'
    ·obtain ⟨M,hM⟩:=Option.isSome_iff_exists.1 hi
     rw [hle.mu id (h.x.mids id M hM).1]
     exact p.map id hi
inductive Cr where
 | ptr (cs:List AV)
 | sl (cs:List AV) (len k:Nat) (ag:Bool)
 | mp
def Cr.at:Cr → Mem → AV × Mem
 | .ptr cs,m => (.ptr m.next 0,m.new cs false)
 | .sl cs len k ag,m => (.sl m.next 0 len k ag (some len),m.new cs false)
 | .mp,m => (.mp m.next,m.newMap)
def Made (g:G) (b:Nat) (ob:Obj) (v:Value):Cr → Prop
 | .ptr cs => (∃ vs el,ob = .cells vs.toArray el (0,0) ∧ Rels g cs vs ∧ ∀ u ∈ vs,u.oneCell' = true) ∧ v = .pointer (some ⟨b,0,none⟩)
 | .sl cs len k _ => (∃ vs el,ob = .cells vs.toArray el (0,0) ∧ Rels g cs vs ∧ (∀ u ∈ vs,u.oneCell' = true) ∧ vs.length = len * k) ∧ v = .slice (some ⟨b,0,none⟩) len len
 | .mp => ob = .map #[] 0 ∧ v = .map (some b)
theorem Made.mono {g g':G} (h:g.lee g') {b:Nat} {ob:Obj} {v:Value}:∀ {c:Cr},Made g b ob v c → Made g' b ob v c
 | .ptr _,⟨⟨vs,el,a,b,c⟩,d⟩ => ⟨⟨vs,el,a,b.monoE h,c⟩,d⟩
 | .sl _ _ _ _,⟨⟨vs,el,a,b,c⟩,d⟩ => ⟨⟨vs,el,a,b.monoE h,c⟩,d⟩
 | .mp,k => k
theorem Made.kind {b:Nat} {ob:Obj} {v:Value}:∀ {c:Cr},Made g b ob v c → ob.isCells = true ∨ ∃ es c,ob = .map es c
 | .ptr _,⟨⟨_,_,a,_⟩,_⟩ => .inl (by rw [a]; rfl)
 | .sl _ _ _ _,⟨⟨_,_,a,_⟩,_⟩ => .inl (by rw [a]; rfl)
 | .mp,⟨a,_⟩ => .inr ⟨_,_,a⟩
def G.adopt (g:G) (b s l:Nat):G:=(g.pins fun i => if i = b then none else g.pn i).new b 0 s l
theorem G.lee_adopt (g:G) (b s l:Nat):g.lee (g.adopt b s l):=by
 have h:=(G.lee_pins g fun i => if i = b then none else g.pn i)
 have k:=(G.le_new (g.pins fun i => if i = b then none else g.pn i) b 0 s l).lee
 exact ⟨Nat.le_trans h.n k.n,fun id hi => (k.mu id hi).trans (h.mu id hi),fun id hi => (k.sz id hi).trans (h.sz id hi),fun id hi => (k.ln id hi).trans (h.ln id hi),fun b o v hv => k.fz b o v (h.fz b o v hv)⟩
theorem WR.adopt (h:WR B W g m w) {b:Nat} {ob:Obj} {v:Value} {c:Cr} (hp:g.pn b = some ob) (hm:Made g b ob v c):∃ s l,WR B W (g.adopt b s l) (c.at m).2 w ∧ Rel (g.adopt b s l) (c.at m).1 v:=by
 have p:=h.x.pn b ob hp
 have h':WR B W (g.pins fun i => if i = b then none else g.pn i) m w:=h.repin _ fun b' o' hb => by
  split at hb
  ·cases hb
  ·exact h.x.pn b' o' hb
 have e:=G.lee_pins g fun i => if i = b then none else g.pn i
 have hno:(g.pins fun i => if i = b then none else g.pn i).pn b = none:=by simp [G.pins]
 cases c with
 | ptr cs =>
  obtain ⟨⟨vs,el,rfl,h2,h3⟩,rfl⟩:=hm
  refine ⟨vs.length,cs.length,h'.take p.base p.here p.fz p.obj hno (h2.monoE e) h3,?_⟩
  show Rel _ (.ptr m.next 0) _
  rw [h'.n]
  exact Ahz _ b 0 _ _ 0
 | sl cs len k ag =>
  obtain ⟨⟨vs,el,rfl,h2,h3,h4⟩,rfl⟩:=hm
  refine ⟨vs.length,cs.length,h'.take p.base p.here p.fz p.obj hno (h2.monoE e) h3,?_⟩
  show Rel _ (.sl m.next 0 len k ag (some len)) _
  rw [h'.n]
  exact Ad9 _ b _ _ len k ag (some len) len (Nat.le_refl _) (by rw [h4]; exact Nat.le_refl _) (by intro c' hc'; simpa using hc') (by simp)
 | mp =>
  obtain ⟨rfl,rfl⟩:=hm
  refine ⟨0,0,h'.takeMap p.base p.here p.map hno,?_⟩
  show Rel _ (.mp m.next) _
  rw [h'.n]
  exact Af5 _ b
def crea (P:Program) (s:Sl) (o:Oper):Option Cr :=
 match o.op with
 | .alloc T => (tzero P T).bind fun z => if z.okc then some (.ptr z.cells) else none
 | .box _ x => if (ev s x).okc then some (.ptr (ev s x).cells) else none
 | .makeMap T r => (amakeMap P T (r.map (ev s)) Mem.empty).map fun _ => .mp
 | .buildSlice T len ps => match telem P T with
  | some e => match tsize P e,tzero P e,tagg P e with
   | some k,some z,some ag =>
    if 0 < k ∧ z.okc = true ∧ z.cells.length = k ∧ len * k ≤ 2 ^ 20 then
     (fillAt (fun i => some (i * k,k)) (zeros z.cells len) ((ps.toList.map (·.1)).zip (fzx P T Mem.empty (ps.toList.map fun p => ev s p.2)).1)).map fun cs => .sl cs len k ag
    else none
   | _,_,_ => none
  | _ => none
 | _ => none
theorem Amy {m:Mem}:∀ {v:AV},(match v with | .sl _ _ _ _ _ _ => false | _ => true) = true → fz1 m v = ((fz1 Mem.empty v).1,m)
 | .sl _ _ _ _ _ _,h => by cases h
 | .sc _,_ | .ptr _ _,_ | .cptr _ _,_ | .emp _,_ | .lst _,_ | .fn _ _ _,_ | .mp _,_ | .yl _,_ | .iface _ _,_ | .agg _,_ | .tup _,_ => rfl
theorem Aie {m:Mem}:∀ {l:List AV},(l.all fun | .sl _ _ _ _ _ _ => false | _ => true) = true → fzs m l = ((fzs Mem.empty l).1,m)
 | [],_ => rfl
 | v :: l,h => by
  simp only [List.all_cons,Bool.and_eq_true] at h
  have h1:=Amy (m:=m) h.1
  have h2:=Amy (m:=Mem.empty) h.1
  simp only [fzs,h1,Aie (m:=m) h.2]
  rw [h2,Aie (m:=Mem.empty) h.2]
theorem Amu {m:Mem} {v:AV} (h:noSl v = true):fzv m v = ((fzv Mem.empty v).1,m):=by
 cases v with
 | agg cs =>
  have:=Aie (m:=m) (l:=cs) h
  simp only [fzv,this]
 | sl _ _ _ _ _ _ => cases h
 | _ => rfl
theorem Age {m:Mem}:∀ {l:List AV},l.all noSl = true → fzvs m l = ((fzvs Mem.empty l).1,m)
 | [],_ => rfl
 | v :: l,h => by
  simp only [List.all_cons,Bool.and_eq_true] at h
  simp only [fzvs,Amu (m:=m) h.1,Age (m:=m) h.2]
  rw [Amu (m:=Mem.empty) h.1,Age (m:=Mem.empty) h.2]
theorem Ams {P:Program} {T:TypeId} {m:Mem} {l:List AV} (h:l.all noSl = true):fzx P T m l = ((fzx P T Mem.empty l).1,m):=by
 unfold fzx
 split
 ·rfl
 ·exact Age h
theorem Aqs {s:Sl} {o:Oper} (hc:creator o = true) (hq:quiet s o = true) (m:Mem):aop P s o m = (crea P s o).map fun c => c.at m:=by
 obtain ⟨dst,op,type,pos,after,guard⟩:=o
 cases op <;> first | (simp [creator] at hc; done) | skip
 case alloc T =>
  simp only [aop,crea]
  cases tzero P T with
  | none => rfl
  | some z => simp only [Option.bind_some]; split <;> rfl
 case box T y =>
  simp only [aop,crea]
  split <;> rfl
 case makeMap T r =>
  simp only [aop,crea,amakeMap]
  split <;> rfl
 case buildSlice T len ps =>
  simp only [quiet,List.all_eq_true] at hq
  have hz:fzx P T m ((ps.toList.map fun p => (p.1,ev s p.2)).map (·.2)) = ((fzx P T Mem.empty (ps.toList.map fun p => ev s p.2)).1,m):=by
   have e:(ps.toList.map fun p => (p.1,ev s p.2)).map (·.2) = ps.toList.map fun p => ev s p.2:=by simp
   rw [e]
   refine Ams (List.all_eq_true.2 fun v hv => ?_)
   obtain ⟨p,hp,rfl⟩:=List.mem_map.1 hv
   exact hq p hp
  have e1:(ps.toList.map fun p => (p.1,ev s p.2)).map (·.1) = ps.toList.map (·.1):=by simp
  simp only [aop,crea,abuildSlice,hz,e1]
  cases telem P T with
  | none => rfl
  | some e =>
   dsimp only
   cases tsize P e with
   | none => rfl
   | some k0 =>
    cases tzero P e with
    | none => rfl
    | some z =>
     cases tagg P e with
     | none => rfl
     | some ag =>
      dsimp only
      by_cases hcnd:0 < k0 ∧ z.okc = true ∧ z.cells.length = k0 ∧ len * k0 ≤ 2 ^ 20
      ·rw [if_pos hcnd,if_pos hcnd,Option.map_map]; rfl
      ·rw [if_neg hcnd,if_neg hcnd]; rfl
theorem A0w (h:WR B W g m w) {s:Sl} {a:Act} {o:Oper} (hc:creator o = true) (hq:quiet s o = true) (k:OR g s a o.op.operands.toList) {c:Cr} (e:crea P s o = some c) :
  ∃ g' ob v,g.le g' ∧ (execOp a.eval o).run P w = .ok (.value v) (w.alloc ob) ∧ WR B W g' m (w.alloc ob) ∧ g'.pn w.heap.size = some ob ∧ Made g' w.heap.size ob v c:=by
 have fin:∀ {g':G} {ob:Obj} {v:Value},g.le g' → WR B W g' m w → (execOp a.eval o).run P w = .ok (.value v) (w.alloc ob) → Made g' w.heap.size ob v c →
   ∃ g' ob v,g.le g' ∧ (execOp a.eval o).run P w = .ok (.value v) (w.alloc ob) ∧ WR B W g' m (w.alloc ob) ∧ g'.pn w.heap.size = some ob ∧ Made g' w.heap.size ob v c :=
  fun {g' ob v} l h' hr hm => ⟨g'.pins fun b => if b = w.heap.size then some ob else g'.pn b,ob,v,l.trans ⟨Nat.le_refl _,fun _ _ => rfl,fun _ _ => rfl,fun _ _ => rfl,fun _ _ _ h => h,fun _ h => h,fun _ h => h,fun b o hb => by
   show (if b = w.heap.size then some ob else g'.pn b) = some o
   rw [if_neg (fun e => by rw [e,h'.pin_fresh] at hb; cases hb)]
   exact hb⟩,hr,h'.pin ob hm.kind,by simp [G.pins],hm.mono (G.lee_pins _ _)⟩
 have var:∀ {x:AV} {v:Value} (T:TypeId),Rel g x v → x.okc = true → ∃ ob,(newVar T v).run P w = .ok ⟨w.heap.size,0,none⟩ (w.alloc ob) ∧ Made g w.heap.size ob (.pointer (some ⟨w.heap.size,0,none⟩)) (.ptr x.cells):=by
  intro x v T hr ho
  refine ⟨.cells v.cells T,?_,⟨v.cells.toList,T,by simp,hr.cells,hr.one ho⟩,rfl⟩
  simp only [newVar,newRow,Sem.run_bind,run_newObj,Result.andThen_ok,Sem.run_pure]; rfl
 obtain ⟨dst,op,type,pos,after,guard⟩:=o
 cases op <;> first | (simp [creator] at hc; done) | skip
 case alloc T =>
  simp only [crea] at e
  cases hz:tzero P T with
  | none => rw [hz] at e; cases e
  | some z =>
   rw [hz] at e
   simp only [Option.bind_some] at e
   split at e
   ·rename_i hok
    cases e
    obtain ⟨zv,rfl,hv,_⟩:=Abq hz
    obtain ⟨ob,h1,h2⟩:=var T (Aap zv) hok
    exact fin (.refl g) h (by simp [execOp,Instr.alloc,hv,h1]) h2
   ·cases e
 case box T y =>
  simp only [crea] at e
  split at e
  ·rename_i hok
   cases e
   obtain ⟨ob,h1,h2⟩:=var T (k y (by simp [Op.operands])) hok
   exact fin (.refl g) h (by simp [execOp,Instr.box,h1]) h2
  ·cases e
 case makeMap T r =>
  have run:∀ {v:Option Value},orel g (r.map (ev s)) v → ((amakeMap P T (r.map (ev s)) Mem.empty).map fun _ => Cr.mp) = some c → c = .mp ∧ (Instr.makeMap T v).run P w = .ok (.map (some w.heap.size)) (w.alloc (.map #[] 0)):=by
   intro v rx e
   unfold amakeMap at e
   split at e
   ·rename_i ht hr
    simp only [Option.map_some,Option.some.injEq] at e
    refine ⟨e.symm,?_⟩
    cases v with
    | some _ => rw [hr] at rx; exact rx.elim
    | none => unfold Instr.makeMap; simp [Sem.run_bind]
   ·rename_i y q n ht hr
    simp only [Option.map_some,Option.some.injEq] at e
    refine ⟨e.symm,?_⟩
    cases v with
    | none => rw [hr] at rx; exact rx.elim
    | some v =>
     have:v = .int q n:=by rw [hr] at rx; simpa [orel,Rel] using rx
     subst this
     obtain ⟨a,b⟩:=y
     have hu:=Af8 ht
     unfold Instr.makeMap
     simp [Sem.run_bind,run_underlying hu,asInt,asIntOf]
   ·cases e
  have rx:orel g (r.map (ev s)) (r.map a.eval):=Acq (by simpa [Op.operands] using k)
  obtain ⟨rfl,hr⟩:=run rx (by simpa [crea] using e)
  exact fin (ob:=.map #[] 0) (v:=.map (some w.heap.size)) (.refl g) h (by simp [execOp,hr]) ⟨rfl,rfl⟩
 case buildSlice T len ps =>
  simp only [quiet,List.all_eq_true] at hq
  simp only [crea] at e
  split at e
  ·rename_i el ht
   split at e
   ·rename_i k0 z ag hs hz hag
    split at e
    ·rename_i hcnd
     obtain ⟨c1,c2,c3,c4⟩:=hcnd
     obtain ⟨zv,hzv,hzr,_⟩:=Abq hz
     simp only [Option.map_eq_some_iff] at e
     obtain ⟨cs',hf,rfl⟩:=e
     obtain ⟨h1,h2⟩:=Ad8 (ps:=ps.toList) (by simpa [Op.operands] using k)
     have e2:(ps.toList.map fun p => (p.1,ev s p.2)).map (·.2) = ps.toList.map fun p => ev s p.2:=by simp
     have e1:(ps.toList.map fun p => (p.1,ev s p.2)).map (·.1) = ps.toList.map (·.1):=by simp
     rw [e2] at h2
     rw [e1] at h1
     obtain ⟨g1,l1,w1,r1⟩:=Aid (P:=P) T _ h h2
     have hz':fzx P T m (ps.toList.map fun p => ev s p.2) = ((fzx P T Mem.empty (ps.toList.map fun p => ev s p.2)).1,m):=by
      refine Ams (List.all_eq_true.2 fun v hv => ?_)
      obtain ⟨p,hp,rfl⟩:=List.mem_map.1 hv
      exact hq p hp
     rw [hz'] at w1 r1
     generalize (fzx P T Mem.empty (ps.toList.map fun p => ev s p.2)).1 = ps' at *
     dsimp only at w1 r1
     have hr:Rel g1 z zv:=by rw [hzv]; exact Aap zv
     have hzs:zv.cells.size = k0:=by rw [← c3,← hr.cells.length]; simp
     have hl1:(ps.toList.map (·.1)).length = ps'.length:=by
      have a1:=h2.length; have a2:=r1.length
      simp at a1 a2 ⊢
      omega
     obtain ⟨vs',f1,f2,f3⟩:=Adb (fun i => some (i * k0,k0)) ((ps.toList.map (·.1)).zip ps') (zeros z.cells len) _ (ps.toList.map fun p => (p.1,a.eval p.2)) cs' (Aby hr (by omega) len) (Ah4 hr c2 (by omega) len)
      (by rw [← h1,List.map_fst_zip (by omega)]) (by rw [List.map_snd_zip (by omega)]; exact r1) hf
     have hlen:vs'.length = len * k0:=by
      have key:∀ (ps:List (Nat × AV)) (cs cs':List AV),fillAt (fun i => some (i * k0,k0)) cs ps = some cs' → cs'.length = cs.length:=by
       intro ps
       induction ps with
       | nil => intro cs cs' h; simp only [fillAt,Option.some.injEq] at h; rw [h]
       | cons p ps ih =>
        intro cs cs' h
        simp only [fillAt] at h
        split at h
        ·rename_i hc'
         rw [ih _ _ h]
         simp [splice]
         omega
        ·cases h
      rw [f2.length,key _ _ _ hf,← (Aby hr (by omega) len).length]
      simp [hzs]
     refine fin (ob:=.cells vs'.toArray el) (v:=.slice (some ⟨w.heap.size,0,none⟩) len len) l1 w1 ?_ ⟨⟨vs',el,rfl,f2,f3,hlen⟩,rfl⟩
     have hbs:(Instr.buildSlice T len (ps.toList.map fun p => (p.1,a.eval p.2)).toArray).run P w = .ok (.slice (some ⟨w.heap.size,0,none⟩) len len) (w.alloc (.cells vs'.toArray el)):=by
      have hbig:¬ (2 ^ 24 < len * k0):=by omega
      have hzc:zv.cells.size ≠ 0:=by omega
      simp only [Instr.buildSlice,Sem.run_bind,run_underlying (Abk ht),Result.andThen_ok,Aaw hs]
      rw [if_neg hbig]
      by_cases h0:len * k0 = 0
      ·have hl0:len = 0:=by
        rcases Nat.mul_eq_zero.1 h0 with h | h
        ·exact h
        ·omega
       subst hl0
       rw [if_pos h0]
       simp only [Nat.zero_mul,List.range_zero,List.map_nil] at f1
       have ha:(Array.map (fun x => (#[]:Array Value)[x % (#[]:Array Value).size]!) (Array.range (0 * k0))) = ([]:List Value).toArray:=by simp
       simp only [pure_bind,ha,f1,Sem.run_bind,newRow,run_newObj,Result.andThen_ok,Sem.run_pure]
       rfl
      ·rw [if_neg h0]
       have ha:((Array.range (len * k0)).map fun i => zv.cells[i % zv.cells.size]!) = ((List.range (len * zv.cells.size)).map fun i => zv.cells[i % zv.cells.size]!).toArray:=by
        rw [hzs]
        apply Array.ext'
        simp
       simp only [Sem.run_bind,hzr,Result.andThen_ok,pure_bind,ha,f1,newRow,run_newObj,Sem.run_pure]
       rfl
     have hps:(ps.map fun (i,x) => (i,a.eval x)) = (ps.toList.map fun p => (p.1,a.eval p.2)).toArray:=by
      apply Array.ext'
      simp
     simp only [execOp,hps,Sem.run_bind,hbs,Result.andThen_ok,Sem.run_pure]
    ·cases e
   ·cases e
  ·cases e
end Go.V
