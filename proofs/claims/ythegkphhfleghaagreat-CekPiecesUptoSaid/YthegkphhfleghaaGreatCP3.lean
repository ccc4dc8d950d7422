/- Part of a proof. -/
import Derived.Test.YthegkphhfleghaaGreatCP2
import Derived.OrdersIn
import Derived.LoopNIn
import Derived.RangeFuncNested
set_option maxHeartbeats 64000000
set_option linter.unusedSimpArgs false
set_option linter.unusedVariables false
set_option linter.unusedSectionVars false
namespace Go.V
theorem An3 {P:Program} {T:TypeId} {cs cs':List AV} {off:Nat} (h1:cs'.length = cs.length) (h2:cs'.drop off = cs.drop off):partOf P T cs' off = partOf P T cs off:=by
 have h3:cs'[off]? = cs[off]?:=by
  have e:∀ l:List AV,l[off]? = (l.drop off)[0]?:=fun l => by simp
  rw [e,e,h2]
 unfold partOf
 rw [h1,h2,h3]
open Go.RowKit
variable {P:Program} {B:Bs} {W:World} {g:G} {m:Mem} {w:World} {H:Calls1}
def CallOk (P:Program) (B:Bs) (W:World) (f:FuncId) (args:List AV) (m:Mem) (v:AV) (m':Mem):Prop :=
 ∀ (g:G) (w:World) (vals:List Value),Rels g args vals → WR B W g m w →
  ((callFunc f vals.toArray).run P w = .ok (.enter f vals.toArray) w ∧ Calls P f vals.toArray w fun e w' => ∃ v' g',e = .returned v' ∧ g.le g' ∧ Rel g' v v' ∧ WR B W g' m' w') ∨
  ∃ v' g' w',(callFunc f vals.toArray).run P w = .ok (.value v') w' ∧ g.le g' ∧ Rel g' v v' ∧ WR B W g' m' w'
def fw (ro:Option Nat):Fence:={ Fence.wide with round:=ro }
def RoundOk (P:Program) (B:Bs) (W:World) (id:Nat) (args:List AV) (m:Mem) (v:AV) (m':Mem):Prop :=
 ∀ (g:G) (w:World) (vals:List Value),Rels g args vals → WR B W g m w → ∃ r:Loop,w.heap[(g.mu id).1]? = some (.loop r) ∧ vals.length = r.params.size ∧
  RoundIn Fence.wide 0 P (g.mu id).1 r.fn ((r.params.zip vals.toArray).foldl (fun tmps (t,a) => tmps.setIfInBounds t a) r.tmps) r.assign r.body w fun e w' => ∃ v' g',e = .returned v' ∧ g.le g' ∧ Rel g' v v' ∧ WR B W g' m' w'
structure HSound (P:Program) (B:Bs) (W:World) (H:Calls1):Prop where
 func:∀ f args m v m',H (.func f) args m = some (v,m') → VI m → CallOk P B W f args m v m'
 yield:∀ id args m v m',H (.yield id) args m = some (v,m') → VI m → RoundOk P B W id args m v m'
 other:∀ fn args m,(∀ f,fn ≠ .func f) → (∀ l,fn ≠ .yield l) → H fn args m = none
def vbool:Value → Option Bool
 | .bool b => some b
 | _ => none
theorem Aii {x:AV} {v:Value} (h:Rel g x v):abool x = vbool v:=by
 cases v with
 | bool b => rw [Ax9 h]; rfl
 | _ =>
  unfold abool
  split
  ·simp [Rel] at h
  ·rfl
theorem Ala {N:Nat} {s:Sl} {a:Act} (k:SR g N s a) (ops:Array Oper) (j:Nat):ayields ops s j = yielded ops a.tmps j:=by
 unfold ayields yielded
 cases hd:(ops[j]?).bind (·.dst) with
 | none => rfl
 | some d =>
  simp only [Option.bind_some]
  rw [Aii (k.rel d)]
  cases ht:a.tmps[d]? with
  | none => simp [ht,undef,vbool]
  | some v => simp [ht]; cases v <;> rfl
theorem Ago {N:Nat} {s:Sl} {a:Act} (k:SR g N s a) (ops:Array Oper) (o:Oper):Region.wanted o (ayields ops s) = Region.wanted o (yielded ops a.tmps):=by
 unfold Region.wanted
 split
 ·rfl
 ·rw [Ala k]
theorem Ab1 (ro:Option Nat) (hH:HSound P B W H) (h:WR B W g m w) {s:Sl} {a:Act} {o:Oper} (hvi:rank o = 2 → VI m) (k:OR g s a o.op.operands.toList) {x:AV} {m':Mem} (e:astep P H s o m = some (x,m'))
  {K:Act → World → Prop} {Q:Exit → Act → World → Prop} (hK:∀ g' v' w',g.le g' → Rel g' x v' → WR B W g' m' w' → K (a.put o.dst v') w'):o.wpIn (fw ro) 0 P a w K Q:=by
 refine ⟨fun _ _ => trivial,?_⟩
 have plain:aop P s o m = some (x,m') → o.uponIn (fw ro) 0 P a K Q ((o.semAt (fw ro).round a.eval).run P w):=by
  intro e
  obtain ⟨w',g',v',h1,h2,h3,h4⟩:=Awj h k e
  rw [Oper.semAt_eq _ _ _ (by intro c hc; unfold aop at e; rw [hc] at e; cases e)]
  rcases h1 with h1 | ⟨h1,rfl⟩
  ·rw [h1]; exact hK g' v' w' h2 h3 h4
  ·rw [h1]; exact hK g' undef w' h2 h3 h4
 unfold astep at e
 split at e
 ·rename_i f args ts ho
  rw [Oper.semAt_eq _ _ _ (by intro c hc; rw [ho] at hc; cases hc)]
  split at e
  ·rename_i fid first captured hf
   have kf:=k f (by simp [ho,Op.operands,Call.operands])
   rw [hf] at kf
   simp only [Rel] at kf
   obtain ⟨vf,vc,hv,h1,h2⟩:=kf
   have hargs:=(h1.append (OR.evs (xs:=args.toList) fun y hy => k y (by simp [ho,Op.operands,Call.operands]; exact .inr (by simpa using hy)))).append h2
   have hex:(execOp a.eval o).run P w = (callFunc fid (vf ++ args.toList.map a.eval ++ vc).toArray).run P w:=by
    have:(vf ++ args.toList.map a.eval ++ vc).toArray = vf.toArray ++ args.map a.eval ++ vc.toArray:=by
     apply Array.ext'
     simp
    simp only [execOp,ho,resolve,hv,Deferred.ofValue,Sem.run_bind,Sem.run_pure,Result.andThen_ok,invoke,this]
   rw [hex]
   rcases hH.func fid _ m x m' e (hvi (by obtain ⟨dst,op,ty,pos,af,gd⟩:=o; simp only at ho; subst ho; rfl)) g w _ hargs h with ⟨c1,c2⟩ | ⟨v',g',w',c1,c2,c3,c4⟩
   ·rw [c1]
    refine ⟨(by intro h; cases h),CallsIn.mono ((callsIn_wide (n:=0)).2 c2:CallsIn Fence.wide 0 P fid _ w _) fun e' w' ⟨v',g',he,d1,d2,d3⟩ => ?_⟩
    subst he
    exact hK g' v' w' d1 d2 d3
   ·rw [c1]
    exact hK g' v' w' c2 c3 c4
  ·rename_i id hf
   have kf:=k f (by simp [ho,Op.operands,Call.operands])
   rw [hf] at kf
   simp only [Rel] at kf
   obtain ⟨_,hv⟩:=kf
   have hargs:=OR.evs (xs:=args.toList) fun y hy => k y (by simp [ho,Op.operands,Call.operands]; exact .inr (by simpa using hy))
   obtain ⟨r,c1,c2,c3⟩:=hH.yield id _ m x m' e (hvi (by obtain ⟨dst,op,ty,pos,af,gd⟩:=o; simp only at ho; subst ho; rfl)) g w _ hargs h
   have hex:(execOp a.eval o).run P w = (Instr.yield (g.mu id).1 (args.toList.map a.eval).toArray).run P w:=by
    have:(args.toList.map a.eval).toArray = args.map a.eval:=by
     apply Array.ext'
     simp
    simp only [execOp,ho,resolve,hv,Deferred.ofValue,Sem.run_bind,Sem.run_pure,Result.andThen_ok,invoke,this]
    simp
   rw [hex,run_yield c1 (by simpa using c2)]
   refine ⟨(by intro h; cases h),RoundIn.mono c3 fun e' w' ⟨v',g',he,d1,d2,d3⟩ => ?_⟩
   subst he
   exact hK g' v' w' d1 d2 d3
  ·cases e
 ·exact plain e
theorem Ast (h:WR B W g m w) {T:TypeId} {a:AV} {v:Value} (k:Rel g a v) {lo hi mx:Option AV} {vlo vhi vmx:Option Value} (kl:orel g lo vlo) (kh:orel g hi vhi) (kq:orel g mx vmx)
  {x:AV} {m':Mem} (e:aarr P T a lo hi mx m = some (x,m')):m' = m ∧ ∃ u,(Instr.sliceAt T v vlo vhi vmx).run P w = .ok u w ∧ Rel g x u:=by
 refine ⟨Alg P e,?_⟩
 unfold aarr at e
 split at e
 ·rename_i n el ht
  split at e
  ·rename_i id off ks ag l h' hs ha hlo hhi
   split at e
   ·rename_i cs f ver hg
    split at e
    ·rename_i hc
     obtain ⟨c1,c2,c3⟩:=hc
     cases e
     have hvm:vmx = none:=by
      cases vmx with
      | none => rfl
      | some v => exact kq.elim
     subst hvm
     have hu:=Aks ht
     dsimp only at hu
     simp only [Rel] at k
     obtain ⟨hid,rfl⟩:=k
     have bl:=Afe hlo kl
     have bh:=Afe hhi kh
     have hb:(Instr.sliceBounds false n n vlo vhi none).run P w = .ok (l.getD 0,h'.getD n,n) w:=by
      rcases bh with ⟨rfl,rfl⟩ | ⟨k2,i2,h2,rfl,rfl⟩ <;> rcases bl with ⟨rfl,rfl⟩ | ⟨k1,i1,h1,rfl,rfl⟩ <;>
       (simp only [Option.getD_some,Option.getD_none] at c1 c2 ⊢
        simp only [Instr.sliceBounds]
        simp [Alv, *])
     obtain ⟨_,⟨pre,vs,post,elt,h2,h3,h4,h5,_⟩,_⟩:=h.objs id cs f ver hg
     have hvl:=h4.length
     simp only [List.length_append] at h5
     have hrun:∀ ad:Addr,(Instr.sliceAt T (.pointer (some ad)) vlo vhi none).run P w = .ok (.slice (some (if n = l.getD 0 then ad else ad.add (l.getD 0 * ks))) (h'.getD n - l.getD 0) (n - l.getD 0)) w:=fun ad => by
      simp [Instr.sliceAt,run_underlying hu,Instr.sureAddr,hb,Aaw hs]
     refine ⟨_,hrun _,?_⟩
     simp only [Rel]
     refine ⟨hid,_,n - l.getD 0,rfl,by omega,fun hc0 => ?_,fun c' hc' => by cases hc'; rfl,by simp⟩
     have hne:¬ n = l.getD 0:=by omega
     rw [if_neg hne,Acz]
     refine ⟨by rw [Nat.add_assoc],?_⟩
     have:(n - l.getD 0) * ks + l.getD 0 * ks = n * ks:=by rw [← Nat.add_mul]; congr 1; omega
     omega
    ·cases e
   ·cases e
  ·cases e
 ·cases e
theorem Anl (h:WR B W g m w) {T U:TypeId} {x:AV} {v:Value} (k:Rel g x v) {ys:List AV} (he:elemsOf m x = some ys) {r:AV} (e:aconvB P T U (.lst ys) = some r):∃ v',(convert T U v).run P w = .ok v' w ∧ Rel g r v':=by
 unfold aconvB at e
 split at e
 ·split at e
  ·rename_i hx; cases hx
  ·cases e
 ·rename_i el h1 h2
  split at e
  ·rename_i l h3 h4
   cases e
   have h4:ys.mapM byteOf = some l:=h4
   obtain ⟨a,c,vs,rfl,k2,kk,k4⟩:=Afm h k he
   obtain ⟨ns,rfl,rfl⟩:=Aey h4 k2
   have hlen:=k2.length
   rw [List.length_map] at hlen
   refine ⟨_,?_,rfl⟩
   rw [run_convert_bytes_string w T U el _ _ _ h1 h3 h2]
   cases a with
   | none =>
    have:ns = []:=by
     cases ns with
     | nil => rfl
     | cons n0 ns => obtain ⟨_,b,o,ha,_⟩:=k4 0 (.int .u8 n0) rfl; cases ha
    subst this
    simp [Conv.bytesToString]
    rfl
   | some a =>
    cases hns:ns with
    | nil =>
     have hx:ys.length = 0:=by rw [← hlen,hns]; rfl
     rw [hx]
     have hl:(loadCells a 0).run P w = .ok (([]:List Int).map (Value.int .u8)).toArray w:=rfl
     rw [run_bytesToString w a 0 c [] hl]
     rfl
    | cons n0 ns' =>
     have h0:(ns.map (Value.int .u8))[0]? = some (.int .u8 n0):=by rw [hns]; rfl
     obtain ⟨hq,b,o,ha,_⟩:=k4 0 _ h0
     have hq1:kk = 1:=by rw [← hq]; rfl
     subst hq1
     simp only [Option.some.injEq] at ha
     subst ha
     have hl:(loadCells ⟨b,o,none⟩ ys.length).run P w = .ok (ns.map (Value.int .u8)).toArray w:=by
      have:=run_loadCells_list (P:=P) w ⟨b,o,none⟩ (ns.map (Value.int .u8)) (fun j v hj => by
       obtain ⟨_,b',o',ha',hf⟩:=k4 j v hj
       simp only [Option.some.injEq,Addr.mk.injEq,and_true] at ha'
       obtain ⟨rfl,rfl⟩:=ha'
       rw [Acz]
       have hv:v.cells[0]? = some v:=by
        simp only [List.getElem?_map,Option.map_eq_some_iff] at hj
        obtain ⟨n,_,rfl⟩:=hj
        rfl
       have:=hf 0 v hv
       simpa using this)
      simpa [hlen] using this
     rw [hns] at hl
     rw [run_bytesToString w ⟨b,o,none⟩ ys.length c _ hl,Af6]
     simp [ByteArray.empty,ByteArray.emptyWithCapacity]
     rfl
  ·cases e
 ·cases e
theorem Ain (ro:Option Nat) (h:WR B W g m w) {s:Sl} {a:Act} {o:Oper} (k:OR g s a o.op.operands.toList) {x:AV} {m':Mem} (e:amlen P s o m = some (x,m'))
  {K:Act → World → Prop} {Q:Exit → Act → World → Prop} (hK:∀ g' v' w',g.le g' → Rel g' x v' → WR B W g' m' w' → K (a.put o.dst v') w'):o.wpIn (fw ro) 0 P a w K Q:=by
 refine ⟨fun _ _ => trivial,?_⟩
 unfold amlen at e
 split at e
 ·rename_i args ts ho
  split at e
  ·rename_i t id ht hx
   split at e
   ·rename_i kt et M hu hM
    cases e
    have kx:=OR.evs (xs:=args.toList) fun y hy => k y (by simp [ho,Op.operands,Call.operands]; simpa using hy)
    rw [hx] at kx
    simp only [Rels] at kx
    obtain ⟨v,rest,hv,k1,rfl⟩:=kx
    simp only [Rel] at k1
    obtain ⟨_,rfl⟩:=k1
    obtain ⟨_,_,es,h2,hE⟩:=h.x.mids id M hM
    have ha:args.map a.eval = #[Value.map (some (g.mu id).1)]:=by
     apply Array.ext'
     simpa using hv
    rw [Oper.semAt_eq _ _ _ (by intro c hc; rw [ho] at hc; cases hc)]
    have hex:(execOp a.eval o).run P w = .ok (.value (goInt M.es.length)) w:=by
     have hl:es.toArray.size = M.es.length:=by simp [hE.length]
     simp [execOp,ho,resolve,invoke,builtin,ha,Builtin.len_,ht,run_underlying hu,Abm h2,hE.length]
    rw [hex]
    exact hK g _ w (.refl g) rfl h
   ·cases e
  ·cases e
 ·rename_i T U x ho
  split at e
  ·rename_i ys hy
   simp only [Option.map_eq_some_iff,Prod.mk.injEq] at e
   obtain ⟨r,hr,rfl,rfl⟩:=e
   obtain ⟨v',h1,h3⟩:=Anl h (k x (by simp [ho,Op.operands])) hy hr
   rw [Oper.semAt_eq _ _ _ (by intro c hc; rw [ho] at hc; cases hc)]
   have hex:(execOp a.eval o).run P w = .ok (.value v') w:=by simp [execOp,ho,h1]
   rw [hex]
   exact hK g v' w (.refl g) h3 h
  ·cases e
 ·rename_i T x lo hi mx ho
  obtain ⟨rfl,u,h1,h2⟩:=Ast h (k x (by simp [ho,Op.operands])) (Acq (x:=lo) (fun y hy => k y (by simp [ho,Op.operands]; simp at hy; simp [hy]))) (Acq (x:=hi) (fun y hy => k y (by simp [ho,Op.operands]; simp at hy; simp [hy]))) (Acq (x:=mx) (fun y hy => k y (by simp [ho,Op.operands]; simp at hy; simp [hy]))) e
  rw [Oper.semAt_eq _ _ _ (by intro c hc; rw [ho] at hc; cases hc)]
  have hex:(execOp a.eval o).run P w = .ok (.value u) w:=by simp [execOp,ho,h1]
  rw [hex]
  exact hK g u w (.refl g) h2 h
 ·cases e
theorem Agv (ro:Option Nat) (hH:HSound P B W H) (h:WR B W g m w) {s:Sl} {a:Act} {o:Oper} (hvi:rank o = 2 → VI m) (k:OR g s a o.op.operands.toList) {x:AV} {m':Mem} (e:astepU P H s o m = some (x,m'))
  {K:Act → World → Prop} {Q:Exit → Act → World → Prop} (hK:∀ g' v' w',g.le g' → Rel g' x v' → WR B W g' m' w' → K (a.put o.dst v') w'):o.wpIn (fw ro) 0 P a w K Q:=by
 unfold astepU at e
 split at e
 ·rename_i q hq
  cases e
  exact Ab1 ro hH h hvi k hq hK
 ·exact Ain ro h k e hK
theorem Agh (ro:Option Nat) (hH:HSound P B W H) (hV:HVer H) {N:Nat} (ops:Array Oper) {Q:Exit → Act → World → Prop} (D:List Deferred):∀ (rest:List Oper) (i:Nat) (s:Sl) (m:Mem) (s':Sl) (m':Mem),ops.toList.drop i = rest → aops P H N ops rest s m = some (s',m') → VI m →
  ∀ (g:G) (a:Act) (w:World),a.defers = D → SR g N s a → WR B W g m w → (∀ g' a' w',g.le g' → a'.defers = D → SR g' N s' a' → WR B W g' m' w' → Q .normal a' w') → wpOpsIn (fw ro) 0 P ops Q (List.range' i rest.length) a w
 | [],i,s,m,s',m',hd,e,hvi,g,a,w,hdf,k,h,hQ => by
  simp only [aops,Option.some.injEq,Prod.mk.injEq] at e
  obtain ⟨rfl,rfl⟩:=e
  exact hQ g a w (.refl g) hdf k h
 | o :: rest,i,s,m,s',m',hd,e,hvi,g,a,w,hdf,k,h,hQ => by
  have ho:ops[i]? = some o:=by
   have:ops.toList[i]? = some o:=by
    rw [← List.head?_drop,hd]; rfl
   simpa using this
  have hd':ops.toList.drop (i + 1) = rest:=by
   rw [← List.drop_drop,hd]; rfl
  simp only [List.length_cons,List.range'_succ,wpOpsIn,ho]
  rw [← Ago k ops o]
  simp only [aops] at e
  split at e
  ·rename_i hw
   simp only [hw,if_true]
   split at e
   ·rename_i v m1 hstep
    split at e
    ·rename_i s1 hput
     refine (Agv ro hH h (fun _ => hvi) (k.or _) hstep fun g' v' w' l1 r1 w1 => ?_)
     refine Agh ro hH hV ops D rest (i + 1) s1 m1 s' m' hd' e ((VM.astepU hV hstep).inv hvi) g' _ w' ?_ ((k.mono l1).set r1 hput) w1 fun g2 a2 w2 l2 d2 k2 h2 => hQ g2 a2 w2 (l1.trans l2) d2 k2 h2
     cases o.dst <;> simp [Act.put,hdf]
    ·cases e
   ·cases e
  ·rename_i hw
   simp only [hw,if_false,Bool.false_eq_true]
   split at e
   ·rename_i s1 hput
    refine ⟨fun _ _ => trivial,?_⟩
    refine Agh ro hH hV ops D rest (i + 1) s1 m s' m' hd' e hvi g _ w ?_ (k.set (by rfl) hput) h hQ
    cases o.dst <;> simp [Act.put,hdf]
   ·cases e
end Go.V
namespace Go.V
open Go.RowKit
variable {P:Program} {B:Bs} {W:World} {H:Calls1}
def beforeStep (acc:Array Nat) (o:Oper):Nat:=o.after.foldl (fun s e => if Region.binds .any e then s ||| 2 ^ e.on ||| acc.getD e.on 0 else s) 0
theorem Aj4 (acc:Array Nat):∀ (l:List Edge) (s0:Nat) (i:Nat),(l.foldl (fun s e => if Region.binds .any e then s ||| 2 ^ e.on ||| acc.getD e.on 0 else s) s0).testBit i = true →
  s0.testBit i = true ∨ ∃ e ∈ l,Region.binds .any e = true ∧ (i = e.on ∨ (acc.getD e.on 0).testBit i = true)
 | [],s0,i,h => .inl h
 | e :: l,s0,i,h => by
  simp only [List.foldl_cons] at h
  rcases Aj4 acc l _ i h with h1 | ⟨e',he,h2⟩
  ·split at h1
   ·rename_i hb
    rw [Nat.testBit_or,Nat.testBit_or,Nat.testBit_two_pow] at h1
    simp only [Bool.or_eq_true,decide_eq_true_eq] at h1
    rcases h1 with (h1 | h1) | h1
    ·exact .inl h1
    ·exact .inr ⟨e,by simp,hb,.inl h1.symm⟩
    ·exact .inr ⟨e,by simp,hb,.inr h1⟩
   ·exact .inl h1
  ·exact .inr ⟨e',by simp [he],h2⟩
def BSpec (b:Array Nat) (l:List Oper):Prop :=
 b.size = l.length ∧ ∀ j i,(b.getD j 0).testBit i = true → ∃ o,l[j]? = some o ∧ ∃ e ∈ o.after,Region.binds .any e = true ∧ (i = e.on ∨ (e.on < j ∧ (b.getD e.on 0).testBit i = true))
theorem BSpec.push {b:Array Nat} {l:List Oper} (h:BSpec b l) (o:Oper):BSpec (b.push (beforeStep b o)) (l ++ [o]):=by
 obtain ⟨hs,hb⟩:=h
 refine ⟨by simp [hs],fun j i h => ?_⟩
 have hget:∀ q,q < l.length → (b.push (beforeStep b o)).getD q 0 = b.getD q 0:=by
  intro q hq
  simp [Array.getElem?_push,hs,Nat.ne_of_lt hq]
 rcases Nat.lt_trichotomy j l.length with hj | hj | hj
 ·rw [hget j hj] at h
  obtain ⟨o',ho',e,he,hbd,hr⟩:=hb j i h
  refine ⟨o',by rw [List.getElem?_append_left hj]; exact ho',e,he,hbd,?_⟩
  rcases hr with hr | ⟨h1,h2⟩
  ·exact .inl hr
  ·exact .inr ⟨h1,by rw [hget _ (by omega)]; exact h2⟩
 ·subst hj
  have:(b.push (beforeStep b o)).getD l.length 0 = beforeStep b o:=by rw [Array.getD_eq_getD_getElem?,Array.getElem?_push,if_pos hs.symm]; rfl
  rw [this] at h
  unfold beforeStep at h
  rw [← Array.foldl_toList] at h
  rcases Aj4 b _ _ _ h with h | ⟨e,he,hbd,hr⟩
  ·simp at h
  ·refine ⟨o,by simp,e,by simpa using he,hbd,?_⟩
   rcases hr with hr | hr
   ·exact .inl hr
   ·have hlt:e.on < l.length:=by
     rcases Nat.lt_or_ge e.on l.length with h' | h'
     ·exact h'
     ·simp [Array.getElem?_eq_none (show b.size ≤ e.on by omega)] at hr
    exact .inr ⟨hlt,by rw [hget _ hlt]; exact hr⟩
 ·have:(b.push (beforeStep b o)).getD j 0 = 0:=by
   rw [Array.getD_eq_getD_getElem?,Array.getElem?_eq_none (by simp; omega)]; rfl
  rw [this] at h
  simp at h
theorem Adu:∀ (l pre:List Oper) (b:Array Nat),BSpec b pre → BSpec (l.foldl (fun acc o => acc.push (beforeStep acc o)) b) (pre ++ l)
 | [],pre,b,h => by simpa using h
 | o :: l,pre,b,h => by
  have:=Adu l (pre ++ [o]) _ (h.push o)
  simpa using this
theorem Ao2 {ops:Array Oper} {j i:Nat} (h:((Region.before ops).getD j 0).testBit i = true) :
  ∃ o,ops[j]? = some o ∧ ∃ e ∈ o.after,Region.binds .any e = true ∧ (i = e.on ∨ (e.on < j ∧ ((Region.before ops).getD e.on 0).testBit i = true)):=by
 have hb:Region.before ops = ops.toList.foldl (fun acc o => acc.push (beforeStep acc o)) (#[]:Array Nat):=by
  unfold Region.before
  rw [← Array.foldl_toList]
  rfl
 rw [hb] at h ⊢
 have hsp:=Adu ops.toList [] #[] ⟨rfl,fun j i h => by simp at h⟩
 rw [List.nil_append] at hsp
 obtain ⟨o,ho,r⟩:=hsp.2 j i h
 exact ⟨o,by simpa using ho,r⟩
def Li (listed:Array Bool) (i:Nat):Prop:=listed.getD i false = true
def DC (ops:Array Oper) (listed:Array Bool):Prop:=∀ j o,ops[j]? = some o → Li listed j → ∀ e ∈ o.after,Region.binds .any e = true → Li listed e.on
theorem closed {ops:Array Oper} {listed:Array Bool} (hd:DC ops listed):∀ (j:Nat) (o:Oper),ops[j]? = some o → (∀ e ∈ o.after,Region.binds .any e = true → Li listed e.on) → ∀ i,((Region.before ops).getD j 0).testBit i = true → Li listed i:=by
 intro j
 induction j using Nat.strongRecOn with
 | _ j ih =>
  intro o ho hp i hi
  obtain ⟨o',ho',e,he,hb,hr⟩:=Ao2 hi
  rw [ho] at ho'
  cases ho'
  have hl:=hp e he hb
  rcases hr with rfl | ⟨h1,h2⟩
  ·exact hl
  ·have hlt:e.on < ops.size:=by
    have:=(Array.getElem?_eq_some_iff.1 ho).1
    omega
   exact ih e.on h1 _ (Array.getElem?_eq_getElem hlt) (fun e' he' hb' => hd e.on _ (Array.getElem?_eq_getElem hlt) hl e' he' hb') i h2
structure Trace (P:Program) (H:Calls1) (N:Nat) (ops:Array Oper) (S:Nat → Sl) (M:Nat → Mem):Prop where
 step:∀ i o,ops[i]? = some o →
  (Region.wanted o (ayields ops (S i)) = true ∧ ∃ v,astepT P (calm ops) H (S i) o (M i) = some (v,M (i + 1)) ∧ aput N (S i) o.dst v = some (S (i + 1))) ∨
  (Region.wanted o (ayields ops (S i)) = false ∧ aput N (S i) o.dst undefV = some (S (i + 1)) ∧ M (i + 1) = M i)
theorem Apr (N:Nat) (ops:Array Oper):∀ (l:List Oper) (i:Nat) (s:Sl) (m:Mem) (s':Sl) (m':Mem) (ms:List (Sl × Mem)),aopsT P H N ops l s m = some (s',m',ms) →
  ∃ (S:Nat → Sl) (M:Nat → Mem),S i = s ∧ M i = m ∧ S (i + l.length) = s' ∧ M (i + l.length) = m' ∧ (∀ k,ms[k]? = if k ≤ l.length then some (S (i + k),M (i + k)) else none) ∧
   ∀ j o,i ≤ j → l[j - i]? = some o →
    (Region.wanted o (ayields ops (S j)) = true ∧ ∃ v,astepT P (calm ops) H (S j) o (M j) = some (v,M (j + 1)) ∧ aput N (S j) o.dst v = some (S (j + 1))) ∨
    (Region.wanted o (ayields ops (S j)) = false ∧ aput N (S j) o.dst undefV = some (S (j + 1)) ∧ M (j + 1) = M j)
 | [],i,s,m,s',m',ms,e => by
  simp only [aopsT,Option.some.injEq,Prod.mk.injEq] at e
  obtain ⟨rfl,rfl,rfl⟩:=e
  refine ⟨fun _ => s,fun _ => m,rfl,rfl,rfl,rfl,fun k => ?_,fun j o _ h => by simp at h⟩
  cases k <;> simp
 | o :: l,i,s,m,s',m',ms,e => by
  have key:∀ (s1:Sl) (m1:Mem),(aopsT P H N ops l s1 m1).map (fun r => (r.1,r.2.1,(s,m) :: r.2.2)) = some (s',m',ms) →
    ((Region.wanted o (ayields ops s) = true ∧ ∃ v,astepT P (calm ops) H s o m = some (v,m1) ∧ aput N s o.dst v = some s1) ∨ (Region.wanted o (ayields ops s) = false ∧ aput N s o.dst undefV = some s1 ∧ m1 = m)) →
    ∃ (S:Nat → Sl) (M:Nat → Mem),S i = s ∧ M i = m ∧ S (i + (o :: l).length) = s' ∧ M (i + (o :: l).length) = m' ∧ (∀ k,ms[k]? = if k ≤ (o :: l).length then some (S (i + k),M (i + k)) else none) ∧
     ∀ j o',i ≤ j → (o :: l)[j - i]? = some o' →
      (Region.wanted o' (ayields ops (S j)) = true ∧ ∃ v,astepT P (calm ops) H (S j) o' (M j) = some (v,M (j + 1)) ∧ aput N (S j) o'.dst v = some (S (j + 1))) ∨
      (Region.wanted o' (ayields ops (S j)) = false ∧ aput N (S j) o'.dst undefV = some (S (j + 1)) ∧ M (j + 1) = M j):=by
   intro s1 m1 e1 hstep
   simp only [Option.map_eq_some_iff,Prod.mk.injEq] at e1
   obtain ⟨⟨s2,m2,ms2⟩,e2,rfl,rfl,rfl⟩:=e1
   obtain ⟨S,M,h1,h2,h3,h4,h5,h6⟩:=Apr N ops l (i + 1) s1 m1 s2 m2 ms2 e2
   refine ⟨fun k => if k = i then s else S k,fun k => if k = i then m else M k,by simp,by simp,?_,?_,fun k => ?_,fun j o' hj hl => ?_⟩
   ·dsimp only
    rw [if_neg (by simp),← h3]
    congr 1
    simp
    omega
   ·dsimp only
    rw [if_neg (by simp),← h4]
    congr 1
    simp
    omega
   ·cases k with
    | zero => simp
    | succ k =>
     have hne:i + (k + 1) ≠ i:=by omega
     have he:i + (k + 1) = i + 1 + k:=by omega
     have hne':i + 1 + k ≠ i:=by omega
     simp only [List.getElem?_cons_succ,h5,List.length_cons,Nat.add_le_add_iff_right,he,hne',if_false]
   ·dsimp only
    by_cases hji:j = i
    ·subst hji
     simp only [Nat.sub_self,List.getElem?_cons_zero,Option.some.injEq] at hl
     subst hl
     rw [if_pos rfl,if_pos rfl,if_neg (by omega),if_neg (by omega),h1,h2]
     exact hstep
    ·rw [if_neg hji,if_neg hji,if_neg (by omega),if_neg (by omega)]
     refine h6 j o' (by omega) ?_
     have:j - i = (j - (i + 1)) + 1:=by omega
     rw [this,List.getElem?_cons_succ] at hl
     exact hl
  simp only [aopsT] at e
  split at e
  ·rename_i hw
   split at e
   ·rename_i v m1 hs
    split at e
    ·rename_i s1 hp
     exact key s1 m1 e (.inl ⟨hw,v,hs,hp⟩)
    ·cases e
   ·cases e
  ·rename_i hw
   split at e
   ·rename_i s1 hp
    exact key s1 m e (.inr ⟨by simpa using hw,hp,rfl⟩)
   ·cases e
abbrev Cn:=(Nat × (Nat → Option (LoopState × Option Code × LCode)) × (Nat → Option (List (Value × AV × Nat) × Nat))) × (Nat → Option (List AV × Bool))
def cont (m:Mem):Cn:=((m.next,(fun id => (m.loop id).map fun L => (L.st,L.pend,L.c)),fun id => (m.map id).map fun M => (M.es,M.ck)),fun id => match m.get id with | some (.cells cs f _) => some (cs,f) | none => none)
theorem Ado {m:Mem} {id:Nat} {cs:List AV} {f:Bool}:(cont m).2 id = some (cs,f) ↔ ∃ v,m.get id = some (.cells cs f v):=by
 simp only [cont]
 cases m.get id with
 | none => simp
 | some o =>
  obtain ⟨c,f',v⟩:=o
  simp
theorem Am4 {m:Mem} {id:Nat}:(cont m).2 id = none ↔ m.get id = none:=by
 simp only [cont]
 cases m.get id with
 | none => simp
 | some o => obtain ⟨c,f',v⟩:=o; simp
theorem WR.congr {g:G} {m m':Mem} {w:World} (h:WR B W g m w) (e:cont m = cont m'):WR B W g m' w:=by
 have e1:m.next = m'.next:=congrArg (fun x => x.1.1) e
 have e3:∀ id,(m.loop id).map (fun L => (L.st,L.pend,L.c)) = (m'.loop id).map fun L => (L.st,L.pend,L.c):=fun id => congrArg (fun x => x.1.2.1 id) e
 have e4:∀ id,(m.map id).map (fun M => (M.es,M.ck)) = (m'.map id).map fun M => (M.es,M.ck):=fun id => congrArg (fun x => x.1.2.2 id) e
 have l1:∀ id L',m'.loop id = some L' → ∃ L,m.loop id = some L ∧ L.st = L'.st ∧ L.pend = L'.pend ∧ L.c = L'.c:=by
  intro id L' h'
  have:=e3 id
  rw [h'] at this
  simp only [Option.map_some,Option.map_eq_some_iff,Prod.mk.injEq] at this
  obtain ⟨L,h1,h2,h3,h4⟩:=this
  exact ⟨L,h1,h2,h3,h4⟩
 have m1:∀ id M',m'.map id = some M' → ∃ M,m.map id = some M ∧ M.es = M'.es ∧ M.ck = M'.ck:=by
  intro id L' h'
  have:=e4 id
  rw [h'] at this
  simp only [Option.map_some,Option.map_eq_some_iff,Prod.mk.injEq] at this
  obtain ⟨L,h1,h2,h3⟩:=this
  exact ⟨L,h1,h2,h3⟩
 have e2:∀ id,(cont m).2 id = (cont m').2 id:=fun id => by rw [e]
 have some1:∀ id,(m'.get id).isSome = true → (m.get id).isSome = true:=by
  intro id hs
  cases hm:m.get id with
  | some o => rfl
  | none =>
   have:=Am4.1 ((e2 id).symm.trans (Am4.2 hm))
   rw [this] at hs; cases hs
 have hX:WX B g m' w:=by
  refine ⟨fun id L' h' => ?_,fun i j hi hj he => ?_,fun id M' h' => ?_,fun i j hi hj he => ?_,h.x.df,h.x.lb,fun b o hb => have p:=h.x.pn b o hb; ⟨p.base,p.here,p.kind,p.fz,fun i hi => p.obj i (some1 i hi),fun i hi => by
   obtain ⟨M',hM'⟩:=Option.isSome_iff_exists.1 hi
   obtain ⟨M,h1,_⟩:=m1 i M' hM'
   exact p.map i (by rw [h1]; rfl)⟩⟩
  ·obtain ⟨L,h1,h2,h3,h4⟩:=l1 id L' h'
   obtain ⟨a,b,fn,tmps,df,c⟩:=h.x.lids id L h1
   rw [h2,h3,h4] at c
   exact ⟨a,b,fn,tmps,df,c⟩
  ·obtain ⟨L,hL⟩:=Option.isSome_iff_exists.1 hi
   obtain ⟨L',hL'⟩:=Option.isSome_iff_exists.1 hj
   obtain ⟨_,a,_⟩:=l1 i L hL
   obtain ⟨_,b,_⟩:=l1 j L' hL'
   exact h.x.linj i j (by rw [a]; rfl) (by rw [b]; rfl) he
  ·obtain ⟨M,h1,h2,h3⟩:=m1 id M' h'
   obtain ⟨a,b,es,c⟩:=h.x.mids id M h1
   rw [h2,h3] at c
   exact ⟨a,b,es,c⟩
  ·obtain ⟨L,hL⟩:=Option.isSome_iff_exists.1 hi
   obtain ⟨L',hL'⟩:=Option.isSome_iff_exists.1 hj
   obtain ⟨_,a,_⟩:=m1 i L hL
   obtain ⟨_,b,_⟩:=m1 j L' hL'
   exact h.x.minj i j (by rw [a]; rfl) (by rw [b]; rfl) he
 refine ⟨h.below,h.base,e1 ▸ h.n,fun id o ho => ?_,fun id cs f ver ho => ?_,fun i j hi hj => h.inj i j (some1 i hi) (some1 j hj),h.fz,hX⟩
 ·obtain ⟨o',ho'⟩:=Option.isSome_iff_exists.1 (some1 id (by rw [ho]; rfl))
  exact h.ids id o' ho'
 ·have:(cont m').2 id = some (cs,f):=Ado.2 ⟨ver,ho⟩
  rw [← e2] at this
  obtain ⟨v,hv⟩:=Ado.1 this
  exact h.objs id cs f v hv
theorem pm {β:Type} {A:Option β} {F:β → AV} {m m1:Mem} {v:AV} (h:A.map (fun y => (F y,m)) = some (v,m1)):m1 = m ∧ ∀ m2:Mem,A.map (fun y => (F y,m2)) = some (v,m2):=by
 simp only [Option.map_eq_some_iff,Prod.mk.injEq] at h
 obtain ⟨y,hy,rfl,rfl⟩:=h
 exact ⟨rfl,fun m2 => by rw [hy]; rfl⟩
theorem pb {α β:Type} {x:Option α} {A:α → Option β} {F:β → AV} {m m1:Mem} {v:AV} (h:(x.bind fun t => (A t).map fun y => (F y,m)) = some (v,m1)):m1 = m ∧ ∀ m2:Mem,(x.bind fun t => (A t).map fun y => (F y,m2)) = some (v,m2):=by
 cases x with
 | none => cases h
 | some t => exact pm h
theorem Al2 {s:Sl} {o:Oper} {m m1:Mem} {v:AV} (hr:rank o = 0) (e:astep P H s o m = some (v,m1)):m1 = m ∧ ∀ m2,astep P H s o m2 = some (v,m2):=by
 obtain ⟨dst,op,type,pos,after,guard⟩:=o
 cases op <;> simp only [rank] at hr <;> (try cases hr)
 case call c =>
  obtain ⟨callee,args,ts⟩:=c
  cases callee with
  | builtin b =>
   cases b <;> simp at hr <;> exact pm (F:=id) e
  | value f => cases hr
  | invoke a b => cases hr
 all_goals (simp only [astep,aop] at e ⊢)
 case move y => cases e; exact ⟨rfl,fun _ => rfl⟩
 case assign y => cases e; exact ⟨rfl,fun _ => rfl⟩
 case pick c y z => split at e <;> cases e; exact ⟨rfl,fun _ => rfl⟩
 case nilCheck y =>
  split at e
  ·cases e; exact ⟨rfl,fun _ => rfl⟩
  ·cases e; exact ⟨rfl,fun _ => rfl⟩
  ·split at e
   ·rename_i hp; cases e; exact ⟨rfl,fun _ => by rw [if_pos hp]⟩
   ·cases e
  ·cases e; exact ⟨rfl,fun _ => rfl⟩
  ·cases e
 case makeFunc f fi ca => cases e; exact ⟨rfl,fun _ => rfl⟩
 case unOp op T y => exact pb e
 case convert T T' y => exact pm (F:=id) e
 case makeInterface T y => exact pm (F:=id) e
 case typeAssert y T' T ok => exact pm (F:=id) e
 case extract y i =>
  split at e
  ·exact pm (F:=id) e
  ·cases e
 all_goals exact pm (F:=id) e
theorem Amd {s:Sl} {o:Oper} {m m1:Mem} {v:AV} (hr:rank o = 1) (e:astep P H s o m = some (v,m1)):∃ T y,o.op = .load T y ∧ m1 = m ∧ aload P T (ev s y) m = some v ∧ ∀ m2,aload P T (ev s y) m2 = some v → astep P H s o m2 = some (v,m2):=by
 obtain ⟨dst,op,type,pos,after,guard⟩:=o
 cases op <;> simp only [rank] at hr <;> (try cases hr)
 case load T y =>
  simp only [astep,aop] at e ⊢
  simp only [Option.map_eq_some_iff,Prod.mk.injEq] at e
  obtain ⟨a,h1,rfl,rfl⟩:=e
  exact ⟨T,y,rfl,rfl,h1,fun m2 h2 => by rw [h2]; rfl⟩
 case call c =>
  obtain ⟨callee,args,ts⟩:=c
  cases callee with
  | builtin b => cases b <;> simp at hr
  | _ => cases hr
theorem Ajd {s:Sl} {o:Oper} {m m1:Mem} {v:AV} (hr:rank o = 3) (e:astep P H s o m = some (v,m1)) :
  ∃ id cs ver cs',objOf s o = some id ∧ m.get id = some (.cells cs false ver) ∧ m1 = m.set id cs' ∧ v = undefV ∧ ∀ (m2:Mem) (v2:Nat),m2.get id = some (.cells cs false v2) → astep P H s o m2 = some (undefV,m2.set id cs'):=by
 obtain ⟨dst,op,type,pos,after,guard⟩:=o
 cases op <;> simp only [rank] at hr <;> (try cases hr)
 case store T y z =>
  simp only [astep,aop] at e ⊢
  simp only [Option.map_eq_some_iff,Prod.mk.injEq] at e
  obtain ⟨a,h1,rfl,rfl⟩:=e
  unfold astore at h1
  split at h1
  ·rename_i id off hy
   split at h1
   ·rename_i cs ver hg
    split at h1
    ·rename_i hc
     cases h1
     refine ⟨id,cs,ver,_,by simp [objOf,hy],hg,rfl,rfl,fun m2 v2 h2 => ?_⟩
     simp only [astore,hy,h2]
     rw [if_pos hc]
     rfl
    ·cases h1
   ·cases h1
  ·cases h1
 case call c =>
  obtain ⟨callee,args,ts⟩:=c
  cases callee with
  | builtin b => cases b <;> simp at hr
  | _ => cases hr
theorem Adg (o:Oper):rank o = 0 ∨ rank o = 1 ∨ rank o = 2 ∨ rank o = 3:=by
 unfold rank
 repeat' split
 all_goals simp
variable {P:Program} {B:Bs} {W:World} {H:Calls1}
theorem Acl {ops:Array Oper} (h:drawOk ops = true) {i j:Nat} {x y:Oper} (hi:ops[i]? = some x) (hj:ops[j]? = some y) (hij:i < j) :
  (((Region.before ops).getD j 0).testBit i = true ∨ pairOk ops x y = true ∨ floatOk (Region.before ops) ops i j x y = true) ∧ (x.dst = none ∨ x.dst ≠ y.dst):=by
 unfold drawOk at h
 have hjl:j < ops.size:=(Array.getElem?_eq_some_iff.1 hj).1
 have h1:=List.all_eq_true.1 h j (List.mem_range.2 hjl)
 simp only [Bool.and_eq_true] at h1
 have h2:=List.all_eq_true.1 h1.2 i (List.mem_range.2 hij)
 simp only [hi,hj,Bool.and_eq_true,Bool.or_eq_true,beq_iff_eq,bne_iff_ne,ne_eq,or_assoc] at h2
 exact h2
theorem Ab0 {ops:Array Oper} {i j:Nat} {x y:Oper} (h:floatOk (Region.before ops) ops i j x y = true) :
  creator y = true ∧ rank x = 2 ∧ x.apart ops y = true ∧ ∀ u,u < ops.size → ((Region.before ops).getD u 0).testBit j = true → ((Region.before ops).getD u 0).testBit i = true:=by
 unfold floatOk at h
 simp only [Bool.and_eq_true,beq_iff_eq,List.all_eq_true,List.mem_range,Bool.or_eq_true,Bool.not_eq_true'] at h
 obtain ⟨⟨⟨h1,h2⟩,h3⟩,h4⟩:=h
 refine ⟨h1,h2,h3,fun u hu hb => ?_⟩
 rcases h4 u hu with h | h
 ·rw [hb] at h; cases h
 ·exact h
theorem Aa6 {y:Oper} (h:creator y = true):rank y = 2:=by
 unfold creator at h
 obtain ⟨dst,op,ty,pos,af,gd⟩:=y
 cases op <;> first | rfl | (simp at h)
theorem Avo {ops:Array Oper} (h:drawOk ops = true) {j:Nat} {y:Oper} (hj:ops[j]? = some y):∀ e ∈ y.after,Region.binds .any e = true → e.on < j:=by
 unfold drawOk at h
 have hjl:j < ops.size:=(Array.getElem?_eq_some_iff.1 hj).1
 have h1:=List.all_eq_true.1 h j (List.mem_range.2 hjl)
 simp only [Bool.and_eq_true,hj] at h1
 intro e he hb
 have:=Array.all_eq_true_iff_forall_mem.1 h1.1 e he
 simpa [hb] using this
theorem Ag6 {ops:Array Oper} {ms:List (Sl × Mem)} (h:metAll ops ms = true) {i j:Nat} {x y:Oper} (hi:ops[i]? = some x) (hj:ops[j]? = some y) (hij:i < j)
  (hb:¬ ((Region.before ops).getD j 0).testBit i = true):metOk ops ms i j x y = true:=by
 unfold metAll at h
 have hjl:j < ops.size:=(Array.getElem?_eq_some_iff.1 hj).1
 have h1:=List.all_eq_true.1 h j (List.mem_range.2 hjl)
 have h2:=List.all_eq_true.1 h1 i (List.mem_range.2 hij)
 simp only [hi,hj,Bool.or_eq_true] at h2
 exact h2.resolve_left hb
structure Run (P:Program) (H:Calls1) (N:Nat) (ops:Array Oper) (S:Nat → Sl) (M:Nat → Mem) (ms:List (Sl × Mem)):Prop where
 trace:Trace P H N ops S M
 draw:drawOk ops = true
 met:metAll ops ms = true
 quiet:(fl ops).all (quietAt ops ms) = true
 mems:∀ k,k ≤ ops.size → ms[k]? = some (S k,M k)
 ver:HVer H
 vi:VI (M 0)
theorem Acf {ops:Array Oper} (h:drawOk ops = true) {i j:Nat} {x y:Oper} (hi:ops[i]? = some x) (hj:ops[j]? = some y) (hij:i < j) (hx:2 ≤ rank x) (hy:2 ≤ rank y) (hn:¬ (rank x = 3 ∧ rank y = 3)) :
  ((Region.before ops).getD j 0).testBit i = true ∨ floatOk (Region.before ops) ops i j x y = true:=by
 rcases (Acl h hi hj hij).1 with h1 | h1 | h1
 ·exact .inl h1
 ·unfold pairOk at h1
  simp only [Bool.and_eq_true,Bool.or_eq_true,beq_iff_eq,decide_eq_true_eq] at h1
  omega
 ·exact .inr h1
theorem Ads {ops:Array Oper} (h:drawOk ops = true) {i j:Nat} {x y:Oper} (hi:ops[i]? = some x) (hj:ops[j]? = some y) (hij:i < j) (hx:2 ≤ rank x) (hy:2 ≤ rank y) (hn:¬ (rank x = 3 ∧ rank y = 3)) (hf:rank x = 3 ∨ creator y = false) :
  ((Region.before ops).getD j 0).testBit i = true:=by
 rcases Acf h hi hj hij hx hy hn with h1 | h1
 ·exact h1
 ·obtain ⟨a,b,_⟩:=Ab0 h1
  rcases hf with hf | hf
  ·omega
  ·rw [a] at hf; cases hf
def Pend (ops:Array Oper) (l:Nat → Bool) (j:Nat):Prop :=
 l j = true ∧ (∃ o,ops[j]? = some o ∧ creator o = true) ∧ ∃ i x,i < j ∧ ops[i]? = some x ∧ 2 ≤ rank x ∧ l i = false
open Classical in
noncomputable def lv (ops:Array Oper) (l:Nat → Bool) (j:Nat):Bool:=if Pend ops l j then false else l j
theorem lv_le {ops:Array Oper} {l:Nat → Bool} {j:Nat} (h:lv ops l j = true):l j = true ∧ ¬ Pend ops l j:=by
 unfold lv at h
 split at h
 ·cases h
 ·rename_i hn; exact ⟨h,hn⟩
theorem lv_of {ops:Array Oper} {l:Nat → Bool} {j:Nat} (h:l j = true) (hn:¬ Pend ops l j):lv ops l j = true:=by
 unfold lv; rw [if_neg hn]; exact h
theorem Akv {ops:Array Oper} {l:Nat → Bool} {j:Nat} (h:Pend ops l j):lv ops l j = false:=by
 unfold lv; rw [if_pos h]
theorem Ajy {ops:Array Oper} {l:Nat → Bool} {j:Nat} (h:l j = false):lv ops l j = false:=by
 unfold lv; split <;> first | rfl | exact h
section
variable {N:Nat} {ops:Array Oper} {S:Nat → Sl} {M:Nat → Mem} {ms:List (Sl × Mem)}
def eff (ops:Array Oper) (S:Nat → Sl) (M:Nat → Mem) (i:Nat) (c:Cn):Cn :=
 match ops[i]? with
 | some o => if rank o = 2 then cont (M (i + 1)) else if rank o = 3 ∧ Region.wanted o (ayields ops (S i)) = true then (match objOf (S i) o with | some id => (c.1,fun j => if j = id then (cont (M (i + 1))).2 id else c.2 j) | none => c) else c
 | none => c
def F (ops:Array Oper) (S:Nat → Sl) (M:Nat → Mem) (L:Nat → Bool):Nat → Cn
 | 0 => cont (M 0)
 | k + 1 => if L k then eff ops S M k (F ops S M L k) else F ops S M L k
theorem Api (L L':Nat → Bool):∀ k,(∀ i,i < k → L i = L' i) → F ops S M L k = F ops S M L' k:=by
 intro k
 induction k with
 | zero => intro _; rfl
 | succ k ih => intro h; simp only [F]; rw [ih (fun i hi => h i (by omega)),h k (by omega)]
theorem Akc (L:Nat → Bool) (p:Nat):∀ q,p ≤ q → (∀ i o,p ≤ i → i < q → L i = true → ops[i]? = some o → rank o < 2) → F ops S M L q = F ops S M L p:=by
 intro q
 induction q with
 | zero => intro h _; rw [show p = 0 by omega]
 | succ q ih =>
  intro hpq h
  by_cases e:p = q + 1
  ·rw [e]
  ·rw [← ih (by omega) fun i o h1 h2 => h i o h1 (by omega)]
   simp only [F]
   split
   ·rename_i hl
    unfold eff
    split
    ·rename_i o ho
     have:=h q o (by omega) (by omega) hl ho
     rw [if_neg (by omega),if_neg (by omega)]
    ·rfl
   ·rfl
variable (R:Run P H N ops S M ms)
include R
theorem Atj (i:Nat) (o:Oper) (ho:ops[i]? = some o) (t:Nat) (h:o.dst ≠ some t):(S (i + 1)).at t = (S i).at t:=by
 have key:∀ v,aput N (S i) o.dst v = some (S (i + 1)) → (S (i + 1)).at t = (S i).at t:=by
  intro v hv
  cases hd:o.dst with
  | none => rw [hd] at hv; simp only [aput,Option.some.injEq] at hv; rw [← hv]
  | some d =>
   rw [hd] at hv h
   simp only [aput] at hv
   split at hv
   ·simp only [Option.some.injEq] at hv
    rw [← hv,Sl.at_set,if_neg (fun e => h (by rw [e]))]
   ·cases hv
 rcases R.trace.step i o ho with ⟨_,v,_,h2⟩ | ⟨_,h2,_⟩
 ·exact key v h2
 ·exact key _ h2
theorem Adw (t p:Nat):∀ q,p ≤ q → q ≤ ops.size → (∀ i o,p ≤ i → i < q → ops[i]? = some o → o.dst ≠ some t) → (S q).at t = (S p).at t:=by
 intro q
 induction q with
 | zero => intro h _ _; have:p = 0:=by omega
           rw [this]
 | succ q ih =>
  intro hpq hq hno
  by_cases e:p = q + 1
  ·rw [e]
  ·have hlt:q < ops.size:=by omega
   rw [Atj R q _ (Array.getElem?_eq_getElem hlt) t (hno q _ (by omega) (by omega) (Array.getElem?_eq_getElem hlt))]
   exact ih (by omega) (by omega) fun i o h1 h2 => hno i o h1 (by omega)
omit R in
theorem Aer {s:Sl} {o:Oper} {m m':Mem} {v:AV} (h:astepT P (calm ops) H s o m = some (v,m')):astep P H s o m = some (v,m') ∨ (calm ops = true ∧ rank o = 0 ∧ m' = m ∧ amlen P s o m = some (v,m')):=by
 unfold astepT at h
 split at h
 ·rename_i hc
  unfold astepU at h
  split at h
  ·rename_i q hq
   cases h
   exact .inl hq
  ·exact .inr ⟨hc,(Aj9 h).2,(Aj9 h).1,h⟩
 ·exact .inl h
omit R in
theorem Ace {s:Sl} {o:Oper} {m m':Mem} {v:AV} (hr:rank o ≠ 0) (h:astepT P (calm ops) H s o m = some (v,m')):astep P H s o m = some (v,m'):=by
 rcases Aer h with h | ⟨_,h,_⟩
 ·exact h
 ·exact absurd h hr
theorem Acs (i:Nat) (o:Oper) (ho:ops[i]? = some o) (hr:rank o < 2):M (i + 1) = M i:=by
 rcases R.trace.step i o ho with ⟨_,v,h1,_⟩ | ⟨_,_,h⟩
 ·rcases (Aer h1).symm with ⟨_,_,h1,_⟩ | h1
  ·exact h1
  rcases Adg o with h0 | h0 | h0 | h0 <;> (try omega)
  ·exact (Al2 h0 h1).1
  ·obtain ⟨_,_,_,h2,_⟩:=Amd h0 h1
   exact h2
 ·exact h
theorem Ag7 (i:Nat) (o:Oper) (ho:ops[i]? = some o) (hw:Region.wanted o (ayields ops (S i)) = false):M (i + 1) = M i:=by
 rcases R.trace.step i o ho with ⟨h,_⟩ | ⟨_,_,h⟩
 ·rw [hw] at h; cases h
 ·exact h
theorem Aun:∀ k,k ≤ ops.size → VI (M k):=by
 intro k
 induction k with
 | zero => intro _; exact R.vi
 | succ k ih =>
  intro hk
  have hlt:k < ops.size:=by omega
  rcases R.trace.step k _ (Array.getElem?_eq_getElem hlt) with ⟨_,v,h3,_⟩ | ⟨_,_,h3⟩
  ·exact (VM.astepU R.ver (Alb h3)).inv (ih (by omega))
  ·rw [h3]; exact ih (by omega)
theorem A5f (k:Nat) (hk:k < ops.size):VM (M k) (M (k + 1)):=by
 rcases R.trace.step k _ (Array.getElem?_eq_getElem hk) with ⟨_,v,h3,_⟩ | ⟨_,_,h3⟩
 ·exact VM.astepU R.ver (Alb h3)
 ·rw [h3]; exact .refl _
theorem Abw (i:Nat) (o:Oper) (ho:ops[i]? = some o) (hr:rank o = 3) (hw:Region.wanted o (ayields ops (S i)) = true) :
  ∃ id cs ver cs',objOf (S i) o = some id ∧ (M i).get id = some (.cells cs false ver) ∧ M (i + 1) = (M i).set id cs' ∧ aput N (S i) o.dst undefV = some (S (i + 1)) ∧ ∀ (m2:Mem) (v2:Nat),m2.get id = some (.cells cs false v2) → astep P H (S i) o m2 = some (undefV,m2.set id cs'):=by
 rcases R.trace.step i o ho with ⟨_,v,h1,h2⟩ | ⟨h,_⟩
 ·obtain ⟨id,cs,ver,cs',a1,a2,a3,rfl,a4⟩:=Ajd hr (Ace (by omega) h1)
  exact ⟨id,cs,ver,cs',a1,a2,a3,h2,a4⟩
 ·rw [hw] at h; cases h
theorem Aeg (m:Mem) (id:Nat) (cs:List AV):cont (m.set id cs) = ((cont m).1,fun j => if j = id then some (cs,false) else (cont m).2 j):=by
 simp only [cont,Mem.next_set,Mem.get_set,show ∀ i,(m.set id cs).loop i = m.loop i from fun _ => rfl,show ∀ i,(m.set id cs).map i = m.map i from fun _ => rfl,Prod.mk.injEq,true_and]
 funext j
 split <;> rename_i h
 ·split at h
  ·rename_i e; cases h; simp [e]
  ·rename_i e; rw [if_neg e,h]
 ·split at h
  ·cases h
  ·rename_i e; rw [if_neg e,h]
theorem A0s (i:Nat) (hi:i < ops.size):eff ops S M i (cont (M i)) = cont (M (i + 1)):=by
 have ho:=Array.getElem?_eq_getElem hi
 unfold eff
 rw [ho]
 dsimp only
 split
 ·rfl
 ·rename_i hr2
  split
  ·rename_i h3
   obtain ⟨id,cs,ver,cs',a1,a2,a3,_⟩:=Abw R i _ ho h3.1 h3.2
   rw [a1,a3,Aeg R]
   dsimp only
   congr 1
   funext j
   split
   ·rename_i e; rw [if_pos rfl]
   ·rfl
  ·rename_i h3
   rcases Adg ops[i] with h0 | h0 | h0 | h0
   ·rw [Acs R i _ ho (by omega)]
   ·rw [Acs R i _ ho (by omega)]
   ·exact absurd h0 hr2
   ·have:Region.wanted ops[i] (ayields ops (S i)) = false:=by
     cases hw:Region.wanted ops[i] (ayields ops (S i)) with
     | false => rfl
     | true => exact absurd ⟨h0,hw⟩ h3
    rw [Ag7 R i _ ho this]
theorem Ali (L:Nat → Bool):∀ k,k ≤ ops.size → (∀ i o,i < k → ops[i]? = some o → 2 ≤ rank o → L i = true) → F ops S M L k = cont (M k):=by
 intro k
 induction k with
 | zero => intro _ _; rfl
 | succ k ih =>
  intro hk h
  have ho:=Array.getElem?_eq_getElem (show k < ops.size by omega)
  have h1:=ih (by omega) fun i o hi => h i o (by omega)
  simp only [F]
  split
  ·rw [h1]; exact A0s R k (by omega)
  ·rename_i hl
   rw [h1,Acs R k _ ho]
   rcases Nat.lt_or_ge (rank ops[k]) 2 with h2 | h2
   ·exact h2
   ·exact absurd (h k _ (by omega) ho h2) hl
theorem Arw (k:Nat) (hk:k < ops.size) (id:Nat) (h:verKept ms k id = true):((cont (M (k + 1))).2 id).map (·.1) = ((cont (M k)).2 id).map (·.1):=by
 unfold verKept at h
 rw [R.mems k (by omega),R.mems (k + 1) (by omega)] at h
 simp only [Bool.and_eq_true,beq_iff_eq] at h
 obtain ⟨h1,h2⟩:=h
 unfold Mem.ver at h1 h2
 cases hg:(M k).get id with
 | none => rw [hg] at h1; cases h1
 | some o =>
  obtain ⟨cs,f,v⟩:=o
  rw [hg] at h2
  dsimp only at h2
  cases hg':(M (k + 1)).get id with
  | none => rw [hg'] at h2; cases h2
  | some o' =>
   obtain ⟨cs',f',v'⟩:=o'
   rw [hg'] at h2
   simp only [Option.some.injEq] at h2
   subst h2
   have hvi:=Aun R k (by omega)
   rcases (A5f R k hk).kept hvi id _ _ _ _ _ _ hg hg' with ⟨_,rfl⟩ | h3
   ·simp [cont,hg,hg']
   ·have:=(hvi.1 _ _ _ _ hg).1
    omega
def pr (off:Nat) (c:Option (List AV)):Option (Nat × List AV):=c.map fun cs => (cs.length,cs.drop off)
theorem Aq8 (k:Nat) (hk:k < ops.size) (id off:Nat) (h:tailKept ms k id off = true):pr off (((cont (M (k + 1))).2 id).map (·.1)) = pr off (((cont (M k)).2 id).map (·.1)):=by
 unfold tailKept at h
 rw [R.mems k (by omega),R.mems (k + 1) (by omega)] at h
 dsimp only at h
 split at h
 ·rename_i cs f v cs' f' v' hg hg'
  simp only [Bool.and_eq_true,decide_eq_true_eq] at h
  have:=Alt h.2
  simp [cont,hg,hg',pr,h.1,this]
 ·cases h
theorem Ai0 (k:Nat) (o:Oper) (ho:ops[k]? = some o) (hr:rank o = 3) (hw:Region.wanted o (ayields ops (S k)) = true) (id:Nat) (h:verKept ms k id = true):objOf (S k) o ≠ some id:=by
 intro he
 have hk:k < ops.size:=(Array.getElem?_eq_some_iff.1 ho).1
 obtain ⟨id',cs,ver,cs',a1,a2,a3,_⟩:=Abw R k o ho hr hw
 rw [he] at a1
 cases a1
 unfold verKept at h
 rw [R.mems k (by omega),R.mems (k + 1) (by omega)] at h
 simp only [Bool.and_eq_true,beq_iff_eq] at h
 have h2:=h.2
 rw [a3] at h2
 simp only [Mem.ver,a2,Mem.get_set,if_true,Option.some.injEq] at h2
 have:=((Aun R k (by omega)).1 _ _ _ _ a2).1
 omega
theorem Aqe {i j:Nat} {x y:Oper} (hi:ops[i]? = some x) (hj:ops[j]? = some y) (hx:rank x = 1) (hy:2 ≤ rank y) (hwx:Region.wanted x (ayields ops (S i)) = true) (hwy:Region.wanted y (ayields ops (S j)) = true)
  (hb1:i < j → ¬ ((Region.before ops).getD j 0).testBit i = true) (hb2:j < i → ¬ ((Region.before ops).getD i 0).testBit j = true) {id:Nat} (ho:objOf (S i) x = some id):verKept ms j id = true ∨ (rank y = 2 ∧ tailKept ms j id (offOf (S i) x) = true):=by
 have hil:i < ops.size:=(Array.getElem?_eq_some_iff.1 hi).1
 have hjl:j < ops.size:=(Array.getElem?_eq_some_iff.1 hj).1
 rcases Nat.lt_trichotomy i j with h | h | h
 ·have:=Ag6 R.met hi hj h (hb1 h)
  unfold metOk at this
  rw [R.mems i (by omega),R.mems j (by omega)] at this
  simpa [hwx,hwy,hx,hy,ho] using this
 ·subst h; rw [hi] at hj; cases hj; omega
 ·have:=Ag6 R.met hj hi h (hb2 h)
  unfold metOk at this
  rw [R.mems i (by omega),R.mems j (by omega)] at this
  have hny:¬ rank y = 1:=by omega
  simpa [hwx,hwy,hx,hy,ho,hny] using this
theorem Aul {i j:Nat} {x y:Oper} (hi:ops[i]? = some x) (hj:ops[j]? = some y) (hx:rank x = 3) (hy:rank y = 3) (hwx:Region.wanted x (ayields ops (S i)) = true) (hwy:Region.wanted y (ayields ops (S j)) = true)
  (hne:i ≠ j) (hb1:i < j → ¬ ((Region.before ops).getD j 0).testBit i = true) (hb2:j < i → ¬ ((Region.before ops).getD i 0).testBit j = true) {a b:Nat} (ho:objOf (S i) x = some a) (ho':objOf (S j) y = some b):a ≠ b:=by
 have hil:i < ops.size:=(Array.getElem?_eq_some_iff.1 hi).1
 have hjl:j < ops.size:=(Array.getElem?_eq_some_iff.1 hj).1
 rcases Nat.lt_trichotomy i j with h | h | h
 ·have:=Ag6 R.met hi hj h (hb1 h)
  unfold metOk at this
  rw [R.mems i (by omega),R.mems j (by omega)] at this
  simpa [hwx,hwy,hx,hy,ho,ho'] using this
 ·exact absurd h hne
 ·have:=Ag6 R.met hj hi h (hb2 h)
  unfold metOk at this
  rw [R.mems i (by omega),R.mems j (by omega)] at this
  intro e
  subst e
  simp [hwx,hwy,hx,hy,ho,ho'] at this
end
variable {P:Program} {B:Bs} {W:World} {H:Calls1}
section
variable {N:Nat} {ops:Array Oper} {S:Nat → Sl} {M:Nat → Mem} {ms:List (Sl × Mem)}
def cc (id:Nat) (c:Cn):Option (List AV):=(c.2 id).map (·.1)
theorem Abb {k:Nat} {o:Oper} (ho:ops[k]? = some o) (h:rank o < 2 ∨ (rank o = 3 ∧ Region.wanted o (ayields ops (S k)) = false)) (c:Cn):eff ops S M k c = c:=by
 unfold eff
 rw [ho]
 dsimp only
 rcases h with h | ⟨h,hw⟩
 ·rw [if_neg (by omega),if_neg (by omega)]
 ·rw [if_neg (by omega),if_neg (by rw [hw]; simp)]
theorem Afn {k:Nat} {o:Oper} (ho:ops[k]? = some o) (h:rank o = 2) (c:Cn):eff ops S M k c = cont (M (k + 1)):=by
 unfold eff
 rw [ho]
 dsimp only
 rw [if_pos h]
theorem Adc {k:Nat} {o:Oper} (ho:ops[k]? = some o) (h:rank o = 3) (hw:Region.wanted o (ayields ops (S k)) = true) {id:Nat} (hid:objOf (S k) o = some id) (c:Cn) :
  eff ops S M k c = (c.1,fun j => if j = id then (cont (M (k + 1))).2 id else c.2 j):=by
 unfold eff
 rw [ho]
 dsimp only
 rw [if_neg (by omega),if_pos ⟨h,hw⟩,hid]
def add (L:Nat → Bool) (j:Nat):Nat → Bool:=fun i => i == j || L i
variable (R:Run P H N ops S M ms)
include R
structure Up (ops:Array Oper) (listed:Array Bool) (j:Nat):Prop where
 dc:DC ops listed
 not:listed.getD j false = false
 lt:j < ops.size
 pre:∀ o,ops[j]? = some o → ∀ e ∈ o.after,Region.binds .any e = true → Li listed e.on
theorem Apo {listed:Array Bool} {j:Nat} (U:Up ops listed j) {i:Nat} (h:((Region.before ops).getD j 0).testBit i = true):listed.getD i false = true :=
 closed U.dc j _ (Array.getElem?_eq_getElem U.lt) (U.pre _ (Array.getElem?_eq_getElem U.lt)) i h
theorem Afz {listed:Array Bool} {j:Nat} (U:Up ops listed j) {k:Nat} (hk:k < ops.size) (hl:listed.getD k false = true):¬ ((Region.before ops).getD k 0).testBit j = true:=by
 intro h
 have:=closed U.dc k _ (Array.getElem?_eq_getElem hk) (U.dc k _ (Array.getElem?_eq_getElem hk) hl) j h
 unfold Li at this
 rw [U.not] at this
 cases this
theorem Ae5 {listed:Array Bool} {j:Nat} (U:Up ops listed j) {i:Nat} (hi:i < ops.size) (h:((Region.before ops).getD j 0).testBit i = true):lv ops (fun i => listed.getD i false) i = true:=by
 have hl:=Apo R U h
 refine lv_of hl fun ⟨_,⟨y,hy,hc⟩,k,x,hk,hx,h2,hn⟩ => ?_
 have hrk:=Aa6 hc
 rcases Acf R.draw hx hy hk h2 (by omega) (by omega) with h1 | h1
 ·have:listed.getD k false = true:=closed U.dc i _ hy (U.dc i _ hy hl) k h1
  exact absurd (this.symm.trans hn) (by simp)
 ·have:=Apo R U ((Ab0 h1).2.2.2 j U.lt h)
  exact absurd (this.symm.trans hn) (by simp)
def Full (ops:Array Oper) (listed:Array Bool) (j:Nat):Prop:=∀ i x,i < j → ops[i]? = some x → 2 ≤ rank x → listed.getD i false = true
theorem A33 {listed:Array Bool} {j:Nat} (U:Up ops listed j) {o:Oper} (ho:ops[j]? = some o) (hr:rank o = 2) (hc:creator o = false):Full ops listed j :=
 fun i x hi hx h2 => Apo R U (Ads R.draw hx ho hi h2 (by omega) (by omega) (.inr hc))
omit R in
theorem A34 {listed:Array Bool} {j:Nat} (h:Full ops listed j) {i:Nat} {x:Oper} (hi:i < j) (hx:ops[i]? = some x) (h2:2 ≤ rank x):lv ops (fun i => listed.getD i false) i = true:=by
 refine lv_of (h i x hi hx h2) fun ⟨_,_,k,y,hk,hy,h3,hn⟩ => ?_
 have:=h k y (by omega) hy h3
 exact absurd (this.symm.trans hn) (by simp)
theorem Aoa {listed:Array Bool} (dc:DC ops listed) {k:Nat} {y:Oper} (hy:ops[k]? = some y) (hr:rank y = 2) (hl:lv ops (fun i => listed.getD i false) k = true) {i:Nat} {x:Oper} (hi:i < k) (hx:ops[i]? = some x) (h2:2 ≤ rank x):listed.getD i false = true:=by
 obtain ⟨h1,h3⟩:=lv_le hl
 cases hn:listed.getD i false with
 | true => rfl
 | false =>
  cases hc:creator y with
  | true => exact absurd ⟨h1,⟨y,hy,hc⟩,i,x,hi,hx,h2,hn⟩ h3
  | false =>
   have:=closed dc k _ hy (dc k _ hy h1) i (Ads R.draw hx hy hi h2 (by omega) (by omega) (.inr hc))
   unfold Li at this
   rw [hn] at this; cases this
theorem As6 {listed:Array Bool} {j:Nat} (U:Up ops listed j) {o:Oper} (ho:ops[j]? = some o) (hr:rank o = 2) (hf:Full ops listed j) :
  F ops S M (lv ops fun i => listed.getD i false) ops.size = cont (M j) ∧ F ops S M (add (lv ops fun i => listed.getD i false) j) ops.size = cont (M (j + 1)):=by
 have pre:∀ i x,i < j → ops[i]? = some x → 2 ≤ rank x → lv ops (fun i => listed.getD i false) i = true:=fun i x hi hx h2 => A34 hf hi hx h2
 have post:∀ i x,j < i → lv ops (fun i => listed.getD i false) i = true → ops[i]? = some x → rank x < 2:=by
  intro i x hi hl hx
  rcases Nat.lt_or_ge (rank x) 2 with h | h
  ·exact h
  ·exfalso
   rcases Acf R.draw ho hx hi (by omega) h (by omega) with h1 | h1
   ·exact Afz R U (Array.getElem?_eq_some_iff.1 hx).1 (lv_le hl).1 h1
   ·have:=Aoa R U.dc hx (Aa6 (Ab0 h1).1) hl hi ho (by omega)
    rw [U.not] at this; cases this
 have hj:=U.lt
 constructor
 ·rw [Akc _ j ops.size (by omega) ?_]
  ·exact Ali R _ j (by omega) pre
  ·intro i x h1 h2 hl hx
   rcases Nat.lt_or_ge j i with h3 | h3
   ·exact post i x h3 hl hx
   ·have:i = j:=by omega
    subst this
    have:=(lv_le hl).1
    rw [U.not] at this
    cases this
 ·rw [Akc _ (j + 1) ops.size (by omega) ?_]
  ·simp only [F,add,beq_self_eq_true,Bool.true_or,if_true]
   exact Afn ho hr _
  ·intro i x h1 h2 hl hx
   refine post i x (by omega) ?_ hx
   have:(i == j) = false:=by simp; omega
   simpa [add,this] using hl
theorem Af0 {L:Nat → Bool} {j:Nat} {o:Oper} (ho:ops[j]? = some o) (h:rank o < 2 ∨ (rank o = 3 ∧ Region.wanted o (ayields ops (S j)) = false)) :
  ∀ k,F ops S M (add L j) k = F ops S M L k:=by
 intro k
 induction k with
 | zero => rfl
 | succ k ih =>
  simp only [F]
  rw [ih]
  by_cases e:k = j
  ·subst e
   simp only [add,beq_self_eq_true,Bool.true_or,if_true,Abb ho h]
   split <;> rfl
  ·have:(k == j) = false:=by simpa using e
   simp only [add,this,Bool.false_or]
theorem Axs {listed:Array Bool} {j:Nat} (U:Up ops listed j) {o:Oper} (ho:ops[j]? = some o) (hr:rank o = 3) (hw:Region.wanted o (ayields ops (S j)) = true) {id:Nat} {cs cs':List AV} {ver:Nat}
  (hid:objOf (S j) o = some id) (hg:(M j).get id = some (.cells cs false ver)) (hm:M (j + 1) = (M j).set id cs') :
  (F ops S M (lv ops fun i => listed.getD i false) ops.size).2 id = some (cs,false) ∧
  F ops S M (add (lv ops fun i => listed.getD i false) j) ops.size = ((F ops S M (lv ops fun i => listed.getD i false) ops.size).1,fun i => if i = id then some (cs',false) else (F ops S M (lv ops fun i => listed.getD i false) ops.size).2 i):=by
 have hj:=U.lt
 have other:∀ k y,ops[k]? = some y → k ≠ j → rank y = 3 → Region.wanted y (ayields ops (S k)) = true → (j < k → ¬ ((Region.before ops).getD k 0).testBit j = true) → (k < j → ¬ ((Region.before ops).getD j 0).testBit k = true) →
   ∃ a b,objOf (S k) y = some a ∧ a ≠ id ∧ M (k + 1) = (M k).set a b:=by
  intro k y hy hne h3 hwy h1 h2
  obtain ⟨a,c1,v1,b,a1,a2,a3,_⟩:=Abw R k y hy h3 hwy
  exact ⟨a,b,a1,fun e => Aul R ho hy hr h3 hw hwy (Ne.symm hne) h1 h2 hid a1 e.symm,a3⟩
 have C:∀ k,k ≤ j → (F ops S M (lv ops fun i => listed.getD i false) k).2 id = (cont (M k)).2 id:=by
  intro k
  induction k with
  | zero => intro _; rfl
  | succ k ih =>
   intro hk
   have hy:=Array.getElem?_eq_getElem (show k < ops.size by omega)
   have ih:=ih (by omega)
   simp only [F]
   rcases Adg ops[k] with h0 | h0 | h0 | h0
   ·rw [Abb hy (.inl (by omega)),Acs R k _ hy (by omega)]; simpa using ih
   ·rw [Abb hy (.inl (by omega)),Acs R k _ hy (by omega)]; simpa using ih
   ·have hl:lv ops (fun i => listed.getD i false) k = true:=Ae5 R U (by omega) (Ads R.draw hy ho (by omega) (by omega) (by omega) (by omega) (.inr (by cases hc:creator o with | false => rfl | true => have:=Aa6 hc; omega)))
    rw [if_pos hl,Afn hy h0]
   ·cases hwk:Region.wanted ops[k] (ayields ops (S k)) with
    | false => rw [Abb hy (.inr ⟨h0,hwk⟩),Ag7 R k _ hy hwk]; simpa using ih
    | true =>
     obtain ⟨a,c1,v1,b,a1,a2,a3,_⟩:=Abw R k _ hy h0 hwk
     split
     ·rw [Adc hy h0 hwk a1]
      dsimp only
      split
      ·rename_i e; rw [e]
      ·rename_i e; rw [ih,a3,Aeg R]; dsimp only; rw [if_neg e]
     ·rename_i hl
      obtain ⟨a',b',a1',hne,a3'⟩:=other k _ hy (by omega) h0 hwk (by omega) fun _ hb => hl (Ae5 R U (by omega) hb)
      rw [ih,a3',Aeg R]
      dsimp only
      rw [if_neg (Ne.symm hne)]
 have D:∀ k,j ≤ k → k ≤ ops.size → (F ops S M (lv ops fun i => listed.getD i false) k).2 id = some (cs,false) ∧
   (j < k → F ops S M (add (lv ops fun i => listed.getD i false) j) k = ((F ops S M (lv ops fun i => listed.getD i false) k).1,fun i => if i = id then some (cs',false) else (F ops S M (lv ops fun i => listed.getD i false) k).2 i)):=by
  intro k
  induction k with
  | zero =>
   intro h1 _
   have:j = 0:=by omega
   subst this
   exact ⟨by rw [C 0 (Nat.le_refl _)]; exact Ado.2 ⟨ver,hg⟩,fun h => by omega⟩
  | succ k ih =>
   intro h1 h2
   by_cases e:j = k + 1
   ·subst e
    exact ⟨by rw [C _ (Nat.le_refl _)]; exact Ado.2 ⟨ver,hg⟩,fun h => by omega⟩
   ·obtain ⟨i1,i2⟩:=ih (by omega) (by omega)
    by_cases e2:k = j
    ·subst e2
     simp only [F,Ajy (ops:=ops) (l:=fun i => listed.getD i false) U.not,Bool.false_eq_true,if_false,add,beq_self_eq_true,Bool.true_or,if_true]
     refine ⟨i1,fun _ => ?_⟩
     have hbel:F ops S M (add (lv ops fun i => listed.getD i false) k) k = F ops S M (lv ops fun i => listed.getD i false) k:=Api _ _ k fun i hi => by
      have:(i == k) = false:=by simp; omega
      simp [add,this]
     have hadd:F ops S M (fun i => i == k || lv ops (fun i => listed.getD i false) i) k = F ops S M (lv ops fun i => listed.getD i false) k:=hbel
     rw [Adc ho hr hw hid,hm,Aeg R]
     dsimp only
     rw [if_pos rfl]
     show ((F ops S M (add (lv ops fun i => listed.getD i false) k) k).1,fun i => if i = id then some (cs',false) else (F ops S M (add (lv ops fun i => listed.getD i false) k) k).2 i) = _
     rw [hbel]
    ·have hy:=Array.getElem?_eq_getElem (show k < ops.size by omega)
     have i2:=i2 (by omega)
     have hkj:(k == j) = false:=by simp; omega
     simp only [F,add,hkj,Bool.false_or]
     by_cases hl:lv ops (fun i => listed.getD i false) k = true
     ·rw [if_pos hl,if_pos hl]
      have hun:=Afz R U (show k < ops.size by omega) (lv_le hl).1
      have i2':F ops S M (fun i => i == j || lv ops (fun i => listed.getD i false) i) k = ((F ops S M (lv ops fun i => listed.getD i false) k).1,fun i => if i = id then some (cs',false) else (F ops S M (lv ops fun i => listed.getD i false) k).2 i):=i2
      rcases Adg ops[k] with h0 | h0 | h0 | h0
      ·rw [Abb hy (.inl (by omega)),Abb hy (.inl (by omega))]; exact ⟨i1,fun _ => i2⟩
      ·rw [Abb hy (.inl (by omega)),Abb hy (.inl (by omega))]; exact ⟨i1,fun _ => i2⟩
      ·exact absurd (Ads R.draw ho hy (by omega) (by omega) (by omega) (by omega) (.inl hr)) hun
      ·cases hwk:Region.wanted ops[k] (ayields ops (S k)) with
       | false => rw [Abb hy (.inr ⟨h0,hwk⟩),Abb hy (.inr ⟨h0,hwk⟩)]; exact ⟨i1,fun _ => i2⟩
       | true =>
        obtain ⟨a,b,a1,hne,a3⟩:=other k _ hy e2 h0 hwk (fun _ => hun) (by omega)
        rw [Adc hy h0 hwk a1,Adc hy h0 hwk a1]
        refine ⟨by dsimp only; rw [if_neg (Ne.symm hne)]; exact i1,fun _ => ?_⟩
        show ((F ops S M (add (lv ops fun i => listed.getD i false) j) k).1,fun i => if i = a then (cont (M (k + 1))).2 a else (F ops S M (add (lv ops fun i => listed.getD i false) j) k).2 i) = _
        rw [i2]
        dsimp only
        congr 1
        funext i
        by_cases ea:i = a
        ·rw [if_pos ea,if_neg (by rw [ea]; exact hne),if_pos ea]
        ·rw [if_neg ea]
         split <;> first | rfl | rw [if_neg ea]
     ·rw [if_neg hl,if_neg hl]
      exact ⟨i1,fun _ => i2⟩
 obtain ⟨d1,d2⟩:=D ops.size (by omega) (Nat.le_refl _)
 exact ⟨d1,d2 hj⟩
theorem A2c {listed:Array Bool} {j:Nat} (U:Up ops listed j) {o:Oper} (ho:ops[j]? = some o) (hr:rank o = 1) (hw:Region.wanted o (ayields ops (S j)) = true) {id:Nat} {cs:List AV}
  {off:Nat} (hoff:offOf (S j) o = off) (hid:objOf (S j) o = some id) (hg0:cc id (cont (M j)) = some cs):pr off (cc id (F ops S M (lv ops fun i => listed.getD i false) ops.size)) = some (cs.length,cs.drop off):=by
 have hg:pr off (cc id (cont (M j))) = some (cs.length,cs.drop off):=by rw [hg0]; rfl
 have hj:=U.lt
 have quiet:∀ k y,ops[k]? = some y → 2 ≤ rank y → (j < k → ¬ ((Region.before ops).getD k 0).testBit j = true) → (k < j → ¬ ((Region.before ops).getD j 0).testBit k = true) → pr off (cc id (cont (M (k + 1)))) = pr off (cc id (cont (M k))):=by
  intro k y hy h2 hb1 hb2
  cases hwk:Region.wanted y (ayields ops (S k)) with
  | false => rw [Ag7 R k y hy hwk]
  | true =>
   rcases Aqe R ho hy hr h2 hw hwk hb1 hb2 hid with h3 | ⟨_,h3⟩
   ·exact congrArg (pr off) (Arw R k (Array.getElem?_eq_some_iff.1 hy).1 id h3)
   ·rw [hoff] at h3
    exact Aq8 R k (Array.getElem?_eq_some_iff.1 hy).1 id off h3
 have C:∀ k,k ≤ j → pr off (cc id (F ops S M (lv ops fun i => listed.getD i false) k)) = pr off (cc id (cont (M k))):=by
  intro k
  induction k with
  | zero => intro _; rfl
  | succ k ih =>
   intro hk
   have hy:=Array.getElem?_eq_getElem (show k < ops.size by omega)
   have ih:=ih (by omega)
   simp only [F]
   rcases Nat.lt_or_ge (rank ops[k]) 2 with h0 | h0
   ·rw [Abb hy (.inl h0),Acs R k _ hy h0]; simpa using ih
   ·by_cases hl:lv ops (fun i => listed.getD i false) k = true
    ·rw [if_pos hl]
     rcases Adg ops[k] with h1 | h1 | h1 | h1
     ·omega
     ·omega
     ·rw [Afn hy h1]
     ·cases hwk:Region.wanted ops[k] (ayields ops (S k)) with
      | false => rw [Abb hy (.inr ⟨h1,hwk⟩),Ag7 R k _ hy hwk]; exact ih
      | true =>
       obtain ⟨a,c1,v1,b,a1,a2,a3,_⟩:=Abw R k _ hy h1 hwk
       rw [Adc hy h1 hwk a1]
       unfold cc at ih ⊢
       dsimp only
       split
       ·rename_i e; rw [e]
       ·rename_i e; rw [ih,a3,Aeg R]; dsimp only; rw [if_neg e]
    ·rw [if_neg hl,ih]
     exact (quiet k _ hy h0 (by omega) fun _ hb => hl (Ae5 R U (by omega) hb)).symm
 have D:∀ k,j ≤ k → k ≤ ops.size → pr off (cc id (F ops S M (lv ops fun i => listed.getD i false) k)) = some (cs.length,cs.drop off):=by
  intro k
  induction k with
  | zero =>
   intro h1 _
   have:j = 0:=by omega
   subst this
   rw [C 0 (Nat.le_refl _)]; exact hg
  | succ k ih =>
   intro h1 h2
   by_cases e:j = k + 1
   ·subst e; rw [C _ (Nat.le_refl _)]; exact hg
   ·have ih:=ih (by omega) (by omega)
    simp only [F]
    by_cases hl:lv ops (fun i => listed.getD i false) k = true
    ·rw [if_pos hl]
     have hkj:k ≠ j:=fun e => by subst e; have:=(lv_le hl).1; rw [U.not] at this; cases this
     have hy:=Array.getElem?_eq_getElem (show k < ops.size by omega)
     have hun:=Afz R U (show k < ops.size by omega) (lv_le hl).1
     rcases Adg ops[k] with h0 | h0 | h0 | h0
     ·rw [Abb hy (.inl (by omega))]; exact ih
     ·rw [Abb hy (.inl (by omega))]; exact ih
     ·rw [Afn hy h0]
      have T:∀ i,j ≤ i → i ≤ k + 1 → pr off (cc id (cont (M i))) = some (cs.length,cs.drop off):=by
       intro i
       induction i with
       | zero => intro h3 _; rw [show (0:Nat) = j by omega]; exact hg
       | succ i ihi =>
        intro h3 h4
        by_cases e2:j = i + 1
        ·rw [← e2]; exact hg
        ·have ihi:=ihi (by omega) (by omega)
         have hi:=Array.getElem?_eq_getElem (show i < ops.size by omega)
         rcases Nat.lt_or_ge (rank ops[i]) 2 with h5 | h5
         ·rw [Acs R i _ hi h5]; exact ihi
         ·rw [quiet i _ hi h5 (fun h6 hb => ?_) (by omega)]
          ·exact ihi
          ·by_cases e3:i = k
           ·subst e3; exact hun hb
           ·exact Afz R U (show i < ops.size by omega) (Aoa R U.dc hy h0 hl (by omega) hi h5) hb
      exact T (k + 1) (by omega) (Nat.le_refl _)
     ·cases hwk:Region.wanted ops[k] (ayields ops (S k)) with
      | false => rw [Abb hy (.inr ⟨h0,hwk⟩)]; exact ih
      | true =>
       obtain ⟨a,c1,v1,b,a1,a2,a3,_⟩:=Abw R k _ hy h0 hwk
       have hv:verKept ms k id = true:=(Aqe R ho hy hr (by omega) hw hwk (fun _ => hun) (by omega) hid).resolve_right fun q => by have:=q.1; omega
       have hne:=Ai0 R k _ hy h0 hwk id hv
       rw [Adc hy h0 hwk a1]
       unfold cc at ih ⊢
       dsimp only
       rw [if_neg (fun e => hne (by rw [a1,e]))]
       exact ih
    ·rw [if_neg hl]; exact ih
 exact D ops.size (by omega) (Nat.le_refl _)
end
variable {P:Program} {B:Bs} {W:World} {H:Calls1}
section
variable {N:Nat} {ops:Array Oper} {S:Nat → Sl} {M:Nat → Mem} {ms:List (Sl × Mem)}
def SlotR (ops:Array Oper) (S:Nat → Sl) (L:Nat → Bool) (t:Nat) (x:AV):Prop :=
 (∃ i o,ops[i]? = some o ∧ o.dst = some t ∧ L i = true ∧ x = (S (i + 1)).at t) ∨
 ((∀ i o,ops[i]? = some o → o.dst = some t → L i = false) ∧ x = (S 0).at t)
theorem Aew (hd:drawOk ops = true) {i j:Nat} {x y:Oper} {t:Nat} (hi:ops[i]? = some x) (hj:ops[j]? = some y) (hx:x.dst = some t) (hy:y.dst = some t):i = j:=by
 rcases Nat.lt_trichotomy i j with h | h | h
 ·rcases (Acl hd hi hj h).2 with e | e
  ·rw [hx] at e; cases e
  ·exact absurd (hx.trans hy.symm) e
 ·exact h
 ·rcases (Acl hd hj hi h).2 with e | e
  ·rw [hy] at e; cases e
  ·exact absurd (hy.trans hx.symm) e
theorem Aea {i j:Nat} {x y:Oper} (h:pairOk ops x y = true ∨ floatOk (Region.before ops) ops i j x y = true):x.apart ops y = true:=by
 rcases h with h | h
 ·unfold pairOk at h
  simp only [Bool.and_eq_true] at h
  exact h.1
 ·exact (Ab0 h).2.2.1
def Kept (P:Program) (g0 g:G) (S:Nat → Sl) (ops:Array Oper) (a:Act) (j b:Nat):Prop :=
 ∃ o d ob c,ops[j]? = some o ∧ o.dst = some d ∧ g.pn b = some ob ∧ g0.pn b = none ∧ crea P (S j) o = some c ∧ Made g b ob (a.tmps.getD d undef) c
structure Inv0 (P:Program) (B:Bs) (W:World) (ops:Array Oper) (S:Nat → Sl) (M:Nat → Mem) (g0:G) (L:Nat → Bool) (Q:Nat → Prop) (g:G) (a:Act) (w:World):Prop where
 le:g0.le g
 sl:∀ t x,(∀ j o,Q j → ops[j]? = some o → o.dst ≠ some t) → SlotR ops S L t x → Rel g x (a.tmps.getD t undef)
 mm:∃ mm,WR B W g mm w ∧ cont mm = F ops S M L ops.size
 pd:∃ bl:Nat → Nat,(∀ j,Q j → Kept P g0 g S ops a j (bl j)) ∧ ∀ i j,Q i → Q j → bl i = bl j → i = j
structure Inv (P:Program) (B:Bs) (W:World) (N:Nat) (ops:Array Oper) (S:Nat → Sl) (M:Nat → Mem) (D:List Deferred) (g0:G) (listed:Array Bool) (g:G) (a:Act) (w:World):Prop where
 size:listed.size = ops.size
 dc:DC ops listed
 tm:a.tmps.size = N
 df:a.defers = D
 st:Inv0 P B W ops S M g0 (lv ops fun i => listed.getD i false) (Pend ops fun i => listed.getD i false) g a w
theorem Inv0.congr {g0 g:G} {a:Act} {w:World} {L L':Nat → Bool} {Q Q':Nat → Prop} (I:Inv0 P B W ops S M g0 L Q g a w) (hL:∀ i,i < ops.size → L i = L' i) (hQ:∀ i,i < ops.size → (Q i ↔ Q' i)) (hq:∀ i,Q' i → i < ops.size):Inv0 P B W ops S M g0 L' Q' g a w:=by
 refine ⟨I.le,fun t x hn hs => I.sl t x (fun j o hj ho => hn j o ((hQ j (Array.getElem?_eq_some_iff.1 ho).1).1 hj) ho) ?_,?_,?_⟩
 ·rcases hs with ⟨i,o,h1,h2,h3,h4⟩ | ⟨h1,h2⟩
  ·exact .inl ⟨i,o,h1,h2,by rw [hL i (Array.getElem?_eq_some_iff.1 h1).1]; exact h3,h4⟩
  ·exact .inr ⟨fun i o h3 h4 => by rw [hL i (Array.getElem?_eq_some_iff.1 h3).1]; exact h1 i o h3 h4,h2⟩
 ·obtain ⟨mm,h1,h2⟩:=I.mm
  exact ⟨mm,h1,h2.trans (Api _ _ _ fun i hi => hL i hi)⟩
 ·obtain ⟨bl,h1,h2⟩:=I.pd
  exact ⟨bl,fun j hj => h1 j ((hQ j (hq j hj)).2 hj),fun i j hi hj => h2 i j ((hQ i (hq i hi)).2 hi) ((hQ j (hq j hj)).2 hj)⟩
theorem Af7 {l:Nat → Bool} {j:Nat} (h:Pend ops l j):j < ops.size:=by
 obtain ⟨_,⟨o,ho,_⟩,_⟩:=h
 exact (Array.getElem?_eq_some_iff.1 ho).1
variable (R:Run P H N ops S M ms)
include R
theorem At3 {listed:Array Bool} {j:Nat} (U:Up ops listed j) {i:Nat} (hp:Pend ops (fun i => listed.getD i false) i):¬ ((Region.before ops).getD j 0).testBit i = true:=by
 intro h
 have:=Ae5 R U (Af7 hp) h
 rw [Akv hp] at this
 cases this
theorem Aje {listed:Array Bool} {j:Nat} (U:Up ops listed j) {o:Oper} (ho:ops[j]? = some o) {t:Nat} (ht:t ∈ o.looksAt ops) :
  (∀ i x,Pend ops (fun i => listed.getD i false) i → ops[i]? = some x → x.dst ≠ some t) ∧ SlotR ops S (lv ops fun i => listed.getD i false) t ((S j).at t):=by
 have hno:∀ i x,Pend ops (fun i => listed.getD i false) i → ops[i]? = some x → x.dst ≠ some t:=by
  intro i x hp hx hd
  rcases Nat.lt_trichotomy i j with h | h | h
  ·rcases (Acl R.draw hx ho h).1 with e | e
   ·exact At3 R U hp e
   ·exact absurd ht ((Oper.apart_spec (Aea e)).1 t hd)
  ·subst h
   have:listed.getD i false = true:=hp.1
   rw [U.not] at this; cases this
  ·rcases (Acl R.draw ho hx h).1 with e | e
   ·exact Afz R U (Af7 hp) hp.1 e
   ·exact absurd ht ((Oper.apart_spec (Aea e)).2.2 t hd)
 refine ⟨hno,?_⟩
 by_cases hw:∃ (i:Nat) (x:Oper),ops[i]? = some x ∧ x.dst = some t
 ·obtain ⟨i,x,hi,hx⟩:=hw
  have hil:=(Array.getElem?_eq_some_iff.1 hi).1
  have hnp:¬ Pend ops (fun i => listed.getD i false) i:=fun hp => hno i x hp hi hx
  cases hl:listed.getD i false with
  | true =>
   have hlv:=lv_of (ops:=ops) (l:=fun i => listed.getD i false) hl hnp
   rcases Nat.lt_trichotomy i j with h | h | h
   ·refine .inl ⟨i,x,hi,hx,hlv,?_⟩
    refine Adw R t (i + 1) j h (by have:=U.lt; omega) fun k y h1 h2 hk hy => ?_
    have:=Aew R.draw hi hk hx hy
    omega
   ·subst h; rw [U.not] at hl; cases hl
   ·rcases (Acl R.draw ho hi h).1 with e | e
    ·exact absurd e (Afz R U hil hl)
    ·exact absurd ht ((Oper.apart_spec (Aea e)).2.2 t hx)
  | false =>
   refine .inr ⟨fun k y hk hy => ?_,?_⟩
   ·have:=Aew R.draw hi hk hx hy
    subst this; exact Ajy hl
   ·refine Adw R t 0 j (by omega) (by have:=U.lt; omega) fun k y h1 h2 hk hy => ?_
    have:=Aew R.draw hi hk hx hy
    subst this
    rcases (Acl R.draw hi ho h2).1 with e | e
    ·have:=Apo R U e
     rw [hl] at this; cases this
    ·exact absurd ht ((Oper.apart_spec (Aea e)).1 t hx)
 ·refine .inr ⟨fun k y hk hy => absurd ⟨k,y,hk,hy⟩ hw,?_⟩
  exact Adw R t 0 j (by omega) (by have:=U.lt; omega) fun k y h1 h2 hk hy => hw ⟨k,y,hk,hy⟩
omit R in
theorem Ajz {listed:Array Bool} {j:Nat} (hj:j < listed.size) (i:Nat):(listed.setIfInBounds j true).getD i false = add (fun i => listed.getD i false) j i:=by
 unfold add
 rw [Array.getD_eq_getD_getElem?,Array.getElem?_setIfInBounds]
 by_cases e:j = i
 ·subst e; simp [hj]
 ·have:(i == j) = false:=by simp; omega
  simp [e,this]
theorem Apv {L:Nat → Bool} {j:Nat} {o:Oper} (ho:ops[j]? = some o) {t:Nat} {x:AV} (h:SlotR ops S (add L j) t x) :
  (o.dst = some t ∧ x = (S (j + 1)).at t) ∨ (o.dst ≠ some t ∧ SlotR ops S L t x):=by
 rcases h with ⟨i,y,hi,hy,hl,hx⟩ | ⟨hn,hx⟩
 ·by_cases e:i = j
  ·subst e
   rw [ho] at hi; cases hi
   exact .inl ⟨hy,hx⟩
  ·refine .inr ⟨fun hd => e (Aew R.draw hi ho hy hd),.inl ⟨i,y,hi,hy,?_,hx⟩⟩
   have:(i == j) = false:=by simpa using e
   simpa [add,this] using hl
 ·refine .inr ⟨fun hd => ?_,.inr ⟨fun i y hi hy => ?_,hx⟩⟩
  ·have:=hn j o ho hd
   simp [add] at this
  ·have:=hn i y hi hy
   simp only [add,Bool.or_eq_false_iff] at this
   exact this.2
theorem Aj2 {D:List Deferred} {g0:G} {listed:Array Bool} {g:G} {a:Act} {w:World} (I:Inv P B W N ops S M D g0 listed g a w) {j:Nat} (U:Up ops listed j) {o:Oper} (ho:ops[j]? = some o):OR g (S j) a o.op.operands.toList:=by
 intro x hx
 cases x with
 | tmp t =>
  have hs:=Aje R U ho (t:=t) (by
   unfold Oper.looksAt
   simp only [List.mem_append,List.mem_filterMap]
   exact .inl ⟨_,hx,rfl⟩)
  exact I.st.sl t _ hs.1 hs.2
 | const v => exact Aap v
 | global i => rfl
 | func f => exact ⟨[],[],rfl,.nil,.nil⟩
theorem Arx {D:List Deferred} {g0:G} {listed:Array Bool} {g:G} {a:Act} {w:World} (I:Inv P B W N ops S M D g0 listed g a w) {j:Nat} (U:Up ops listed j) {o:Oper} (ho:ops[j]? = some o) :
  Region.wanted o (ayields ops (S j)) = Region.wanted o (yielded ops a.tmps):=by
 unfold Region.wanted
 cases hg:o.guard with
 | none => rfl
 | some q =>
  obtain ⟨k,b⟩:=q
  dsimp only
  have:ayields ops (S j) k = yielded ops a.tmps k:=by
   unfold ayields yielded
   cases hd:(ops[k]?).bind (·.dst) with
   | none => rfl
   | some d =>
    simp only [Option.bind_some]
    have hs:=Aje R U ho (t:=d) (by unfold Oper.looksAt; rw [hg]; simp [hd])
    have hr:=I.st.sl d _ hs.1 hs.2
    rw [Aii hr]
    cases ht:a.tmps[d]? with
    | none => simp [ht,undef,vbool]
    | some v => simp [ht]; cases v <;> rfl
  rw [this]
theorem A1t {a:Act} (tm:a.tmps.size = N) {s s':Sl} {d:Nat} {x:AV} (v:Value) (hp:aput N s (some d) x = some s'):(a.put (some d) v).tmps.getD d undef = v ∧ s'.at d = x:=by
 simp only [aput] at hp
 split at hp
 ·rename_i ht
  simp only [Option.some.injEq] at hp
  refine ⟨?_,by rw [← hp,Sl.at_set,if_pos rfl]⟩
  simp only [Act.put]
  rw [Array.getD_eq_getD_getElem?,Array.getElem?_setIfInBounds]
  simp [tm,ht]
 ·cases hp
omit R in
theorem Afa {a:Act} {d:Option Tmp} {t:Nat} (v:Value) (h:d ≠ some t):(a.put d v).tmps.getD t undef = a.tmps.getD t undef:=by
 cases d with
 | none => rfl
 | some d =>
  have hne:d ≠ t:=fun e => h (by rw [e])
  simp only [Act.put]
  rw [Array.getD_eq_getD_getElem?,Array.getElem?_setIfInBounds,if_neg hne,← Array.getD_eq_getD_getElem?]
theorem A3f {g0:G} {L:Nat → Bool} {Q:Nat → Prop} {g g':G} {a:Act} {w w':World} (I:Inv0 P B W ops S M g0 L Q g a w) (tm:a.tmps.size = N) {j:Nat} {o:Oper} (ho:ops[j]? = some o) (hq:¬ Q j) {x:AV} {v:Value} (hl:g.le g') (hx:Rel g' x v)
  (hp:aput N (S j) o.dst x = some (S (j + 1))) (hm:∃ mm,WR B W g' mm w' ∧ cont mm = F ops S M (add L j) ops.size):Inv0 P B W ops S M g0 (add L j) Q g' (a.put o.dst v) w':=by
 refine ⟨I.le.trans hl,fun t y hn hy => ?_,hm,?_⟩
 ·rcases Apv R ho hy with ⟨hd,rfl⟩ | ⟨hd,hs⟩
  ·rw [hd] at hp ⊢
   obtain ⟨h1,h2⟩:=A1t R tm v hp
   rw [h1,h2]; exact hx
  ·rw [Afa v hd]
   exact (I.sl t y hn hs).mono hl _ _
 ·obtain ⟨bl,h1,h2⟩:=I.pd
  refine ⟨bl,fun i hi => ?_,h2⟩
  obtain ⟨y,d,ob,c,k1,k2,k3,k4,k5,k6⟩:=h1 i hi
  refine ⟨y,d,ob,c,k1,k2,hl.pn _ _ k3,k4,k5,?_⟩
  rw [Afa v fun e => hq (by rw [Aew R.draw ho k1 e k2]; exact hi)]
  exact k6.mono hl.lee
theorem Ays {g0:G} {L:Nat → Bool} {Q:Nat → Prop} {g:G} {a:Act} {w:World} (I:Inv0 P B W ops S M g0 L Q g a w) {k:Nat} {o:Oper} (ho:ops[k]? = some o) (hQ:Q k) (hc:creator o = true) (hq:quiet (S k) o = true)
  (h0:F ops S M L ops.size = cont (M k)) (h1:F ops S M (add L k) ops.size = cont (M (k + 1))) :
  ∃ g',Inv0 P B W ops S M g0 (add L k) (fun i => Q i ∧ i ≠ k) g' a w:=by
 obtain ⟨bl,p1,p2⟩:=I.pd
 obtain ⟨o',d,ob,c,k1,k2,k3,k4,k5,k6⟩:=p1 k hQ
 rw [ho] at k1; cases k1
 obtain ⟨mm,hmm,hcm⟩:=I.mm
 obtain ⟨s,l,hw,hr⟩:=hmm.adopt k3 k6
 have e:=G.lee_adopt g (bl k) s l
 have hnext:mm.next = (M k).next:=congrArg (fun x:Cn => x.1.1) (hcm.trans h0)
 obtain ⟨v,hs,hp,hM⟩:∃ v,aput N (S k) o.dst v = some (S (k + 1)) ∧ v = (c.at (M k)).1 ∧ M (k + 1) = (c.at (M k)).2:=by
  have gd:o.guard = none:=by unfold creator at hc; simp only [Bool.and_eq_true,Option.isNone_iff_eq_none] at hc; exact hc.1.1
  rcases R.trace.step k o ho with ⟨_,v,e1,e2⟩ | ⟨e1,_⟩
  ·have e1:=Ace (by have:=Aa6 hc; omega) e1
   have e3:astep P H (S k) o (M k) = aop P (S k) o (M k):=by
    obtain ⟨dst,op,ty,pos,af,gd⟩:=o
    cases op <;> first | rfl | (simp [creator] at hc)
   rw [e3,Aqs hc hq,k5] at e1
   simp only [Option.map_some,Option.some.injEq] at e1
   exact ⟨v,e2,by rw [e1],by rw [e1]⟩
  ·unfold Region.wanted at e1; rw [gd] at e1; cases e1
 rw [k2] at hs
 have hx:(S (k + 1)).at d = (c.at mm).1:=by
  obtain ⟨_,q⟩:=A1t R (a:={ tmps:=Array.replicate N undef,defers:=[] }) (by simp) undef hs
  rw [q,hp]
  cases c <;> simp [Cr.at,hnext]
 refine ⟨g.adopt (bl k) s l,?_,fun t y hn hy => ?_,⟨_,hw,?_⟩,bl,fun j hj => ?_,fun i j hi hj => p2 i j hi.1 hj.1⟩
 ·refine ⟨Nat.le_trans I.le.n e.n,fun id hi => ?_,fun id hi => ?_,fun id hi => ?_,fun b q u hu => I.le.fz b q u hu,fun b hb => I.le.df b hb,fun b hb => I.le.lb b hb,fun b q hb => ?_⟩
  ·rw [e.mu id (Nat.lt_of_lt_of_le hi I.le.n)]; exact I.le.mu id hi
  ·rw [e.sz id (Nat.lt_of_lt_of_le hi I.le.n)]; exact I.le.sz id hi
  ·rw [e.ln id (Nat.lt_of_lt_of_le hi I.le.n)]; exact I.le.ln id hi
  ·show (if b = bl k then none else g.pn b) = some q
   rw [if_neg (fun e => by rw [e,k4] at hb; cases hb)]
   exact I.le.pn b q hb
 ·rcases Apv R ho hy with ⟨hd,rfl⟩ | ⟨hd,hs⟩
  ·rw [k2] at hd; cases hd
   rw [hx]; exact hr
  ·refine (I.sl t y (fun j x hj hx' => ?_) hs).monoE e _ _
   by_cases ej:j = k
   ·subst ej; rw [ho] at hx'; cases hx'; exact hd
   ·exact hn j x ⟨hj,ej⟩ hx'
 ·rw [h1,hM]
  have hcc:=hcm.trans h0
  cases c with
  | mp =>
   have e1:=congrArg (fun x:Cn => x.1) hcc
   have e2:=congrArg (fun x:Cn => x.2) hcc
   simp only [cont,Prod.mk.injEq] at e1 e2
   obtain ⟨e3,e4,e5⟩:=e1
   simp only [cont,Cr.at,Prod.mk.injEq]
   refine ⟨⟨by simp [Mem.newMap,e3],e4,?_⟩,e2⟩
   funext id
   have e6:(mm.map id).map (fun M => (M.es,M.ck)) = ((M k).map id).map fun M => (M.es,M.ck):=congrFun e5 id
   have gl:∀ (m:Mem) i,m.newMap.map i = if i = m.next then some ⟨[],0,m.clock + 1⟩ else m.map i:=by intro m i; simp [Mem.newMap,Mem.map]
   rw [gl,gl,e3]
   split
   ·rfl
   ·exact e6
  | ptr cs => exact cont_new hcc cs
  | sl cs len k ag => exact cont_new hcc cs
 ·obtain ⟨y,d',ob',c',q1,q2,q3,q4,q5,q6⟩:=p1 j hj.1
  refine ⟨y,d',ob',c',q1,q2,?_,q4,q5,q6.mono e⟩
  show (if bl j = bl k then none else g.pn (bl j)) = some ob'
  rw [if_neg fun e => hj.2 (p2 j k hj.1 hQ e)]
  exact q3
where
 cont_new {m m':Mem} (h:cont m = cont m') (cs:List AV):cont (m.new cs false) = cont (m'.new cs false):=by
  have e1:=congrArg (fun x:Cn => x.1) h
  have e2:=congrArg (fun x:Cn => x.2) h
  simp only [cont,Prod.mk.injEq] at e1 e2
  obtain ⟨e3,e4,e5⟩:=e1
  simp only [cont,Mem.next_new,show ∀ (m:Mem) i,(m.new cs false).loop i = m.loop i from fun _ _ => rfl,show ∀ (m:Mem) i,(m.new cs false).map i = m.map i from fun _ _ => rfl,e3,e4,e5,Prod.mk.injEq,true_and]
  funext id
  have e6:=congrFun e2 id
  simp only [Mem.get_new,e3]
  by_cases hi:id = m'.next
  ·simp [hi]
  ·simp only [hi,if_false]; exact e6
theorem An1 {i j:Nat} {x y:Oper} (hi:ops[i]? = some x) (hj:ops[j]? = some y) (hij:i < j) (hx:rank x = 2) (hb:¬ ((Region.before ops).getD j 0).testBit i = true):quiet (S j) y = true:=by
 have hjl:=(Array.getElem?_eq_some_iff.1 hj).1
 by_cases hbs:(match y.op with | .buildSlice _ _ _ => true | _ => false) = true
 ·have hm:j ∈ fl ops:=by
   unfold fl
   refine List.mem_filter.2 ⟨List.mem_range.2 hjl,?_⟩
   simp only [hj,Bool.and_eq_true,List.any_eq_true,List.mem_range]
   refine ⟨hbs,i,hij,?_⟩
   simp only [hi,Bool.and_eq_true,beq_iff_eq,Bool.not_eq_true']
   exact ⟨hx,by cases h:((Region.before ops).getD j 0).testBit i with | false => rfl | true => exact absurd h hb⟩
  have:=List.all_eq_true.1 R.quiet j hm
  unfold quietAt at this
  rw [hj,R.mems j (by omega)] at this
  exact this
 ·unfold quiet
  split
  ·rename_i h; rw [h] at hbs; exact absurd rfl hbs
  ·rfl
theorem Ajt {listed:Array Bool} (dc:DC ops listed) {j:Nat} {y:Oper} (hj:ops[j]? = some y) (hl:(∀ e ∈ y.after,Region.binds .any e = true → Li listed e.on)) (hp:∃ i x,i < j ∧ ops[i]? = some x ∧ 2 ≤ rank x ∧ listed.getD i false = false) (hc:creator y = true):quiet (S j) y = true:=by
 obtain ⟨i,x,hi,hx,h2,hn⟩:=hp
 have hb:¬ ((Region.before ops).getD j 0).testBit i = true:=fun h => by
  have:=closed dc j _ hj hl i h
  unfold Li at this
  rw [hn] at this; cases this
 have hry:=Aa6 hc
 rcases Acf R.draw hx hj hi h2 (by omega) (by omega) with h | h
 ·exact absurd h hb
 ·exact An1 R hx hj hi (Ab0 h).2.1 hb
theorem Ary {listed:Array Bool} {j:Nat} (U:Up ops listed j) (hj:j < listed.size) (hnp:¬ Pend ops (add (fun i => listed.getD i false) j) j) {g0:G} {a:Act} {w:World} :
  ∀ k,k ≤ ops.size → ∀ g,Inv0 P B W ops S M g0 (add (lv ops fun i => listed.getD i false) j) (Pend ops fun i => listed.getD i false) g a w →
  ∃ g',Inv0 P B W ops S M g0 (fun i => if i < k then lv ops (add (fun i => listed.getD i false) j) i else add (lv ops fun i => listed.getD i false) j i) (fun i => if i < k then Pend ops (add (fun i => listed.getD i false) j) i else Pend ops (fun i => listed.getD i false) i) g' a w:=by
 have more:∀ i,listed.getD i false = true → add (fun i => listed.getD i false) j i = true:=fun i h => by simp [add,h]
 have back:∀ i,add (fun i => listed.getD i false) j i = false → listed.getD i false = false:=fun i h => by simp only [add,Bool.or_eq_false_iff] at h; exact h.2
 have same:∀ i,i ≠ j → add (fun i => listed.getD i false) j i = listed.getD i false:=fun i h => by
  have:(i == j) = false:=by simpa using h
  simp [add,this]
 have pend_old:∀ i,Pend ops (add (fun i => listed.getD i false) j) i → Pend ops (fun i => listed.getD i false) i:=by
  intro i hp
  by_cases e:i = j
  ·subst e; exact absurd hp hnp
  ·obtain ⟨h1,h2,q,x,h3,h4,h5,h6⟩:=hp
   exact ⟨by rw [same i e] at h1; exact h1,h2,q,x,h3,h4,h5,back q h6⟩
 intro k
 induction k with
 | zero =>
  intro _ g I
  refine ⟨g,I.congr (fun i _ => by rw [if_neg (Nat.not_lt_zero i)]) (fun i _ => by rw [if_neg (Nat.not_lt_zero i)]) fun i hi => ?_⟩
  rw [if_neg (Nat.not_lt_zero i)] at hi
  exact Af7 hi
 | succ k ih =>
  intro hk g I
  obtain ⟨g1,I1⟩:=ih (by omega) g I
  have hsz:∀ (k:Nat) i,(if i < k then Pend ops (add (fun i => listed.getD i false) j) i else Pend ops (fun i => listed.getD i false) i) → i < ops.size:=by
   intro k i hi
   split at hi
   ·exact Af7 hi
   ·exact Af7 hi
  obtain ⟨o,ho⟩:∃ o,ops[k]? = some o:=⟨_,Array.getElem?_eq_getElem (show k < ops.size by omega)⟩
  by_cases hp:Pend ops (fun i => listed.getD i false) k
  ·have hkj:k ≠ j:=fun e => by
    have:=hp.1
    subst e
    have h:listed.getD k false = true:=this
    rw [U.not] at h; cases h
   have haf:(add (lv ops fun i => listed.getD i false) j) k = false:=by
    have:(k == j) = false:=by simpa using hkj
    show (k == j || lv ops (fun i => listed.getD i false) k) = false
    rw [this,Akv hp]; rfl
   by_cases hp':Pend ops (add (fun i => listed.getD i false) j) k
   ·refine ⟨g1,I1.congr (fun i hi => ?_) (fun i hi => ?_) (hsz (k + 1))⟩
    ·by_cases e:i = k
     ·subst e; rw [if_neg (Nat.lt_irrefl _),if_pos (Nat.lt_succ_self _),haf,Akv hp']
     ·by_cases h:i < k
      ·rw [if_pos h,if_pos (by omega)]
      ·rw [if_neg h,if_neg (by omega)]
    ·by_cases e:i = k
     ·subst e; rw [if_neg (Nat.lt_irrefl _),if_pos (Nat.lt_succ_self _)]; exact ⟨fun _ => hp',fun _ => hp⟩
     ·by_cases h:i < k
      ·rw [if_pos h,if_pos (by omega)]
      ·rw [if_neg h,if_neg (by omega)]
   ·-- its time has come
    obtain ⟨h1,⟨o',ho',hc⟩,q0,x0,hq0,hx0,h20,hn0⟩:=hp
    rw [ho] at ho'; cases ho'
    have hl':listed.getD k false = true:=h1
    have hall:∀ i x,i < k → ops[i]? = some x → 2 ≤ rank x → add (fun i => listed.getD i false) j i = true:=by
     intro i x hi hx h2
     cases hn:add (fun i => listed.getD i false) j i with
     | true => rfl
     | false => exact absurd ⟨more k hl',⟨o,ho,hc⟩,i,x,hi,hx,h2,hn⟩ hp'
    have hjk:j < k:=by
     have e:=hall q0 x0 hq0 hx0 h20
     by_cases e':q0 = j
     ·omega
     ·rw [same q0 e'] at e
      exact absurd (e.symm.trans hn0) (by simp)
    have hq:=Ajt R U.dc ho (U.dc k _ ho hl') ⟨q0,x0,hq0,hx0,h20,hn0⟩ hc
    have hrk:=Aa6 hc
    have hpre:∀ i x,i < k → ops[i]? = some x → 2 ≤ rank x → (if i < k then lv ops (add (fun i => listed.getD i false) j) i else add (lv ops fun i => listed.getD i false) j i) = true:=by
     intro i x hi hx h2
     rw [if_pos hi]
     refine lv_of (hall i x hi hx h2) fun ⟨_,_,q,y,h3,h4,h5,h6⟩ => ?_
     have:=hall q y (by omega) h4 h5
     exact absurd (this.symm.trans h6) (by simp)
    have hpost:∀ i x,k < i → (if i < k then lv ops (add (fun i => listed.getD i false) j) i else add (lv ops fun i => listed.getD i false) j i) = true → ops[i]? = some x → rank x < 2:=by
     intro i x hi hl hx
     rw [if_neg (by omega)] at hl
     have hij:(i == j) = false:=by simp; omega
     simp only [add,hij,Bool.false_or] at hl
     rcases Nat.lt_or_ge (rank x) 2 with h | h
     ·exact h
     ·exfalso
      rcases Adg x with hr | hr | hr | hr
      ·omega
      ·omega
      ·have:=Aoa R U.dc hx hr hl (show q0 < i by omega) hx0 h20
       exact absurd (this.symm.trans hn0) (by simp)
      ·have hli:=(lv_le hl).1
       rcases Acf R.draw ho hx hi (by omega) h (by omega) with h7 | h7
       ·have hlt:=(Array.getElem?_eq_some_iff.1 hx).1
        have:=closed U.dc i _ hx (U.dc i _ hx hli) k h7
        have hbk:((Region.before ops).getD i 0).testBit q0 = true:=by
         rcases Acf R.draw hx0 ho hq0 h20 (by omega) (by omega) with h8 | h8
         ·have:listed.getD q0 false = true:=closed U.dc k _ ho (U.dc k _ ho hl') q0 h8
          exact absurd (this.symm.trans hn0) (by simp)
         ·exact (Ab0 h8).2.2.2 i hlt h7
        have:listed.getD q0 false = true:=closed U.dc i _ hx (U.dc i _ hx hli) q0 hbk
        exact absurd (this.symm.trans hn0) (by simp)
       ·have:=Aa6 (Ab0 h7).1
        omega
    have haf':(if k < k then lv ops (add (fun i => listed.getD i false) j) k else add (lv ops fun i => listed.getD i false) j k) = false:=by rw [if_neg (Nat.lt_irrefl _)]; exact haf
    have f0:F ops S M (fun i => if i < k then lv ops (add (fun i => listed.getD i false) j) i else add (lv ops fun i => listed.getD i false) j i) ops.size = cont (M k):=by
     rw [Akc _ k ops.size (by omega) ?_]
     ·exact Ali R _ k (by omega) hpre
     ·intro i x h3 h4 h5 hx
      by_cases e:i = k
      ·subst e; rw [haf'] at h5; cases h5
      ·exact hpost i x (by omega) h5 hx
    have f1:F ops S M (add (fun i => if i < k then lv ops (add (fun i => listed.getD i false) j) i else add (lv ops fun i => listed.getD i false) j i) k) ops.size = cont (M (k + 1)):=by
     rw [Akc _ (k + 1) ops.size (by omega) ?_]
     ·simp only [F,add,beq_self_eq_true,Bool.true_or,if_true]
      exact Afn ho hrk _
     ·intro i x h3 h4 h5 hx
      have e:(i == k) = false:=by simp; omega
      simp only [add,e,Bool.false_or] at h5
      exact hpost i x (by omega) h5 hx
    obtain ⟨g2,I2⟩:=Ays R I1 ho (by rw [if_neg (Nat.lt_irrefl _)]; exact ⟨h1,⟨o,ho,hc⟩,q0,x0,hq0,hx0,h20,hn0⟩) hc hq f0 f1
    refine ⟨g2,I2.congr (fun i hi => ?_) (fun i hi => ?_) (hsz (k + 1))⟩
    ·by_cases e:i = k
     ·subst e
      rw [if_pos (Nat.lt_succ_self _)]
      simp only [add,beq_self_eq_true,Bool.true_or]
      exact (lv_of (more i hl') hp').symm
     ·have e':(i == k) = false:=by simpa using e
      simp only [add,e',Bool.false_or]
      by_cases h:i < k
      ·rw [if_pos h,if_pos (by omega)]
      ·rw [if_neg h,if_neg (by omega)]
    ·by_cases e:i = k
     ·subst e
      rw [if_neg (Nat.lt_irrefl _),if_pos (Nat.lt_succ_self _)]
      exact ⟨fun h => absurd rfl h.2,fun h => absurd h hp'⟩
     ·by_cases h:i < k
      ·rw [if_pos h,if_pos (by omega)]; exact ⟨fun h => h.1,fun h => ⟨h,e⟩⟩
      ·rw [if_neg h,if_neg (by omega)]; exact ⟨fun h => h.1,fun h => ⟨h,e⟩⟩
  ·have hp':¬ Pend ops (add (fun i => listed.getD i false) j) k:=fun h => hp (pend_old k h)
   refine ⟨g1,I1.congr (fun i hi => ?_) (fun i hi => ?_) (hsz (k + 1))⟩
   ·by_cases e:i = k
    ·subst e
     rw [if_neg (Nat.lt_irrefl _),if_pos (Nat.lt_succ_self _)]
     by_cases e2:i = j
     ·subst e2
      rw [lv_of (by simp [add]) hnp]
      simp [add]
     ·have e3:(i == j) = false:=by simpa using e2
      simp only [add,e3,Bool.false_or]
      cases hl:listed.getD i false with
      | true => rw [lv_of hl hp]; exact (lv_of (by simp [add,hl]) hp').symm
      | false => rw [Ajy hl]; exact (Ajy (by simp [add,hl,e3])).symm
    ·by_cases h:i < k
     ·rw [if_pos h,if_pos (by omega)]
     ·rw [if_neg h,if_neg (by omega)]
   ·by_cases e:i = k
    ·subst e; rw [if_neg (Nat.lt_irrefl _),if_pos (Nat.lt_succ_self _)]; exact ⟨fun h => absurd h hp,fun h => absurd h hp'⟩
    ·by_cases h:i < k
     ·rw [if_pos h,if_pos (by omega)]
     ·rw [if_neg h,if_neg (by omega)]
theorem Ayt (ro:Option Nat) (hH:HSound P B W H) {D:List Deferred} {g0:G} {listed:Array Bool} {g:G} {a:Act} {w:World} (I:Inv P B W N ops S M D g0 listed g a w) {j:Nat} (U:Up ops listed j) {Q:Exit → Act → World → Prop} {K:Act → World → Prop}
  (hK:∀ g' a' w',Inv P B W N ops S M D g0 (listed.setIfInBounds j true) g' a' w' → K a' w'):wpOpIn (fw ro) 0 P ops Q j K a w:=by
 obtain ⟨o,ho⟩:∃ o,ops[j]? = some o:=⟨_,Array.getElem?_eq_getElem U.lt⟩
 have hj:=U.lt
 have hjs:j < listed.size:=by rw [I.size]; exact U.lt
 have hset:(fun i => (listed.setIfInBounds j true).getD i false) = add (fun i => listed.getD i false) j:=funext fun i => Ajz hjs i
 have dc':DC ops (listed.setIfInBounds j true):=by
  intro k y hk hl e he hb
  unfold Li at hl ⊢
  rw [Ajz hjs] at hl ⊢
  simp only [add,Bool.or_eq_true,beq_iff_eq] at hl ⊢
  rcases hl with hl | hl
  ·subst hl
   exact .inr (U.pre _ hk e he hb)
  ·exact .inr (I.dc k y hk hl e he hb)
 have fin:∀ {g':G} {v:Value} {w':World},Inv0 P B W ops S M g0 (lv ops (add (fun i => listed.getD i false) j)) (Pend ops (add (fun i => listed.getD i false) j)) g' (a.put o.dst v) w' → K (a.put o.dst v) w':=by
  intro g' v w' I0
  refine hK g' _ w' ⟨by simp [I.size],dc',?_,?_,by rw [hset]; exact I0⟩
  ·cases o.dst <;> simp [Act.put,I.tm]
  ·cases o.dst <;> simp [Act.put,I.df]
 have settle:¬ Pend ops (add (fun i => listed.getD i false) j) j → ∀ {g':G} {x:AV} {v:Value} {w':World},g.le g' → Rel g' x v → aput N (S j) o.dst x = some (S (j + 1)) → (∃ mm,WR B W g' mm w' ∧ cont mm = F ops S M (add (lv ops fun i => listed.getD i false) j) ops.size) → K (a.put o.dst v) w':=by
  intro hnp g' x v w' hl hx hp hm
  have hnq:¬ Pend ops (fun i => listed.getD i false) j:=fun h => by
   have:listed.getD j false = true:=h.1
   rw [U.not] at this; cases this
  obtain ⟨g2,I2⟩:=Ary R U hjs hnp ops.size (Nat.le_refl _) g' (A3f R I.st I.tm ho hnq hl hx hp hm)
  refine fin (I2.congr (fun i hi => by rw [if_pos hi]) (fun i hi => by rw [if_pos hi]) fun i hi => Af7 hi)
 unfold wpOpIn
 rw [ho]
 dsimp only
 rw [← Arx R I U ho]
 by_cases hpend:Pend ops (add (fun i => listed.getD i false) j) j
 ·-- it is made ahead of its time
  obtain ⟨_,⟨o',ho',hc⟩,q0,x0,hq0,hx0,h20,hn0⟩:=id hpend
  rw [ho] at ho'; cases ho'
  have hn0':listed.getD q0 false = false:=by simp only [add,Bool.or_eq_false_iff] at hn0; exact hn0.2
  have gd:o.guard = none:=by unfold creator at hc; simp only [Bool.and_eq_true,Option.isNone_iff_eq_none] at hc; exact hc.1.1
  have hdst:∃ d,o.dst = some d:=by unfold creator at hc; simp only [Bool.and_eq_true] at hc; exact Option.isSome_iff_exists.1 hc.1.2
  obtain ⟨d,hd⟩:=hdst
  have hw:Region.wanted o (ayields ops (S j)) = true:=by unfold Region.wanted; rw [gd]
  rw [if_pos hw]
  have hq:=Ajt R I.dc ho (U.pre _ ho) ⟨q0,x0,hq0,hx0,h20,hn0'⟩ hc
  obtain ⟨c,hcr⟩:∃ c,crea P (S j) o = some c:=by
   rcases R.trace.step j o ho with ⟨_,v,e1,_⟩ | ⟨e1,_⟩
   ·have e1:=Ace (by have:=Aa6 hc; omega) e1
    have e3:astep P H (S j) o (M j) = aop P (S j) o (M j):=by
     obtain ⟨dst,op,ty,pos,af,gd⟩:=o
     cases op <;> first | rfl | (simp [creator] at hc)
    rw [e3,Aqs hc hq] at e1
    cases hcc:crea P (S j) o with
    | none => rw [hcc] at e1; cases e1
    | some c => exact ⟨c,rfl⟩
   ·rw [hw] at e1; cases e1
  obtain ⟨mm,hmm,hcm⟩:=I.st.mm
  obtain ⟨g1,ob,v,ll,hrun,hw1,hpin,hmade⟩:=A0w hmm hc hq (Aj2 R I U ho) hcr
  refine ⟨fun _ _ => trivial,?_⟩
  rw [Oper.semAt_eq _ _ _ (by intro c hc'; obtain ⟨dst,op,ty,pos,af,gd⟩:=o; simp only at hc'; subst hc'; simp [creator] at hc)]
  rw [hrun]
  show K (a.put o.dst v) _
  have hpe:∀ i,i ≠ j → (Pend ops (add (fun i => listed.getD i false) j) i ↔ Pend ops (fun i => listed.getD i false) i):=by
   intro i hi
   have e:(i == j) = false:=by simpa using hi
   constructor
   ·rintro ⟨h1,h2,q,x,h3,h4,h5,h6⟩
    refine ⟨by simpa [add,e] using h1,h2,q,x,h3,h4,h5,?_⟩
    simp only [add,Bool.or_eq_false_iff] at h6
    exact h6.2
   ·rintro ⟨h1,h2,q,x,h3,h4,h5,h6⟩
    refine ⟨by simpa [add,e] using h1,h2,?_⟩
    by_cases eq:q = j
    ·subst eq
     exact ⟨q0,x0,by omega,hx0,h20,hn0⟩
    ·have e':(q == j) = false:=by simpa using eq
     exact ⟨q,x,h3,h4,h5,by simpa [add,e'] using h6⟩
  have hlv:∀ i,lv ops (add (fun i => listed.getD i false) j) i = lv ops (fun i => listed.getD i false) i:=by
   intro i
   by_cases e:i = j
   ·subst e; rw [Akv hpend,Ajy U.not]
   ·have e':(i == j) = false:=by simpa using e
    unfold lv
    by_cases h:Pend ops (fun i => listed.getD i false) i
    ·rw [if_pos h,if_pos ((hpe i e).2 h)]
    ·rw [if_neg h,if_neg (fun h' => h ((hpe i e).1 h'))]
     simp [add,e']
  have hg0:g0.pn w.heap.size = none:=by
   cases hp:g0.pn w.heap.size with
   | none => rfl
   | some o1 =>
    have:=I.st.le.pn _ _ hp
    rw [hmm.pin_fresh] at this; cases this
  obtain ⟨bl,p1,p2⟩:=I.st.pd
  have tmv:(a.put o.dst v).tmps.getD d undef = v:=by
   rw [hd]
   have hdN:d < N:=by
    rcases R.trace.step j o ho with ⟨_,v,_,e2⟩ | ⟨_,e2,_⟩
    ·rw [hd] at e2; simp only [aput] at e2; split at e2
     ·assumption
     ·cases e2
    ·rw [hd] at e2; simp only [aput] at e2; split at e2
     ·assumption
     ·cases e2
   simp only [Act.put]
   rw [Array.getD_eq_getD_getElem?,Array.getElem?_setIfInBounds]
   simp [I.tm,hdN]
  have oldb:∀ i,Pend ops (fun i => listed.getD i false) i → bl i < w.heap.size:=by
   intro i hi
   obtain ⟨_,_,_,_,_,_,q3,_⟩:=p1 i hi
   exact hmm.pinned_lt q3
  refine fin (g':=g1) ⟨I.st.le.trans ll,fun t y hn hy => ?_,⟨mm,hw1,?_⟩,fun i => if i = j then w.heap.size else bl i,fun i hi => ?_,fun i i' hi hi' he => ?_⟩
  ·have hne:o.dst ≠ some t:=hn j o hpend ho
   rw [Afa v hne]
   refine (I.st.sl t y (fun i x hi hx => ?_) ?_).mono ll _ _
   ·by_cases e:i = j
    ·subst e; rw [ho] at hx; cases hx; exact hne
    ·exact hn i x ((hpe i e).2 hi) hx
   ·rcases hy with ⟨i,x,h1,h2,h3,h4⟩ | ⟨h1,h2⟩
    ·exact .inl ⟨i,x,h1,h2,by rw [← hlv]; exact h3,h4⟩
    ·exact .inr ⟨fun i x h3 h4 => by rw [← hlv]; exact h1 i x h3 h4,h2⟩
  ·rw [hcm]; exact Api _ _ _ fun i _ => (hlv i).symm
  ·dsimp only
   by_cases e:i = j
   ·subst e
    rw [if_pos rfl]
    exact ⟨o,d,ob,c,ho,hd,hpin,hg0,hcr,by rw [tmv]; exact hmade⟩
   ·rw [if_neg e]
    have hio:=(hpe i e).1 hi
    obtain ⟨y,d',ob',c',q1,q2,q3,q4,q5,q6⟩:=p1 i hio
    refine ⟨y,d',ob',c',q1,q2,ll.pn _ _ q3,q4,q5,?_⟩
    rw [Afa v fun e' => e (Aew R.draw q1 ho q2 e')]
    exact q6.mono ll.lee
  ·by_cases e:i = j <;> by_cases e':i' = j
   ·rw [e,e']
   ·simp only [e,e',if_true,if_false] at he
    have:=oldb i' ((hpe i' e').1 hi')
    omega
   ·simp only [e,e',if_true,if_false] at he
    have:=oldb i ((hpe i e).1 hi)
    omega
   ·simp only [e,e',if_false] at he
    exact p2 i i' ((hpe i e).1 hi) ((hpe i' e').1 hi') he
 ·have hfull:rank o = 2 → Full ops listed j:=by
   intro hr
   cases hc:creator o with
   | false => exact A33 R U ho hr hc
   | true =>
    intro i x hi hx h2
    cases hn:listed.getD i false with
    | true => rfl
    | false =>
     refine absurd ⟨by simp [add],⟨o,ho,hc⟩,i,x,hi,hx,h2,?_⟩ hpend
     have:(i == j) = false:=by simp; omega
     simp [add,this,hn]
  obtain ⟨mm,hmm,hc⟩:=I.st.mm
  rcases R.trace.step j o ho with ⟨hw,v,hs,hp⟩ | ⟨hw,hp,hm⟩
  ·rw [if_pos hw]
   rcases Adg o with hr | hr | hr | hr
   ·rcases (Aer hs).symm with ⟨hcm,_,hM,hs⟩ | hs
    ·have hk:∀ (i:Nat) (o:Oper),ops[i]? = some o → rank o < 2:=by
      intro i o hi
      have:=List.all_eq_true.1 hcm o (by simpa using Array.mem_of_getElem? hi)
      have:=of_decide_eq_true this
      omega
     have hMj:∀ k,k ≤ ops.size → M k = M 0:=by
      intro k
      induction k with
      | zero => intro _; rfl
      | succ k ih =>
       intro hk'
       have hlt:k < ops.size:=by omega
       rw [Acs R k _ (Array.getElem?_eq_getElem hlt) (hk _ _ (Array.getElem?_eq_getElem hlt)),ih (by omega)]
     have hmj:cont mm = cont (M j):=by
      rw [hc,hMj j (by omega)]
      exact Akc _ 0 ops.size (by omega) fun i o _ _ _ hi => hk i o hi
     rw [hM] at hs
     refine Ain ro (hmm.congr hmj) (Aj2 R I U ho) hs fun g' v' w' l1 r1 w1 => settle hpend l1 r1 hp ⟨M j,w1,?_⟩
     rw [← hmj,hc,Af0 R ho (.inl (by omega))]
    obtain ⟨-,h2⟩:=Al2 hr hs
    refine Ab1 ro hH hmm (fun h => by omega) (Aj2 R I U ho) (h2 mm) fun g' v' w' l1 r1 w1 => settle hpend l1 r1 hp ⟨mm,w1,?_⟩
    rw [hc,Af0 R ho (.inl (by omega))]
   ·obtain ⟨T,y,hop,hm,hld,h2⟩:=Amd hr (Ace (by omega) hs)
    have:aload P T (ev (S j) y) mm = some v:=by
     unfold aload at hld ⊢
     cases hy:ev (S j) y with
     | ptr id off =>
      rw [hy] at hld
      dsimp only at hld ⊢
      cases hg:(M j).get id with
      | none => rw [hg] at hld; cases hld
      | some q =>
       obtain ⟨cs,f,vr⟩:=q
       rw [hg] at hld
       have hl:=A2c R U ho hr hw (id:=id) (cs:=cs) (off:=off) (by simp [offOf,hop,hy]) (by simp [objOf,hop,hy]) (by unfold cc; rw [Ado.2 ⟨vr,hg⟩]; rfl)
       rw [← hc] at hl
       unfold cc pr at hl
       simp only [Option.map_eq_some_iff] at hl
       obtain ⟨cs',⟨⟨cs2,f'⟩,h3,rfl⟩,h5⟩:=hl
       obtain ⟨v3,h4⟩:=Ado.1 h3
       rw [h4]
       simp only [Prod.mk.injEq] at h5
       exact (An3 h5.1 h5.2).trans hld
     | cptr q off => rw [hy] at hld; exact hld
     | _ => rw [hy] at hld; cases hld
    refine Ab1 ro hH hmm (fun h => by omega) (Aj2 R I U ho) (h2 mm this) fun g' v' w' l1 r1 w1 => settle hpend l1 r1 hp ⟨mm,w1,?_⟩
    rw [hc,Af0 R ho (.inl (by omega))]
   ·obtain ⟨h1,h2⟩:=As6 R U ho hr (hfull hr)
    refine Ab1 ro hH (hmm.congr (hc.trans h1)) (fun _ => Aun R j (by omega)) (Aj2 R I U ho) (Ace (by omega) hs) fun g' v' w' l1 r1 w1 => settle hpend l1 r1 hp ⟨_,w1,h2.symm⟩
   ·obtain ⟨id,cs,ver,cs',a1,a2,a3,_,a4⟩:=Abw R j o ho hr hw
    obtain ⟨h1,h2⟩:=Axs R U ho hr hw a1 a2 a3
    rw [← hc] at h1 h2
    obtain ⟨v2,h3⟩:=Ado.1 h1
    have h4:=a4 mm v2 h3
    obtain ⟨_,_,_,_,_,_,_,hv,_⟩:=Ajd hr (Ace (by omega) hs)
    subst hv
    refine Ab1 ro hH hmm (fun h => by omega) (Aj2 R I U ho) h4 fun g' v' w' l1 r1 w1 => settle hpend l1 r1 hp ⟨_,w1,?_⟩
    rw [h2,Aeg R]
  ·rw [hw]
   simp only [Bool.false_eq_true,if_false]
   refine ⟨fun _ _ => trivial,?_⟩
   refine settle hpend (.refl g) (x:=undefV) (v:=undef) (by rfl) hp ?_
   rcases Adg o with hr | hr | hr | hr
   ·exact ⟨mm,hmm,by rw [hc,Af0 R ho (.inl (by omega))]⟩
   ·exact ⟨mm,hmm,by rw [hc,Af0 R ho (.inl (by omega))]⟩
   ·obtain ⟨h1,h2⟩:=As6 R U ho hr (hfull hr)
    exact ⟨mm,hmm,by rw [hc,h1,h2,hm]⟩
   ·exact ⟨mm,hmm,by rw [hc,Af0 R ho (.inr ⟨hr,hw⟩)]⟩
omit R in
theorem Ap2 {listed:Array Bool} (hs:listed.size = ops.size) (hd:DC ops listed) {j:Nat} (h:j ∈ Region.ready .any ops listed):Up ops listed j:=by
 unfold Region.ready at h
 simp only [List.mem_filter,List.mem_range,Bool.and_eq_true,Bool.not_eq_true'] at h
 obtain ⟨h1,h2,h3⟩:=h
 refine ⟨hd,?_,h1,fun o ho e he hb => ?_⟩
 ·have:j < listed.size:=by omega
  simpa [this] using h2
 ·rw [ho] at h3
  simp only [Option.map_some,Option.getD_some] at h3
  have:=Array.all_eq_true_iff_forall_mem.1 h3 e he
  simpa [hb,Li] using this
theorem Atx {listed:Array Bool} (hs:listed.size = ops.size) (hr:Region.ready .any ops listed = []):∀ j,j < ops.size → listed.getD j false = true:=by
 intro j
 induction j using Nat.strongRecOn with
 | _ j ih =>
  intro hj
  have ho:=Array.getElem?_eq_getElem hj
  cases hl:listed.getD j false with
  | true => rfl
  | false =>
   have hmem:j ∈ Region.ready .any ops listed:=by
    unfold Region.ready
    simp only [List.mem_filter,List.mem_range,Bool.and_eq_true,Bool.not_eq_true']
    refine ⟨hj,?_,?_⟩
    ·have:j < listed.size:=by omega
     simpa [this] using hl
    ·rw [ho]
     simp only [Option.map_some,Option.getD_some]
     refine Array.all_eq_true_iff_forall_mem.2 fun e he => ?_
     cases hb:Region.binds .any e with
     | false => rfl
     | true =>
      have hlt:=Avo R.draw ho e he hb
      simpa using ih e.on hlt (by omega)
   rw [hr] at hmem
   cases hmem
theorem Aup {D:List Deferred} {g0:G} {listed:Array Bool} {g:G} {a:Act} {w:World} (I:Inv P B W N ops S M D g0 listed g a w) (hall:∀ j,j < ops.size → listed.getD j false = true):SR g N (S ops.size) a ∧ WR B W g (M ops.size) w:=by
 have hnp:∀ j,¬ Pend ops (fun i => listed.getD i false) j:=fun j ⟨_,_,i,x,_,h2,_,h4⟩ => by
  have:=hall i (Array.getElem?_eq_some_iff.1 h2).1
  exact absurd (this.symm.trans h4) (by simp)
 have hlv:∀ i,i < ops.size → lv ops (fun i => listed.getD i false) i = true:=fun i hi => lv_of (hall i hi) (hnp i)
 refine ⟨⟨I.tm,fun t => I.st.sl t _ (fun j o hp => absurd hp (hnp j)) ?_⟩,?_⟩
 ·by_cases hw:∃ (i:Nat) (x:Oper),ops[i]? = some x ∧ x.dst = some t
  ·obtain ⟨i,x,hi,hx⟩:=hw
   have hil:=(Array.getElem?_eq_some_iff.1 hi).1
   refine .inl ⟨i,x,hi,hx,hlv i hil,?_⟩
   refine Adw R t (i + 1) ops.size hil (Nat.le_refl _) fun k y h1 h2 hk hy => ?_
   have:=Aew R.draw hi hk hx hy
   omega
  ·refine .inr ⟨fun k y hk hy => absurd ⟨k,y,hk,hy⟩ hw,?_⟩
   exact Adw R t 0 ops.size (by omega) (Nat.le_refl _) fun k y h1 h2 hk hy => hw ⟨k,y,hk,hy⟩
 ·obtain ⟨mm,h1,h2⟩:=I.st.mm
  refine h1.congr (h2.trans ?_)
  exact Ali R _ ops.size (Nat.le_refl _) fun i o hi _ _ => hlv i hi
theorem A3e (ro:Option Nat) (hH:HSound P B W H) {D:List Deferred} {Q:Exit → Act → World → Prop} (g0:G) (hQ:∀ g' a' w',g0.le g' → a'.defers = D → SR g' N (S ops.size) a' → WR B W g' (M ops.size) w' → Q .normal a' w') :
  ∀ (fuel:Nat) (listed:Array Bool) (g:G) (a:Act) (w:World),Inv P B W N ops S M D g0 listed g a w → listed.toList.count false = fuel → wpAnyIn (fw ro) 0 P .any ops Q fuel listed a w:=by
 intro fuel
 induction fuel with
 | zero =>
  intro listed g a w I hf
  have hall:∀ j,j < ops.size → listed.getD j false = true:=by
   intro j hj
   have hj':j < listed.size:=by rw [I.size]; exact hj
   have h1:=List.count_eq_zero.1 hf
   cases hb:listed[j] with
   | true => simp [hj',hb]
   | false => exact absurd (by rw [← hb]; simp) h1
  refine ⟨?_,?_⟩
  ·cases hr:Region.ready .any ops listed with
   | nil => rfl
   | cons j l =>
    have U:=Ap2 I.size I.dc (show j ∈ Region.ready .any ops listed by rw [hr]; simp)
    have:=hall j U.lt
    rw [U.not] at this; cases this
  ·obtain ⟨h1,h2⟩:=Aup R I hall
   exact hQ g a w I.st.le I.df h1 h2
 | succ fuel ih =>
  intro listed g a w I hf
  refine ⟨fun hr => ?_,fun j hj => ?_⟩
  ·obtain ⟨h1,h2⟩:=Aup R I (Atx R I.size hr)
   exact hQ g a w I.st.le I.df h1 h2
  ·have U:=Ap2 I.size I.dc hj
   refine Ayt R ro hH I U fun g' a' w' I' => ih _ g' a' w' I' ?_
   have hj':j < listed.size:=by rw [I.size]; exact U.lt
   have hb:listed[j] = false:=by have:=U.not; simpa [hj'] using this
   rw [Array.toList_setIfInBounds,List.count_set (by simpa using hj')]
   simp [hb,hf]
end
theorem Ajp {N:Nat} {ops:Array Oper} {s s':Sl} {m m':Mem} {ms:List (Sl × Mem)} (ro:Option Nat) (hH:HSound P B W H) (hV:HVer H) (hP:P.follows .mixedOrders = true) (hvi:VI m) (hd:drawOk ops = true) (hm:metAll ops ms = true) (hqt:(fl ops).all (quietAt ops ms) = true)
  (e:aopsT P H N ops ops.toList s m = some (s',m',ms)) {g:G} {a:Act} {w:World} (k:SR g N s a) (h:WR B W g m w) {Q:Exit → Act → World → Prop}
  (hQ:∀ g' a' w',g.le g' → a'.defers = a.defers → SR g' N s' a' → WR B W g' m' w' → Q .normal a' w'):wpAnyIn (fw ro) 0 P .any ops Q ops.size (Array.replicate ops.size false) a w.drew:=by
 obtain ⟨S,M,rfl,rfl,h3,h4,h5,h6⟩:=Apr N ops ops.toList 0 s m s' m' ms e
 simp only [Nat.zero_add,Array.length_toList] at h3 h4 h5
 subst h3 h4
 have R:Run P H N ops S M ms:=⟨⟨fun i o ho => h6 i o (by omega) (by simpa using ho)⟩,hd,hm,hqt,fun k hk => by rw [h5,if_pos hk],hV,hvi⟩
 have hno:∀ i,(Array.replicate ops.size false).getD i false = false:=by
  intro i
  rw [Array.getD_eq_getD_getElem?,Array.getElem?_replicate]
  split <;> rfl
 have hlv:∀ i,lv ops (fun i => (Array.replicate ops.size false).getD i false) i = false:=fun i => Ajy (hno i)
 refine (A3e R ro hH (D:=a.defers) g hQ ops.size _ g a _ ⟨by simp,fun j o ho hl => ?_,k.size,rfl,⟨.refl g,fun t x _ hx => ?_,⟨M 0,h.drew,?_⟩,fun _ => 0,fun j hp => ?_,fun i j hp => ?_⟩⟩ (by simp))
 ·unfold Li at hl
  rw [hno] at hl; cases hl
 ·rcases hx with ⟨i,o,_,_,hl,_⟩ | ⟨_,rfl⟩
  ·rw [hlv] at hl; cases hl
  ·exact k.rel t
 ·refine (Akc (ops:=ops) (S:=S) (M:=M) _ 0 ops.size (by omega) fun i o _ _ hl => ?_).symm
  rw [hlv] at hl; cases hl
 ·exact absurd ((hno j).symm.trans hp.1) (by simp)
 ·exact absurd ((hno i).symm.trans hp.1) (by simp)
theorem Al4 {ops:Array Oper} {p:List Nat} (h:permOk ops p = true):(p.length = ops.size ∧ (renum ops p).size = ops.size) ∧ (∀ i,i < ops.size → ∃ j,p[i]? = some j ∧ p.idxOf j = i ∧ j < ops.size) ∧ (∀ i,i < ops.size → p[p.idxOf i]? = some i ∧ p.idxOf i < ops.size) ∧ ∀ o ∈ ops.toList,o.guard = none ∧ ∀ e ∈ o.after,e.on < ops.size:=by
 unfold permOk at h
 simp only [Bool.and_eq_true,beq_iff_eq,List.all_eq_true,List.mem_range,decide_eq_true_eq] at h
 obtain ⟨⟨h1,h2⟩,h3⟩:=h
 refine ⟨h1,fun i hi => ?_,fun i hi => ⟨(h2 i hi).1.2,(h2 i hi).2⟩,fun o ho => ⟨by simpa using (h3 o ho).1,fun e he => ?_⟩⟩
 ·have:=(h2 i hi).1.1
  split at this
  ·rename_i j hj
   simp only [Bool.and_eq_true,beq_iff_eq,decide_eq_true_eq] at this
   exact ⟨j,hj,this⟩
  ·cases this
 ·have:=Array.all_eq_true_iff_forall_mem.1 (h3 o ho).2 e he
  simpa using this
theorem Ax8 {ops:Array Oper} {p:List Nat} (hs:∀ j ∈ p,j < ops.size) (i:Nat):(renum ops p)[i]? = (p[i]?).bind fun j => (ops[j]?).map (renum1 p):=by
 unfold renum
 simp only [List.getElem?_toArray]
 have key:∀ l:List Nat,(∀ j ∈ l,j < ops.size) → (l.filterMap fun i => (ops[i]?).map (renum1 p)) = l.map fun j => renum1 p (ops.getD j default):=by
  intro l
  induction l with
  | nil => intro _; rfl
  | cons a l ih =>
   intro hl
   have ha:=hl a (by simp)
   rw [List.filterMap_cons,List.map_cons,ih fun j hj => hl j (by simp [hj])]
   simp [ha]
 rw [key p hs,List.getElem?_map]
 cases hp:p[i]? with
 | none => rfl
 | some j =>
  have:=hs j (List.mem_of_getElem? hp)
  simp [this]
theorem All {F:Fence} {n:Nat} {Q:Exit → Act → World → Prop} {o:Oper} {p:List Nat} {a:Act} {w:World} {K:Act → World → Prop}:(renum1 p o).wpIn F n P a w K Q ↔ o.wpIn F n P a w K Q:=by
 obtain ⟨dst,op,type,pos,after,guard⟩:=o
 exact Iff.rfl
theorem Awk {F:Fence} {n:Nat} {Q:Exit → Act → World → Prop} {ops:Array Oper} {p:List Nat} (hp:permOk ops p = true):∀ (fuel:Nat) (l l':Array Bool) (a:Act) (w:World),l.size = ops.size → l'.size = ops.size → (∀ i,i < ops.size → l'.getD (p.idxOf i) false = l.getD i false) → wpAnyIn F n P .any (renum ops p) Q fuel l' a w → wpAnyIn F n P .any ops Q fuel l a w:=by
 obtain ⟨⟨h0,h1⟩,h2,h3,h4⟩:=Al4 hp
 have hmem:∀ j ∈ p,j < ops.size:=by
  intro j hj
  obtain ⟨i,hi,e⟩:=List.mem_iff_getElem.1 hj
  obtain ⟨j',q1,_,q3⟩:=h2 i (by omega)
  rw [List.getElem?_eq_getElem hi,e] at q1
  cases q1; exact q3
 have hat:∀ i o,ops[i]? = some o → (renum ops p)[p.idxOf i]? = some (renum1 p o):=by
  intro i o ho
  have hi:=(Array.getElem?_eq_some_iff.1 ho).1
  rw [Ax8 hmem,(h3 i hi).1]
  simp [ho]
 have rdy:∀ (l l':Array Bool),l.size = ops.size → l'.size = ops.size → (∀ i,i < ops.size → l'.getD (p.idxOf i) false = l.getD i false) → ∀ i,i < ops.size → (p.idxOf i ∈ Region.ready .any (renum ops p) l' ↔ i ∈ Region.ready .any ops l):=by
  intro l l' hl hl' hll i hi
  have ho:=Array.getElem?_eq_getElem hi
  have hg:∀ (q:Array Bool) (k:Nat),q.size = ops.size → k < ops.size → q.getD k true = q.getD k false:=by
   intro q k hq hk
   have:k < q.size:=by omega
   simp [this]
  simp only [Region.ready,List.mem_filter,List.mem_range,h1,hat i _ ho,ho,Option.map_some,Option.getD_some,(h3 i hi).2,hi,true_and]
  rw [hg l' _ hl' (h3 i hi).2,hg l i hl hi,hll i hi]
  have hedge:((renum1 p ops[i]).after.all fun e => !Region.binds .any e || l'.getD e.on false) = (ops[i].after.all fun e => !Region.binds .any e || l.getD e.on false):=by
   have he:=(h4 ops[i] (by simp)).2
   rw [Bool.eq_iff_iff,Array.all_eq_true_iff_forall_mem,Array.all_eq_true_iff_forall_mem]
   simp only [renum1]
   constructor
   ·intro h e hm
    have:=h { e with on:=p.idxOf e.on } (Array.mem_map.2 ⟨e,hm,rfl⟩)
    rw [hll _ (he e hm)] at this
    exact this
   ·intro h e hm
    obtain ⟨e0,hm0,rfl⟩:=Array.mem_map.1 hm
    have:=h e0 hm0
    rw [← hll _ (he e0 hm0)] at this
    exact this
  rw [hedge]
 have nil:∀ (l l':Array Bool),l.size = ops.size → l'.size = ops.size → (∀ i,i < ops.size → l'.getD (p.idxOf i) false = l.getD i false) → (Region.ready .any ops l = [] ↔ Region.ready .any (renum ops p) l' = []):=by
  intro l l' hl hl' hll
  constructor
  ·intro h
   refine List.eq_nil_iff_forall_not_mem.2 fun k hk => ?_
   have hk1:k < ops.size:=by
    have:=(List.mem_filter.1 hk).1
    rw [h1] at this
    simpa using this
   obtain ⟨j,_,e,hj⟩:=h2 k hk1
   rw [← e,rdy l l' hl hl' hll j hj,h] at hk
   cases hk
  ·intro h
   refine List.eq_nil_iff_forall_not_mem.2 fun k hk => ?_
   have hk1:k < ops.size:=by simpa using (List.mem_filter.1 hk).1
   rw [← rdy l l' hl hl' hll k hk1,h] at hk
   cases hk
 intro fuel
 induction fuel with
 | zero => intro l l' a w hl hl' hll h; exact ⟨(nil l l' hl hl' hll).2 h.1,h.2⟩
 | succ fuel ih =>
  intro l l' a w hl hl' hll h
  refine ⟨fun hr => h.1 ((nil l l' hl hl' hll).1 hr),fun i hi => ?_⟩
  have hi1:i < ops.size:=by simpa using (List.mem_filter.1 hi).1
  have ho:=Array.getElem?_eq_getElem hi1
  have hg:=(h4 ops[i] (by simp)).1
  have:=h.2 _ ((rdy l l' hl hl' hll i hi1).2 hi)
  unfold wpOpIn at this ⊢
  simp only [hat i _ ho,ho] at this ⊢
  have w1:∀ y,Region.wanted (renum1 p ops[i]) y = true:=by intro y; simp [Region.wanted,renum1,hg]
  have w2:∀ y,Region.wanted ops[i] y = true:=by intro y; simp [Region.wanted,hg]
  rw [if_pos (w1 _)] at this
  rw [if_pos (w2 _)]
  refine Oper.wpIn_mono (fun a' w' q => ih _ _ a' w' (by simpa using hl) (by simpa using hl') (fun k hk => ?_) q) (All.1 this)
  by_cases e:k = i
  ·subst e
   have a1:=(h3 k hk).2
   simp [hl,hl',hk,a1]
  ·have e':p.idxOf i ≠ p.idxOf k:=by
    intro q
    have b1:=(h3 i hi1).1
    rw [q,(h3 k hk).1] at b1
    cases b1
    exact e rfl
   have e2:i ≠ k:=fun q => e q.symm
   have:=hll k hk
   simp only [Array.getD_eq_getD_getElem?,Array.getElem?_setIfInBounds,e',e2,if_false] at this ⊢
   exact this
theorem Aum {ops:Array Oper} {ms:List (Sl × Mem)} (hl:ms.length = ops.size + 1) (h:(metL ops).all (metAt ops ms) = true):(metAll ops ms && (fl ops).all (quietAt ops ms)) = true:=by
 rw [Bool.and_eq_true]
 refine ⟨?_,List.all_eq_true.2 fun j hj => ?_⟩
 rotate_left
 ·have:=List.all_eq_true.1 h (j,j) (List.mem_append.2 (.inr (List.mem_map.2 ⟨j,hj,rfl⟩)))
  simpa [metAt] using this
 unfold metAll
 refine List.all_eq_true.2 fun j hj => List.all_eq_true.2 fun i hi => ?_
 simp only [List.mem_range] at hj hi
 have hx:=Array.getElem?_eq_getElem (show i < ops.size by omega)
 have hy:=Array.getElem?_eq_getElem hj
 cases hb:((Region.before ops).getD j 0).testBit i with
 | true => simp
 | false =>
  simp only [Bool.false_or,hx,hy]
  cases hr:((rank ops[i] == 1 && decide (2 ≤ rank ops[j])) || (decide (2 ≤ rank ops[i]) && rank ops[j] == 1) || (rank ops[i] == 3 && rank ops[j] == 3)) with
  | true =>
   have hm:(i,j) ∈ metL ops:=by
    unfold metL
    refine List.mem_append.2 (.inl ?_)
    unfold metL0
    refine List.mem_flatMap.2 ⟨j,List.mem_range.2 hj,List.mem_filterMap.2 ⟨i,List.mem_range.2 hi,?_⟩⟩
    simp only [hb,hx,hy,hr,if_true,Bool.false_eq_true,if_false]
   have:=List.all_eq_true.1 h _ hm
   have hne:i ≠ j:=by omega
   simpa [metAt,hx,hy,hne] using this
  | false =>
   simp only [Bool.or_eq_false_iff,Bool.and_eq_false_iff] at hr
   obtain ⟨⟨h1,h2⟩,h3⟩:=hr
   unfold metOk
   have hi':ms[i]? = some ms[i]:=List.getElem?_eq_getElem (by omega)
   have hj':ms[j]? = some ms[j]:=List.getElem?_eq_getElem (by omega)
   rw [hi',hj']
   dsimp only
   split
   ·rfl
   ·rw [if_neg,if_neg,if_neg]
    ·intro h; simp only [Bool.and_eq_true] at h; rcases h3 with h3 | h3 <;> simp_all
    ·intro h; simp only [Bool.and_eq_true] at h; rcases h2 with h2 | h2 <;> simp_all
    ·intro h; simp only [Bool.and_eq_true] at h; rcases h1 with h1 | h1 <;> simp_all
theorem Ad4 {N:Nat} {all:Array Oper}:∀ (l:List Oper) (s:Sl) (m:Mem) (s':Sl) (m':Mem) (ms:List (Sl × Mem)),aopsT P H N all l s m = some (s',m',ms) → ms.length = l.length + 1
 | [],s,m,s',m',ms,e => by simp only [aopsT,Option.some.injEq,Prod.mk.injEq] at e; obtain ⟨_,_,rfl⟩:=e; rfl
 | o :: l,s,m,s',m',ms,e => by
  simp only [aopsT] at e
  split at e
  ·split at e
   ·split at e
    ·simp only [Option.map_eq_some_iff,Prod.mk.injEq] at e
     obtain ⟨⟨a,b,c⟩,h,_,_,rfl⟩:=e
     simp [Ad4 l _ _ _ _ _ h]
    ·cases e
   ·cases e
  ·split at e
   ·simp only [Option.map_eq_some_iff,Prod.mk.injEq] at e
    obtain ⟨⟨a,b,c⟩,h,_,_,rfl⟩:=e
    simp [Ad4 l _ _ _ _ _ h]
   ·cases e
theorem An0 {N:Nat} {ops ops':Array Oper} {s s':Sl} {m m':Mem} {ms:List (Sl × Mem)} (ro:Option Nat) (hH:HSound P B W H) (hV:HVer H) (hP:P.follows .mixedOrders = true) (hvi:VI m) (hn:normO ops = some ops') (hm:metAll ops' ms = true) (hqt:(fl ops').all (quietAt ops' ms) = true)
  (e:aopsT P H N ops' ops'.toList s m = some (s',m',ms)) {g:G} {a:Act} {w:World} (k:SR g N s a) (h:WR B W g m w) {Q:Exit → Act → World → Prop}
  (hQ:∀ g' a' w',g.le g' → a'.defers = a.defers → SR g' N s' a' → WR B W g' m' w' → Q .normal a' w') (id:Nat):(Code.region id ops true).wpIn (fw ro) 0 P Q a w:=by
 unfold normO at hn
 split at hn
 ·rename_i hd
  cases hn
  exact wpIn_region_any hP (Ajp ro hH hV hP hvi hd hm hqt e k h hQ)
 ·dsimp only at hn
  split at hn
  ·rename_i hd
   cases hn
   rw [Bool.and_eq_true] at hd
   have hsz:=(Al4 hd.1).1.2
   have q:=Ajp ro hH hV hP hvi hd.2 hm hqt e k h hQ
   rw [hsz] at q
   refine wpIn_region_any hP (Awk hd.1 _ _ _ a _ (by simp) (by simp) (fun i hi => ?_) q)
   have hno:∀ n i,(Array.replicate n false).getD i false = false:=by
    intro n i
    rw [Array.getD_eq_getD_getElem?,Array.getElem?_replicate]
    split <;> rfl
   rw [hno,hno]
  ·cases hn
variable {P:Program} {B:Bs} {W:World} {H:Calls1}
def ex:Ex → Exit
 | .normal => .normal
 | .exit id => .exit id
 | .goto l => .goto l
 | .ret => .ret
def DR (g0 g:G) (D:List Deferred):Prop:=∃ rs:List Nat,D = rs.map (fun r => { target:=.collected r,args:=#[] }) ∧ rs.Nodup ∧ ∀ r ∈ rs,g.df r = true ∧ g0.df r = false
theorem DR.nil (g0 g:G):DR g0 g []:=⟨[],rfl,.nil,fun r h => by cases h⟩
theorem DR.mono {g0 g g':G} {D:List Deferred} (h:DR g0 g D) (l:g.le g'):DR g0 g' D:=by
 obtain ⟨rs,h1,h2,h3⟩:=h
 exact ⟨rs,h1,h2,fun r hr => ⟨l.df r (h3 r hr).1,(h3 r hr).2⟩⟩
def Runs (P:Program) (B:Bs) (W:World) (ro:Option Nat) (N:Nat) (g0:G) (c:Code) (s:Sl) (m:Mem) (e:Ex) (s':Sl) (m':Mem):Prop :=
 ∀ (g:G) (a:Act) (w:World) (Q:Exit → Act → World → Prop),g0.le g → DR g0 g a.defers → (∀ l,ro = some l → g.lb l = true) → SR g N s a → WR B W g m w →
  (∀ g' a' w',g.le g' → DR g0 g' a'.defers → SR g' N s' a' → WR B W g' m' w' → Q (ex e) a' w') → c.wpIn (fw ro) 0 P Q a w
theorem Aip {ro:Option Nat} {N:Nat} {g0:G} {c:Code} {b:Sl → Mem → Option (Ex × Sl × Mem)} (hb:∀ s m e s' m',b s m = some (e,s',m') → VI m → Runs P B W ro N g0 c s m e s' m') (hm:∀ s m e s' m',b s m = some (e,s',m') → VM m m') :
  ∀ (n:Nat) (s:Sl) (m:Mem) (e:Ex) (s':Sl) (m':Mem),aloop b n s m = some (e,s',m') → VI m → ∀ (g:G) (a:Act) (w:World) (Q:Exit → Act → World → Prop),g0.le g → DR g0 g a.defers → (∀ l,ro = some l → g.lb l = true) → SR g N s a → WR B W g m w →
  (∀ g' a' w',g.le g' → DR g0 g' a'.defers → SR g' N s' a' → WR B W g' m' w' → Q (ex e) a' w') → Code.roundsIn (fw ro) 0 P c Q n a w
 | 0,s,m,e,s',m',h,_ => by cases h
 | n + 1,s,m,e,s',m',h,hv => by
  intro g a w Q l0 hd hlb k hw hQ
  rw [roundsIn_succ]
  simp only [aloop] at h
  cases hr:b s m with
  | none => rw [hr] at h; cases h
  | some r =>
   obtain ⟨e1,s1,m1⟩:=r
   rw [hr] at h
   refine hb _ _ _ _ _ hr hv g a w _ l0 hd hlb k hw fun g1 a1 w1 l1 d1 k1 h1 => ?_
   cases e1 with
   | normal => exact Aip hb hm n _ _ _ _ _ h ((hm _ _ _ _ _ hr).inv hv) g1 a1 w1 Q (l0.trans l1) d1 (fun l e => l1.lb l (hlb l e)) k1 h1 fun g' a' w' l' => hQ g' a' w' (l1.trans l')
   | _ => cases h; exact hQ g1 a1 w1 l1 d1 k1 h1
theorem A36 {p:Option Code} {e:Ex} (h:exOf p = some e):(p = none ∧ e = .normal) ∨ (∃ id,p = some (.exit id) ∧ e = .exit id) ∨ (p = some .ret ∧ e = .ret):=by
 unfold exOf at h
 split at h <;> cases h
 ·exact .inl ⟨rfl,rfl⟩
 ·exact .inr (.inl ⟨_,rfl,rfl⟩)
 ·exact .inr (.inr ⟨rfl,rfl⟩)
theorem Ah0 (hH:HSound P B W H) (hV:HVer H) {ro:Option Nat} {N fuel:Nat} {g0:G} (fo:Operand) (ps:Array Tmp) (assign body:Code) (s:Sl) (m:Mem) (e:Ex) (s':Sl) (m':Mem) (h:acode P H N fuel (.rangeFunc fo ps assign body) s m = some (e,s',m')) (hv:VI m):Runs P B W ro N g0 (.rangeFunc fo ps assign body) s m e s' m':=by
 intro g a w Q l0 hd hlb k hw hQ
 simp only [acode] at h
 split at h
 ·rename_i f first captured hf
  by_cases hbody:((P.funcs[f]?).bind (·.body)).isSome = true
  rotate_left
  ·rw [if_neg hbody] at h; cases h
  rw [if_pos hbody] at h
  split at h
  ·rename_i rv m2 hcall
   split at h
   ·rename_i L hL
    split at h
    ·cases h
    ·rename_i hbusy
     split at h
     ·rename_i e1 he
      cases h
      have kf:=k.ev fo
      rw [hf] at kf
      simp only [Rel] at kf
      obtain ⟨vf,vc,hfv,r1,r2⟩:=kf
      refine wpIn_rangeFunc fun fn _ => ?_
      obtain ⟨l,mark,w1,d,hent,hw1,hl,hmark⟩:∃ (l:Nat) (mark:List Deferred) (w1:World) (d:Option Nat),(Instr.enterLoop fn a.tmps ps assign body (fw ro).round).run P w = .ok (l,mark) w1 ∧ WR B W (g.newLoop l d) (m.newLoop ⟨s,ps,assign,body,N⟩) w1 ∧ l = l ∧ DR g0 (g.newLoop l d) (mark ++ a.defers):=by
       cases ro with
       | none =>
        have h1:=run_enterLoop_outer (P:=P) (w:=w) fn a.tmps ps assign body
        have h2:=hw.newLoop (c:=⟨s,ps,assign,body,N⟩) (tmps:=a.tmps) k.size k.rel fn w.heap.size (some w.heap.size) (.inr ⟨rfl,rfl⟩)
        refine ⟨_,_,_,some w.heap.size,h1,by simpa using h2,rfl,?_⟩
        obtain ⟨rs,e1,e2,e3⟩:=hd
        refine ⟨w.heap.size :: rs,by simp [e1],?_,?_⟩
        ·refine List.nodup_cons.2 ⟨fun hm => ?_,e2⟩
         have h3:=(hw.x.df _ (e3 _ hm).1).2
         have:=(Array.getElem?_eq_some_iff.1 h3).1
         omega
        ·intro r hr
         rcases List.mem_cons.1 hr with rfl | hr
         ·refine ⟨by simp [G.newLoop],?_⟩
          cases hq:g0.df w.heap.size with
          | false => rfl
          | true =>
           have h3:=(hw.x.df _ (l0.df _ hq)).2
           have:=(Array.getElem?_eq_some_iff.1 h3).1
           omega
         ·exact ⟨(G.le_newLoop g _ _).df r (e3 r hr).1,(e3 r hr).2⟩
       | some l0' =>
        obtain ⟨r0,hr0⟩:=hw.x.lb l0' (hlb l0' rfl)
        have h1:=run_enterLoop_inner (P:=P) hr0 fn a.tmps ps assign body
        have h2:=hw.newLoop (c:=⟨s,ps,assign,body,N⟩) (tmps:=a.tmps) k.size k.rel fn r0.defers none (.inl ⟨rfl,rfl⟩)
        exact ⟨_,_,_,none,h1,h2,rfl,by simpa using hd.mono (G.le_newLoop g _ _)⟩
      clear hl
      have lnew:=G.le_newLoop g l d
      have hargs:Rels (g.newLoop l d) (first ++ [.yl m.next] ++ captured) (vf ++ [Value.func (.yield l) #[] #[]] ++ vc):=by
       refine ((Rels.mono lnew _ _ r1).append (.one ?_)).append (Rels.mono lnew _ _ r2)
       rw [hw.n]; exact Anz g l d
      have hvi:VI (m.newLoop ⟨s,ps,assign,body,N⟩):=(VM.newLoop m _).inv hv
      rcases hH.func f _ _ rv m2 hcall hvi (g.newLoop l d) w1 _ hargs hw1 with ⟨c1,c2⟩ | ⟨v',g',w',c1,_⟩
      ·refine ⟨l,mark,w1,{ target:=.fn (.func f) vc.toArray,args:=(vf ++ [Value.func (.yield l) #[] #[]]).toArray },w1,f,(vf ++ [Value.func (.yield l) #[] #[]] ++ vc).toArray,w1,hent,?_,fun _ _ => trivial,?_,(by intro h; cases h),?_⟩
       ·simp only [resolve,rangeCall,hfv,Deferred.ofValue]
        simp [Act.eval]
       ·have:(vf ++ [Value.func (.yield l) #[] #[]]).toArray ++ vc.toArray = (vf ++ [Value.func (.yield l) #[] #[]] ++ vc).toArray:=by simp
        simp only [invoke,this]
        exact c1
       ·refine CallsIn.mono ((callsIn_wide (n:=0)).2 c2:CallsIn Fence.wide 0 P f _ w1 _) fun en w2 ⟨v',g2,hen,d1,d2,d3⟩ => ?_
        subst hen
        have hid:(g2.mu m.next).1 = l:=by
         rw [d1.mu m.next (by rw [hw.n]; simp [G.newLoop,G.new]),hw.n]
         simp [G.newLoop,G.new]
        obtain ⟨r,b1,b2,b3,b4⟩:=d3.setLoop hL .exhausted L.pend
        rw [hid] at b1 b4
        refine ⟨r.pending,w2.putObj l (.loop { r with state:=.exhausted }),run_endLoop b1 (by rw [b2]; exact hbusy),?_⟩
        have hw4:WR B W g2 (m2.killLoop m.next) (w2.putObj l (.loop { r with state:=.exhausted })):=by
         have h5:=b4.killLoop m.next
         have h6:({ r with state:=.exhausted,pending:=L.pend }:Loop) = { r with state:=.exhausted }:=by rw [← b3]
         rw [h6] at h5
         refine h5.congr ?_
         have q1:((m2.setLoop m.next .exhausted L.pend L.c).killLoop m.next).loop = (m2.killLoop m.next).loop:=by
          funext i
          simp only [Mem.killLoop,Mem.loop,Mem.setLoop,Tr.get_put]
          split <;> rfl
         have q2:((m2.setLoop m.next .exhausted L.pend L.c).killLoop m.next).map = (m2.killLoop m.next).map:=rfl
         have q3:((m2.setLoop m.next .exhausted L.pend L.c).killLoop m.next).get = (m2.killLoop m.next).get:=rfl
         unfold cont
         rw [q1,q2,q3]
         rfl
        have hD:DR g0 g2 (mark ++ a.defers):=hmark.mono d1
        have hS:SR g2 N s { a with defers:=mark ++ a.defers }:=⟨k.size,fun t => Rel.mono (lnew.trans d1) _ _ (k.rel t)⟩
        have fin:=hQ g2 { a with defers:=mark ++ a.defers } _ (lnew.trans d1) hD hS hw4
        generalize w2.putObj l (.loop { r with state:=.exhausted }) = w4 at fin ⊢
        rw [b3]
        rcases A36 he with ⟨p1,rfl⟩ | ⟨id,p1,rfl⟩ | ⟨p1,rfl⟩
        ·rw [p1]; exact fin
        ·rw [p1]; exact wpIn_exit fin
        ·rw [p1]; exact wpIn_ret fin
      ·exfalso
       unfold callFunc at c1
       cases hfn:P.funcs[f]? with
       | none => rw [hfn] at hbody; cases hbody
       | some fd =>
        rw [hfn] at hbody
        simp only [Option.bind_some] at hbody
        obtain ⟨c,hc⟩:=Option.isSome_iff_exists.1 hbody
        by_cases hn : fd.name = "runtime.NumGoroutine"
        ·simp [Sem.run_bind,program,Sem.run,hfn,hn] at c1
        ·simp [Sem.run_bind,program,Sem.run,hfn,hn,hc] at c1
     ·cases h
   ·cases h
  ·cases h
 ·cases h
theorem Abx {P:Program} {b:Frame} {a:Act} {k:List Item} {cs:List Frame} {w:World} {c:Code}:step P (lone (b.atR a (.code (.scope c) :: k)) cs w) = .next (lone (b.atR a (.code c :: .inScope c :: k)) cs w) :=
 step_lone_go (by simp [stepG,stepG.exec,Frame.atR])
theorem Akl {P:Program} {b:Frame} {a:Act} {k:List Item} {cs:List Frame} {w:World} {c:Code}:step P (lone (b.atR a (.inScope c :: k)) cs w) = .next (lone (b.atR a k) cs w) :=
 step_lone_go (by simp [stepG,stepG.exec,Frame.atR])
theorem Aeq {F:Fence} {n:Nat} {P:Program} {Q:Exit → Act → World → Prop} {a:Act} {w:World} {c:Code} (h:c.wpIn F n P (Exit.noGoto Q) a w):(Code.scope c).wpIn F n P Q a w:=by
 intro b k cs hro hb hr
 have h0:(lone (b.atR a (.code (.scope c) :: k)) cs w).fenced P F:=fenced_calm hb hr rfl
 obtain ⟨e,a₁,w₁,hq,harr⟩:=h b (.inScope c :: k) cs hro hb hr
 cases e with
 | normal => exact ⟨.normal,a₁,w₁,hq,.head h0 Abx (StepsIn.trans harr (.one (fenced_calm hb hr rfl) Akl))⟩
 | exit id' =>
  have hx:exitTo id' (.inScope c :: k) = exitTo id' k:=by simp [exitTo]
  exact ⟨.exit id',a₁,w₁,hq,fun k' hk => .head h0 Abx (harr.1 k' (by rw [hx]; exact hk)),
   fun hr' hk => let ⟨k₁,h1,h2⟩:=harr.2 hr' (by rw [hx]; exact hk); ⟨k₁,h1,.head h0 Abx h2⟩⟩
 | goto l => exact hq.elim
 | ret => exact ⟨_,a₁,w₁,hq,.of_steps (.one h0 Abx) harr⟩
 | panic ch => exact ⟨_,a₁,w₁,hq,.of_steps (.one h0 Abx) harr⟩
 | outgrown => exact ⟨_,a₁,w₁,hq,.of_steps (.one h0 Abx) harr⟩
theorem Acn (hP:P.follows .mixedOrders = true) (hH:HSound P B W H) (hV:HVer H) {ro:Option Nat} {N fuel:Nat} {g0:G}:∀ (c:Code) (s:Sl) (m:Mem) (e:Ex) (s':Sl) (m':Mem),acode P H N fuel c s m = some (e,s',m') → VI m → Runs P B W ro N g0 c s m e s' m':=by
 intro c
 induction c with
 | skip => intro s m e s' m' h hv g a w Q l0 hd hlb k hw hQ; cases h; exact wpIn_skip (hQ g a w (.refl g) hd k hw)
 | label l => intro s m e s' m' h hv g a w Q l0 hd hlb k hw hQ; cases h; exact wpIn_label (hQ g a w (.refl g) hd k hw)
 | exit l => intro s m e s' m' h hv g a w Q l0 hd hlb k hw hQ; cases h; exact wpIn_exit (hQ g a w (.refl g) hd k hw)
 | ret => intro s m e s' m' h hv g a w Q l0 hd hlb k hw hQ; cases h; exact wpIn_ret (hQ g a w (.refl g) hd k hw)
 | region id ops draw =>
  intro s m e s' m' h hv g a w Q l0 hd hlb k hw hQ
  have hQ':∀ g' a' w',g.le g' → a'.defers = a.defers → SR g' N s' a' → WR B W g' m' w' → Q (ex e) a' w':=fun g' a' w' l' d' => hQ g' a' w' l' (by rw [d']; exact hd.mono l')
  simp only [acode] at h
  split at h
  ·rename_i hdr
   split at h
   ·rename_i hok
    split at h
    ·rename_i h1
     split at h
     ·rename_i hmet
      cases h
      rw [hdr]
      have hmet:=Aum (by rw [Ad4 _ _ _ _ _ _ h1]; simp) hmet
      rw [Bool.and_eq_true] at hmet
      exact An0 ro hH hV hP hv hok hmet.1 hmet.2 h1 k hw hQ' id
     ·cases h
    ·cases h
   ·cases h
  ·rename_i hdr
   split at h
   ·rename_i h1
    cases h
    have:draw = false:=by simpa using hdr
    rw [this]
    refine wpIn_region ?_
    have:=Agh ro hH hV ops a.defers ops.toList 0 s m s' m' rfl h1 hv g a w rfl k hw hQ'
    rwa [List.range_eq_range',← Array.length_toList]
   ·cases h
 | seq x y ihx ihy =>
  intro s m e s' m' h hv g a w Q l0 hd hlb k hw hQ
  simp only [acode] at h
  cases hr:acode P H N fuel x s m with
  | none => rw [hr] at h; cases h
  | some r =>
   obtain ⟨e1,s1,m1⟩:=r
   rw [hr] at h
   refine wpIn_seq (ihx _ _ _ _ _ hr hv g a w _ l0 hd hlb k hw fun g1 a1 w1 l1 d1 k1 h1 => ?_)
   cases e1 with
   | normal => exact ihy _ _ _ _ _ h ((VM.acode hV _ _ _ _ _ _ hr).inv hv) g1 a1 w1 Q (l0.trans l1) d1 (fun l e => l1.lb l (hlb l e)) k1 h1 fun g' a' w' l' => hQ g' a' w' (l1.trans l')
   | _ => cases h; exact hQ g1 a1 w1 l1 d1 k1 h1
 | cond c x y ihx ihy =>
  intro s m e s' m' h hv g a w Q l0 hd hlb k hw hQ
  simp only [acode] at h
  split at h
  ·rename_i t hc
   have hr:=k.ev c
   rw [hc] at hr
   simp only [Rel] at hr
   refine wpIn_cond hr ?_
   cases t with
   | true => exact ihx _ _ _ _ _ h hv g a w Q l0 hd hlb k hw hQ
   | false => exact ihy _ _ _ _ _ h hv g a w Q l0 hd hlb k hw hQ
  ·cases h
 | scope b ih =>
  intro s m e s' m' h hv g a w Q l0 hd hlb k hw hQ
  simp only [acode] at h
  split at h
  ·cases h
  ·rename_i hn
   refine Aeq (ih _ _ _ _ _ h hv g a w _ l0 hd hlb k hw fun g' a' w' l' d' k' h' => ?_)
   cases e with
   | goto l => exact (hn _ _ _ h).elim
   | _ => exact hQ g' a' w' l' d' k' h'
 | block id b ih =>
  intro s m e s' m' h hv g a w Q l0 hd hlb k hw hQ
  simp only [acode] at h
  cases hr:acode P H N fuel b s m with
  | none => rw [hr] at h; cases h
  | some r =>
   obtain ⟨e1,s1,m1⟩:=r
   rw [hr] at h
   refine wpIn_block (ih _ _ _ _ _ hr hv g a w _ l0 hd hlb k hw fun g1 a1 w1 l1 d1 k1 h1 => ?_)
   cases e1 with
   | exit id' =>
    dsimp only at h
    simp only [ex,Exit.inBlock]
    split at h
    ·rename_i e; rw [if_pos e]; cases h; exact hQ g1 a1 w1 l1 d1 k1 h1
    ·rename_i e; rw [if_neg e]; cases h; exact hQ g1 a1 w1 l1 d1 k1 h1
   | _ => cases h; exact hQ g1 a1 w1 l1 d1 k1 h1
 | loop b ih =>
  intro s m e s' m' h hv g a w Q l0 hd hlb k hw hQ
  exact wpIn_loop_rounds fuel (Aip (fun s m e s' m' h => ih s m e s' m' h) (fun s m e s' m' h => VM.acode hV _ _ _ _ _ _ h) fuel s m e s' m' h hv g a w Q l0 hd hlb k hw hQ)
 | rangeFunc fo ps x y => intro s m e s' m' h hv; exact Ah0 hH hV fo ps x y s m e s' m' h hv
 | _ => intro s m e s' m' h; cases h
theorem Add (ro:Option Nat) (hH:HSound P B W H) (hV:HVer H) {N:Nat} {ops:Array Oper} {Q:Exit → Act → World → Prop} {i:Nat} {o:Oper} {rest:List Oper} {s:Sl} {m:Mem} {r:Sl × Mem} (ho:ops[i]? = some o) (e:aops P H N ops (o :: rest) s m = some r) (hvi:VI m) {g:G} {a:Act} {w:World} (k:SR g N s a) (h:WR B W g m w) {K:Act → World → Prop}
  (hK:∀ s1 m1 g' a' w',(∀ rest' r',aops P H N ops (o :: rest') s m = some r' → aops P H N ops rest' s1 m1 = some r') → VI m1 → g.le g' → a'.defers = a.defers → SR g' N s1 a' → WR B W g' m1 w' → K a' w'):wpOpIn (fw ro) 0 P ops Q i K a w:=by
 unfold wpOpIn
 simp only [ho]
 rw [← Ago k ops o]
 simp only [aops] at e hK
 split at e
 ·rename_i hw
  simp only [hw,if_true] at hK ⊢
  split at e
  ·rename_i v m1 hstep
   split at e
   ·rename_i s1 hput
    refine Agv ro hH h (fun _ => hvi) (k.or _) hstep fun g' v' w' l1 r1 w1 => ?_
    refine hK s1 m1 g' _ w' (fun rest' r' e' => ?_) ((VM.astepU hV hstep).inv hvi) l1 ?_ ((k.mono l1).set r1 hput) w1
    ·rw [hstep] at e'
     dsimp only at e'
     rw [hput] at e'
     exact e'
    ·cases o.dst <;> simp [Act.put]
   ·cases e
  ·cases e
 ·rename_i hw
  simp only [hw,if_false,Bool.false_eq_true] at hK ⊢
  split at e
  ·rename_i s1 hput
   refine ⟨fun _ _ => trivial,?_⟩
   refine hK s1 m g _ w (fun rest' r' e' => ?_) hvi (.refl g) ?_ (k.set (by rfl) hput) h
   ·rw [hput] at e'
    exact e'
   ·cases o.dst <;> simp [Act.put]
  ·cases e
theorem Avu (hP:P.follows .mixedOrders = true) (hH:HSound P B W H) (hV:HVer H) {ro:Option Nat} {N:Nat} {ops:Array Oper} (hc:isCho ops = true) {s:Sl} {m:Mem} {l:List (Ex × Sl × Mem)} (h:choL P H N ops s m = some l) (hv:VI m) {g:G} {a:Act} {w:World} (k:SR g N s a) (hw:WR B W g m w) {Q:Exit → Act → World → Prop}
  (hQ:∀ r ∈ l,∀ g' a' w',g.le g' → a'.defers = a.defers → SR g' N r.2.1 a' → WR B W g' r.2.2 w' → Q (ex r.1) a' w') (id:Nat):(Code.region id ops true).wpIn (fw ro) 0 P Q a w:=by
 unfold isCho at hc
 simp only [Bool.and_eq_true,beq_iff_eq] at hc
 obtain ⟨⟨⟨⟨⟨⟨⟨c0,c1⟩,c2⟩,c3⟩,c4⟩,c5⟩,c6⟩,_⟩:=hc
 unfold choL at h
 split at h
 ·rename_i o0 o1 o2 o3 hl
  split at h
  ·rename_i r r' hr hr'
   cases h
   have g0:ops[0]? = some o0:=by rw [← Array.getElem?_toList,hl]; rfl
   have g1:ops[1]? = some o1:=by rw [← Array.getElem?_toList,hl]; rfl
   have g2:ops[2]? = some o2:=by rw [← Array.getElem?_toList,hl]; rfl
   have g3:ops[3]? = some o3:=by rw [← Array.getElem?_toList,hl]; rfl
   refine wpIn_region_any hP ?_
   rw [c0]
   have hno:(Array.replicate 4 false) = #[false,false,false,false]:=rfl
   rw [hno]
   have one:∀ {A:Prop} {i:Nat} {p:Nat → Prop},∀ {x:List Nat},x = [i] → p i → (x = [] → A) ∧ ∀ j ∈ x,p j:=by
    rintro A i p x rfl hp
    exact ⟨fun e => by (cases e),fun j hj => by rw [List.mem_singleton.1 hj]; exact hp⟩
   have tail:∀ (ob:Oper) (ib:Nat) (rr:Sl × Mem) (La:Array Bool),ops[ib]? = some ob → Region.ready .any ops La = [ib] → La.setIfInBounds ib true = #[true,true,true,false] → (∀ g' a' w',g.le g' → a'.defers = a.defers → SR g' N rr.1 a' → WR B W g' rr.2 w' → Q .normal a' w') →
     ∀ s1 m1 g' a' w',aops P H N ops [ob,o3] s1 m1 = some rr → VI m1 → g.le g' → a'.defers = a.defers → SR g' N s1 a' → WR B W g' m1 w' → wpAnyIn (fw ro) 0 P .any ops Q 2 La a' w':=by
    intro ob ib rr La hb hrd hset hfin s1 m1 g' a' w' e1 v1 l1 d1 k1 h1
    refine one hrd ?_
    refine Add ro hH hV hb e1 v1 k1 h1 fun s2 m2 ga aa wa e2 v2 l2 d2 k2 h2 => ?_
    have e2:=e2 _ _ e1
    rw [hset]
    refine one c5 ?_
    refine Add ro hH hV g3 e2 v2 k2 h2 fun s3 m3 gb ab wb e3 v3 l3 d3 k3 h3 => ?_
    have e3:=e3 _ _ e2
    simp only [aops,Option.some.injEq] at e3
    subst e3
    exact ⟨c6,hfin gb ab wb ((l1.trans l2).trans l3) (by rw [d3,d2,d1]) k3 h3⟩
   refine one c1 ?_
   refine Add ro hH hV g0 hr hv k hw.drew fun s1 m1 ga aa wa e1 v1 l1 d1 k1 h1 => ?_
   have ea:=e1 _ _ hr
   have eb:=e1 _ _ hr'
   have hs0:(#[false,false,false,false]:Array Bool).setIfInBounds 0 true = #[true,false,false,false]:=rfl
   rw [hs0]
   refine ⟨fun e => (by rw [c2] at e; cases e),fun j hj => ?_⟩
   rw [c2] at hj
   rcases List.mem_cons.1 hj with rfl | hj
   ·refine Add ro hH hV g1 ea v1 k1 h1 fun s2 m2 gc ac wc e2 v2 l2 d2 k2 h2 => ?_
    exact tail o2 2 r _ g2 c3 rfl (fun g' a' w' h1 h2 h3 h4 => hQ _ (List.mem_cons_self ..) g' a' w' h1 h2 h3 h4) s2 m2 gc ac wc (e2 _ _ ea) v2 (l1.trans l2) (by rw [d2,d1]) k2 h2
   ·rw [List.mem_singleton.1 hj]
    refine Add ro hH hV g2 eb v1 k1 h1 fun s2 m2 gc ac wc e2 v2 l2 d2 k2 h2 => ?_
    exact tail o1 1 r' _ g1 c4 rfl (fun g' a' w' h1 h2 h3 h4 => hQ _ (List.mem_cons_of_mem _ (List.mem_cons_self ..)) g' a' w' h1 h2 h3 h4) s2 m2 gc ac wc (e2 _ _ eb) v2 (l1.trans l2) (by rw [d2,d1]) k2 h2
  ·cases h
 ·cases h
def RunsL (P:Program) (B:Bs) (W:World) (ro:Option Nat) (N:Nat) (g0:G) (c:Code) (s:Sl) (m:Mem) (l:List (Ex × Sl × Mem)):Prop :=
 ∀ (g:G) (a:Act) (w:World) (Q:Exit → Act → World → Prop),g0.le g → DR g0 g a.defers → (∀ l,ro = some l → g.lb l = true) → SR g N s a → WR B W g m w →
  (∀ r ∈ l,∀ g' a' w',g.le g' → DR g0 g' a'.defers → SR g' N r.2.1 a' → WR B W g' r.2.2 w' → Q (ex r.1) a' w') → c.wpIn (fw ro) 0 P Q a w
theorem Alq {f:Sl → Mem → Option (List (Ex × Sl × Mem))}:∀ {a l:List (Ex × Sl × Mem)},thenL f a = some l → ∀ r ∈ a,(r.1 = .normal ∧ ∃ b,f r.2.1 r.2.2 = some b ∧ ∀ x ∈ b,x ∈ l) ∨ (r.1 ≠ .normal ∧ r ∈ l)
 | [],l,h,r,hr => by cases hr
 | (e,s,m) :: a,l,h,r,hr => by
  simp only [thenL] at h
  split at h
  ·rename_i x y hx hy
   cases h
   rcases List.mem_cons.1 hr with rfl | hr
   ·cases e with
    | normal => exact .inl ⟨rfl,x,hx,fun z hz => List.mem_append_left _ hz⟩
    | exit i => cases hx; exact .inr ⟨by simp,List.mem_append_left _ (List.mem_cons_self ..)⟩
    | goto i => cases hx; exact .inr ⟨by simp,List.mem_append_left _ (List.mem_cons_self ..)⟩
    | ret => cases hx; exact .inr ⟨by simp,List.mem_append_left _ (List.mem_cons_self ..)⟩
   ·rcases Alq hy r hr with ⟨h1,b,h2,h3⟩ | ⟨h1,h2⟩
    ·exact .inl ⟨h1,b,h2,fun z hz => List.mem_append_right _ (h3 z hz)⟩
    ·exact .inr ⟨h1,List.mem_append_right _ h2⟩
  ·cases h
theorem Anm (hP:P.follows .mixedOrders = true) (hH:HSound P B W H) (hV:HVer H) {ro:Option Nat} {N fuel:Nat} {g0:G}:∀ (c:Code) (s:Sl) (m:Mem) (l:List (Ex × Sl × Mem)),acodeL P H N fuel c s m = some l → VI m → RunsL P B W ro N g0 c s m l:=by
 intro c
 have other:∀ (c:Code) (s:Sl) (m:Mem) (l:List (Ex × Sl × Mem)),(acode P H N fuel c s m).map (fun r => [r]) = some l → VI m → RunsL P B W ro N g0 c s m l:=by
  intro c s m l h hv g a w Q l0 hd hlb k hw hQ
  obtain ⟨q,hq,rfl⟩:=Option.map_eq_some_iff.1 h
  exact Acn hP hH hV c _ _ _ _ _ hq hv g a w Q l0 hd hlb k hw fun g' a' w' => hQ q (List.mem_cons_self ..) g' a' w'
 induction c with
 | seq x y ihx ihy =>
  intro s m l h hv g a w Q l0 hd hlb k hw hQ
  simp only [acodeL] at h
  split at h
  ·rename_i l1 h1
   refine wpIn_seq (ihx _ _ _ h1 hv g a w _ l0 hd hlb k hw fun r hr g1 a1 w1 q1 d1 k1 w2 => ?_)
   obtain ⟨e,s1,m1⟩:=r
   rcases Alq h _ hr with ⟨h2,b,h3,h4⟩ | ⟨h2,h3⟩
   ·have h2:e = .normal:=h2
    subst h2
    exact ihy _ _ _ h3 ((VM.acodeL hV _ _ _ _ h1 _ hr).inv hv) g1 a1 w1 Q (l0.trans q1) d1 (fun l e => q1.lb l (hlb l e)) k1 w2 fun r hr g' a' w' l' => hQ r (h4 r hr) g' a' w' (q1.trans l')
   ·have h2:e ≠ .normal:=h2
    cases e with
    | normal => exact absurd rfl h2
    | _ => exact hQ _ h3 g1 a1 w1 q1 d1 k1 w2
  ·cases h
 | cond c x y ihx ihy =>
  intro s m l h hv g a w Q l0 hd hlb k hw hQ
  simp only [acodeL] at h
  split at h
  ·rename_i t hc
   have hr:=k.ev c
   rw [hc] at hr
   simp only [Rel] at hr
   refine wpIn_cond hr ?_
   cases t with
   | true => exact ihx _ _ _ h hv g a w Q l0 hd hlb k hw hQ
   | false => exact ihy _ _ _ h hv g a w Q l0 hd hlb k hw hQ
  ·cases h
 | block id b ih =>
  intro s m l h hv g a w Q l0 hd hlb k hw hQ
  simp only [acodeL] at h
  obtain ⟨x,hx,rfl⟩:=Option.map_eq_some_iff.1 h
  refine wpIn_block (ih _ _ _ hx hv g a w _ l0 hd hlb k hw fun r hr g1 a1 w1 q1 d1 k1 w2 => ?_)
  have hq:=hQ (outB id r) (List.mem_map_of_mem hr) g1 a1 w1 q1 d1
  obtain ⟨e,s1,m1⟩:=r
  cases e with
  | exit id' =>
   simp only [outB] at hq
   simp only [ex,Exit.inBlock]
   split
   ·rename_i e; rw [if_pos e] at hq; exact hq k1 w2
   ·rename_i e; rw [if_neg e] at hq; exact hq k1 w2
  | _ => exact hq k1 w2
 | region id ops draw =>
  intro s m l h hv g a w Q l0 hd hlb k hw hQ
  simp only [acodeL] at h
  split at h
  ·rename_i r hr
   cases h
   exact Acn hP hH hV (.region id ops draw) _ _ _ _ _ hr hv g a w Q l0 hd hlb k hw fun g' a' w' => hQ r (List.mem_cons_self ..) g' a' w'
  ·split at h
   ·rename_i hdc
    rw [Bool.and_eq_true] at hdc
    rw [hdc.1]
    exact Avu hP hH hV hdc.2 h hv k hw (fun r hr g' a' w' l' d' => hQ r hr g' a' w' l' (by rw [d']; exact hd.mono l')) id
   ·cases h
 | _ => intro s m l h hv; exact other _ s m l h hv
theorem WR.filt {g:G} {m:Mem} {w:World} (h:WR B W g m w) (p:Nat → Bool):WR B W g (m.keep p) w:=by
 have hg:∀ j,(m.keep p).get j = if p j then m.get j else none:=fun j => Tr.get_filt m.t p j
 refine ⟨h.below,h.base,h.n,?_,?_,?_,h.fz,h.x.step (.refl g) rfl rfl rfl rfl (fun _ _ k _ => k) rfl fun _ _ _ k => k.same fun i hi => (by
  rw [hg] at hi
  split at hi
  ·exact hi
  ·cases hi)⟩
 ·intro i o hi; rw [hg] at hi; split at hi
  ·exact h.ids i o hi
  ·cases hi
 ·intro i cs f ver hi; rw [hg] at hi; split at hi
  ·exact h.objs i cs f ver hi
  ·cases hi
 ·intro i j hi hj he
  rw [hg] at hi hj
  refine h.inj i j ?_ ?_ he
  ·split at hi
   ·exact hi
   ·cases hi
  ·split at hj
   ·exact hj
   ·cases hj
theorem Ao1 (hP:P.follows .mixedOrders = true) (hH:HSound P B W H) (hV:HVer H) {ro:Option Nat} {N fuel:Nat} {g0:G} {c:Code} {s:Sl} {m:Mem} {e:Ex} {m':Mem} (h:bodyR P H N fuel c s m = some (e,m')) (hv:VI m) (g:G) (a:Act) (w:World) (Q:Exit → Act → World → Prop) (l0:g0.le g) (hd:DR g0 g a.defers) (hlb:∀ l,ro = some l → g.lb l = true) (k:SR g N s a) (hw:WR B W g m w)
  (hQ:∀ g' a' w',g.le g' → DR g0 g' a'.defers → WR B W g' m' w' → Q (ex e) a' w'):c.wpIn (fw ro) 0 P Q a w:=by
 unfold bodyR at h
 split at h
 ·rename_i h1
  cases h
  exact Acn hP hH hV c _ _ _ _ _ h1 hv g a w Q l0 hd hlb k hw fun g' a' w' l' d' _ h' => hQ g' a' w' l' d' h'
 ·obtain ⟨l,h1,h2⟩:=Option.bind_eq_some_iff.1 h
  refine Anm hP hH hV c _ _ _ h1 hv g a w Q l0 hd hlb k hw ?_
  unfold joinL at h2
  split at h2
  ·rename_i e1 s1 m1 e2 s2 m2
   split at h2
   ·rename_i hj
    obtain ⟨j1,j2,j3,j4⟩:=hj
    subst j1
    cases h2
    intro r hr g' a' w' l' d' k' h'
    rcases List.mem_cons.1 hr with rfl | hr
    ·exact hQ g' a' w' l' d' (h'.filt _)
    ·rw [List.mem_singleton.1 hr] at h' ⊢
     refine hQ g' a' w' l' d' ((h'.filt (agree m1 m2)).congr ?_)
     have hg:∀ (m:Mem) (p:Nat → Bool) j,(m.keep p).get j = if p j then m.get j else none:=fun m p j => Tr.get_filt m.t p j
     unfold cont
     refine Prod.ext (Prod.ext j2.symm (Prod.ext ?_ ?_)) ?_
     ·funext id
      show (m2.loop id).map _ = (m1.loop id).map _
      rw [j3]
     ·funext id
      show (m2.map id).map _ = (m1.map id).map _
      rw [j4]
     ·funext id
      dsimp only
      rw [hg,hg]
      by_cases hp:m1.obj id = m2.obj id
      ·rw [if_pos (Aeo hp),if_pos (Aeo hp)]
       unfold Mem.obj at hp
       exact hp.symm
      ·rw [if_neg (by rw [Air hp]; simp),if_neg (by rw [Air hp]; simp)]
   ·cases h2
  ·cases h2
def resOf (tmps:Array Value):ResultVar → Sem Value
 | .tmp t => pure (tmps.getD t undef)
 | .cell a t => do loadVar t (← asAddr (tmps.getD a undef))
theorem Aso {T:TypeId} {x:AV} {m:Mem} {v:AV} {g:G} {u:Value} (k:Rel g x u) (e:aload P T x m = some v):∃ a,u = .pointer (some a):=by
 cases x with
 | ptr id off => simp only [Rel] at k; exact ⟨_,k.2⟩
 | cptr y off => simp only [Rel] at k; obtain ⟨b,o,u',_,_,h⟩:=k; exact ⟨_,h⟩
 | _ => cases e
theorem Adq {g:G} {N:Nat} {s:Sl} {a:Act} {m:Mem} {w:World} (k:SR g N s a) (h:WR B W g m w):∀ (l:List ResultVar) (vs:List AV),aresult P s m l = some vs →
  ∃ us,Rels g vs us ∧ (l.mapM (resOf a.tmps)).run P w = .ok us w
 | [],vs,e => by
  simp only [aresult,Option.some.injEq] at e
  subst e
  exact ⟨[],.nil,rfl⟩
 | .tmp t :: l,vs,e => by
  simp only [aresult,Option.map_eq_some_iff] at e
  obtain ⟨vs',e',rfl⟩:=e
  obtain ⟨us,h1,h2⟩:=Adq k h l vs' e'
  refine ⟨_,.cons (k.rel t) h1,?_⟩
  simp only [List.mapM_cons,resOf,Sem.run_bind,Sem.run_pure,Result.andThen_ok,h2]
 | .cell q T :: l,vs,e => by
  simp only [aresult] at e
  split at e
  ·rename_i v vs' h1 h2
   cases e
   obtain ⟨us,h3,h4⟩:=Adq k h l vs' h2
   obtain ⟨u,h5,h6⟩:=Aiq h (k.rel q) h1
   obtain ⟨ad,h7⟩:=Aso (k.rel q) h1
   refine ⟨_,.cons h6 h3,?_⟩
   have h8:(resOf a.tmps (.cell q T)).run P w = .ok u w:=by
    rw [h7] at h5
    simp only [resOf,h7]
    simpa [Instr.loadAt,Instr.sureAddr,asAddr] using h5
   simp only [List.mapM_cons,Sem.run_bind,Sem.run_pure,Result.andThen_ok,h4,h8]
  ·cases e
theorem An4 {g:G} {vs:List AV} {us:List Value} (h:Rels g vs us):Rel g (oneOf vs) (if h:us.toArray.size = 1 then us.toArray[0] else .tuple us.toArray):=by
 have hl:=h.length
 match vs,us,h with
 | [v],[u],h => simp only [Rels] at h; obtain ⟨x,y,e,h1,h2⟩:=h; cases e; exact h1
 | [],[],h => exact ⟨[],rfl,.nil⟩
 | v :: v2 :: vs,u :: u2 :: us,h => exact ⟨_,by simp,h⟩
 | [],_ :: _,_ => simp at hl
 | [_],[],_ => simp at hl
 | _ :: _ :: _,[],_ => simp at hl
 | [_],_ :: _ :: _,_ => simp at hl
 | _ :: _ :: _,[_],_ => simp at hl
theorem Akp {g:G} {N:Nat} {s:Sl} {a:Act} {m:Mem} {w:World} (k:SR g N s a) (h:WR B W g m w) {fn:Func} {vs:List AV} (e:aresult P s m fn.results.toList = some vs) :
  ∃ v,(results fn a.tmps).run P w = .ok v w ∧ Rel g (oneOf vs) v:=by
 obtain ⟨us,h1,h2⟩:=Adq k h _ _ e
 refine ⟨_,?_,An4 h1⟩
 have h3:results fn a.tmps = (do let vs ← fn.results.mapM (resOf a.tmps); pure (if h:vs.size = 1 then vs[0] else .tuple vs)):=by
  unfold results
  congr 1
  try (funext x; cases x <;> rfl)
 rw [h3,Array.mapM_eq_mapM_toList]
 simp only [Sem.run_bind,Sem.run_map,h2,Result.andThen_ok,Sem.run_pure]
theorem Al1:∀ (vs:List AV) (s:Sl) (i t:Nat),(Sl.putAll s i vs).at t = if i ≤ t ∧ t < i + vs.length then vs.getD (t - i) undefV else s.at t
 | [],s,i,t => by
  simp only [Sl.putAll,List.length_nil]
  rw [if_neg (by omega)]
 | v :: vs,s,i,t => by
  rw [Sl.putAll,Al1 vs,Sl.at_set]
  simp only [List.length_cons]
  by_cases h1:i + 1 ≤ t ∧ t < i + 1 + vs.length
  ·rw [if_pos h1,if_pos (by omega)]
   obtain ⟨d,hd⟩:∃ d,t - i = d + 1:=⟨t - i - 1,by omega⟩
   rw [hd,List.getD_cons_succ,show t - (i + 1) = d by omega]
  ·rw [if_neg h1]
   by_cases h2:t = i
   ·subst h2; rw [if_pos rfl,if_pos (by omega),Nat.sub_self]; rfl
   ·rw [if_neg h2,if_neg (by omega)]
theorem Aqr {g:G} {args:List AV} {vals:List Value} (k:Rels g args vals) {N:Nat} (hN:args.length ≤ N) :
  SR g N (Sl.putAll .nil 0 args) { tmps:=vals.toArray ++ Array.replicate (N - vals.toArray.size) undef,defers:=[] }:=by
 have hl:=k.length
 refine ⟨by simp; omega,fun t => ?_⟩
 rw [Al1]
 dsimp only
 by_cases h:0 ≤ t ∧ t < 0 + args.length
 ·rw [if_pos h]
  obtain ⟨x,hx⟩:∃ x,args[t]? = some x:=⟨_,List.getElem?_eq_getElem (by omega)⟩
  obtain ⟨v,hv,hr⟩:=k.get t x hx
  have:(vals.toArray ++ Array.replicate (N - vals.toArray.size) undef).getD t undef = v:=by
   rw [Array.getD_eq_getD_getElem?,Array.getElem?_append_left (by simp; omega)]
   simp [hv]
  rw [this]
  simp only [Nat.sub_zero,List.getD_eq_getElem?_getD,hx]
  exact hr
 ·rw [if_neg h]
  have:(vals.toArray ++ Array.replicate (N - vals.toArray.size) undef).getD t undef = undef:=by
   rw [Array.getD_eq_getD_getElem?,Array.getElem?_append_right (by simp; omega),Array.getElem?_replicate]
   split <;> rfl
  rw [this]
  rfl
theorem Abr {f : FuncId} {fn : Func} {c : Code} {args : Array Value} {w : World} (hf : P.funcs[f]? = some fn) (hb : fn.body = some c) (hn : fn.name ≠ "runtime.NumGoroutine") : (callFunc f args).run P w = .ok (.enter f args) w := by
 unfold callFunc
 simp [Sem.run_bind,program,Sem.run,hf,hb,hn]
theorem Ajo {g:G}:∀ {args:List AV} {vs vals:List Value},scals args = some vs → Rels g args vals → vals = vs
 | [],vs,vals,e,k => by simp only [scals,Option.some.injEq] at e; subst e; exact k
 | x :: xs,vs,vals,e,k => by
  simp only [scals] at e
  split at e
  ·rename_i a b h1 h2
   cases e
   simp only [Rels] at k
   obtain ⟨v,us,rfl,h3,h4⟩:=k
   cases x <;> simp [scal] at h1
   subst h1
   simp only [Rel] at h3
   rw [h3,Ajo h2 h4]
  ·cases e
theorem Ady {fn:Func} {tmps:Array Value} {R:Ending → World → Prop} {g0:G} {m:Mem}:∀ (rs:List Nat) (g:G) (w:World),rs.Nodup → (∀ r ∈ rs,g.df r = true ∧ g0.df r = false) → (∀ b,g0.df b = true → g.df b = true) → WR B W g m w →
  (∀ d w',(∀ b,g0.df b = true → d b = true) → WR B W (g.wdf d) m w' → ∃ v,(results fn tmps).run P w' = .ok v w' ∧ R (.returned v) w') → LeavesInM Fence.wide 0 P fn tmps R (rs.map fun r => { target:=.collected r,args:=#[] }) .returning w
 | [],g,w,_,_,h0,h,k => k g.df w h0 h
 | r :: rs,g,w,hn,hr,h0,h,k => by
  obtain ⟨h1,h2⟩:=hr r (by simp)
  obtain ⟨h3,h4⟩:=List.nodup_cons.1 hn
  have hs:=h.shut h1 (.deferred none)
  refine ⟨by simp,.inl ⟨r,_,rfl,run_takeDeferred (h.x.df r h1).2,?_⟩⟩
  refine Ady rs _ _ h4 (fun q hq => ⟨?_,(hr q (by simp [hq])).2⟩) (fun b hb => ?_) hs fun d w' hd hw => k d w' hd hw
  ·simp only [G.wdf,Bool.and_eq_true,bne_iff_ne]
   exact ⟨(hr q (by simp [hq])).1,fun e => h3 (e ▸ hq)⟩
  ·simp only [G.wdf,Bool.and_eq_true,bne_iff_ne]
   exact ⟨h0 b hb,fun e => by rw [e,h2] at hb; cases hb⟩
variable {cfg:Cfg}
theorem Ait (hP:P.follows .mixedOrders = true) (hH:HSound P B W H) (hV:HVer H) {n:Nat} {f:FuncId} {args:List AV} {m:Mem} {v:AV} {m':Mem} (e:abody P cfg H n f args m = some (v,m')) (hv:VI m):CallOk P B W f args m v m':=by
 intro g w vals k h
 unfold abody at e
 split at e
 ·rename_i fn hf
  split at e
  ·rename_i c hb
   split at e
   ·rename_i hc
    refine .inl ⟨Abr hf hb hc.1,?_⟩
    dsimp only at e
    obtain ⟨am,ham⟩:∃ am,(if cfg.keepArgs f = true then (args,m) else fzvs m args) = am:=⟨_,rfl⟩
    rw [ham] at e
    obtain ⟨g1,l1,w1,k1,hv1,hlen⟩:∃ g1,g.le g1 ∧ WR B W g1 am.2 w ∧ Rels g1 am.1 vals ∧ VI am.2 ∧ am.1.length = args.length:=by
     split at ham
     ·subst ham; exact ⟨g,.refl g,h,k,hv,rfl⟩
     ·subst ham
      obtain ⟨g1,l1,w1,k1⟩:=Abn args h k
      exact ⟨g1,l1,w1,k1,(VM.fzvs args m).inv hv,by rw [← k1.length,k.length]⟩
    have fin:∀ (e1:Ex) (s:Sl) (m2:Mem) (vs:List AV),(e1 = .normal ∨ e1 = .ret) → acode P H fn.ntmps n c (Sl.putAll .nil 0 am.1) am.2 = some (e1,s,m2) → aresult P s m2 fn.results.toList = some vs →
      gcw (cfg.gc f) am.2 (if cfg.keepRes f = true then (oneOf vs,m2) else fzr m2 (oneOf vs)) = some (v,m') →
      Calls P f vals.toArray w fun e w' => ∃ v' g',e = .returned v' ∧ g.le g' ∧ Rel g' v v' ∧ WR B W g' m' w':=by
     intro e1 s m2 vs he ha hr hres
     refine callsIn_wide.1 (callsIn_of_wp_marks (F:=Fence.wide) (n:=0) hf hb trivial (Acn hP hH hV (ro:=none) (g0:=g1) c _ _ _ _ _ ha hv1 g1 _ w _ (.refl g1) (.nil g1 g1) (fun l e => by cases e) (Aqr k1 (by omega)) w1 fun g2 a2 w2 l2 d2 k2 h2 => ?_))
     have:LeavesInM Fence.wide 0 P fn a2.tmps (fun e w' => ∃ v' g',e = .returned v' ∧ g.le g' ∧ Rel g' v v' ∧ WR B W g' m' w') a2.defers .returning w2:=by
      obtain ⟨rs,e1,e2,e3⟩:=d2
      rw [e1]
      refine Ady rs g2 w2 e2 e3 l2.df h2 fun d w' hd hw' => ?_
      have k3:SR (g2.wdf d) fn.ntmps s a2:=⟨k2.size,fun t => (k2.rel t).monoE (G.lee_wdf g2 d) _ _⟩
      have l3:g1.le (g2.wdf d):=⟨l2.n,l2.mu,l2.sz,l2.ln,l2.fz,hd,l2.lb,l2.pn⟩
      obtain ⟨u,h3,h4⟩:=Akp k3 hw' hr
      refine ⟨u,h3,?_⟩
      have v2:VM am.2 m2:=VM.acode hV _ _ _ _ _ _ ha
      split at hres
      ·obtain ⟨g4,l4,r4,w4⟩:=Aic w1 hv1 v2 l3 hw' h4 hres
       exact ⟨u,g4,rfl,l1.trans l4,r4,w4⟩
      ·obtain ⟨g3,l5,w3,r3⟩:=Amw hw' h4
       obtain ⟨g4,l4,r4,w4⟩:=Aic w1 hv1 (v2.trans (VM.fzr m2 (oneOf vs))) (l3.trans l5) w3 r3 hres
       exact ⟨u,g4,rfl,l1.trans l4,r4,w4⟩
     rcases he with rfl | rfl <;> exact this
    split at e
    ·rename_i s m2 ha
     split at e
     ·rename_i vs hr
      exact fin _ _ _ _ (.inl rfl) ha hr e
     ·cases e
    ·rename_i s m2 ha
     split at e
     ·rename_i vs hr
      exact fin _ _ _ _ (.inr rfl) ha hr e
     ·cases e
    ·cases e
   ·cases e
  ·split at e
   ·rename_i vs hs
    split at e
    ·rename_i u hu
     cases e
     have:=Ajo hs k
     subst this
     exact .inr ⟨u,g,w,Aat _ _ hu w,.refl g,rfl,h⟩
    ·cases e
   ·cases e
 ·cases e
theorem Atz {g:G} {N:Nat}:∀ (ps:List Tmp) (args:List AV) (vals:List Value) (s:Sl) (tmps:Array Value),Rels g args vals → tmps.size = N → (∀ t,Rel g (s.at t) (tmps.getD t undef)) →
  ((ps.zip vals).foldl (fun tmps x => tmps.setIfInBounds x.1 x.2) tmps).size = N ∧ ∀ t,Rel g ((Sl.puts N s ps args).at t) (((ps.zip vals).foldl (fun tmps x => tmps.setIfInBounds x.1 x.2) tmps).getD t undef)
 | [],args,vals,s,tmps,_,hN,h => by
  cases args <;> exact ⟨by simpa using hN,by simpa [Sl.puts] using h⟩
 | p :: ps,[],vals,s,tmps,hr,hN,h => by
  simp only [Rels] at hr
  subst hr
  exact ⟨by simpa using hN,by simpa [Sl.puts] using h⟩
 | p :: ps,x :: args,vals,s,tmps,hr,hN,h => by
  simp only [Rels] at hr
  obtain ⟨v,rest,rfl,h1,h2⟩:=hr
  simp only [List.zip_cons_cons,List.foldl_cons,Sl.puts]
  refine Atz ps args rest _ _ h2 (by simpa using hN) fun t => ?_
  by_cases hp:p < N
  ·rw [if_pos hp,Sl.at_set]
   by_cases e:t = p
   ·subst e
    rw [if_pos rfl]
    simp [hN,hp]
    exact h1
   ·rw [if_neg e]
    have:=h t
    simpa [Array.getElem?_setIfInBounds_ne (Ne.symm e)] using this
  ·rw [if_neg hp]
   have:tmps.setIfInBounds p v = tmps:=by
    apply Array.ext_getElem?
    intro i
    rw [Array.getElem?_setIfInBounds]
    split
    ·rename_i e; subst e; rw [if_neg (by rw [hN]; exact hp),Array.getElem?_eq_none (by rw [hN]; exact Nat.le_of_not_lt hp)]
    ·rfl
   rw [this]
   exact h t
theorem Ane (hP:P.follows .mixedOrders = true) (hH:HSound P B W H) (hV:HVer H) {n id:Nat} {args:List AV} {m:Mem} {v:AV} {m':Mem} (e:around P H n id args m = some (v,m')) (hv:VI m):RoundOk P B W id args m v m':=by
 intro g w vals k h
 unfold around at e
 split at e
 ·rename_i L hL
  split at e
  ·rename_i hlen
   split at e
   ·rename_i s1 m1 ha
    split at e
    ·rename_i L1 hL1
     split at e
     ·rename_i hst
      split at e
      ·rename_i e2 m2 hb
       split at e
       ·rename_i L2 hL2
        cases e
        obtain ⟨hid,⟨hB,hlb⟩,fn,tmps,df,h2,h3,h4⟩:=h.x.lids id L hL
        refine ⟨_,h2,by rw [k.length]; exact hlen,?_⟩
        refine roundIn_of_wpIn (F:=Fence.wide) trivial ?_
        dsimp only
        have hz:(L.c.ps.zip vals.toArray).foldl (fun tmps x => match x with | (t,a) => tmps.setIfInBounds t a) tmps = (L.c.ps.toList.zip vals).foldl (fun tmps x => tmps.setIfInBounds x.1 x.2) tmps:=by
         rw [← Array.foldl_toList,Array.toList_zip]
        obtain ⟨p1,p2⟩:=Atz L.c.ps.toList args vals L.c.s tmps k h3 h4
        have hsr:SR g L.c.N (Sl.puts L.c.N L.c.s L.c.ps.toList args) { tmps:=(L.c.ps.zip vals.toArray).foldl (fun tmps x => match x with | (t,a) => tmps.setIfInBounds t a) tmps,defers:=[] }:=by
         rw [hz]; exact ⟨p1,p2⟩
        have va:=VM.acode hV _ _ _ _ _ _ ha
        have hv1:=va.inv hv
        have hv1':VI (m1.setLoop id .busy L1.pend L1.c):=(VM.setLoop m1 hL1 _ _).inv hv1
        refine Acn hP hH hV (ro:=some (g.mu id).1) (g0:=g) L.c.assign _ _ _ _ _ ha hv g _ w _ (.refl g) (.nil g g) (fun l e => by cases e; exact hlb) hsr h fun g1 a1 w1 l1 d1 k1 h1 => ?_
        have e1:(g1.mu id).1 = (g.mu id).1:=by rw [l1.mu id hid]
        obtain ⟨r1,b1,b2,b3,b4⟩:=h1.setLoop hL1 .busy L1.pend
        rw [e1] at b1 b4
        rw [← b3] at b4
        refine ⟨_,run_beginRound b1 (by rw [b2,hst]),?_⟩
        rw [b3] at b4
        have b4':WR B W g1 (m1.setLoop id .busy L1.pend L1.c) (w1.putObj (g.mu id).1 (.loop { r1 with state:=.busy })):=by
         have:({ r1 with state:=.busy,pending:=L1.pend }:Loop) = { r1 with state:=.busy }:=by rw [← b3]
         rw [this] at b4
         exact b4
        refine Ao1 hP hH hV (ro:=some (g.mu id).1) (g0:=g) hb hv1' g1 a1 _ _ l1 d1 (fun l e => by cases e; exact l1.lb _ hlb) k1 b4' fun g2 a2 w2 l2 d2 h5 => ?_
        have e2':(g2.mu id).1 = (g.mu id).1:=by rw [l2.mu id (Nat.lt_of_lt_of_le hid l1.n),e1]
        obtain ⟨r2,c1,c2,c3,c4⟩:=h5.setLoop hL2 (if (pendOf e2).isNone then .ready else .done) (pendOf e2)
        rw [e2'] at c1 c4
        have fin:∃ v w',(Instr.endRound (g.mu id).1 (pendOf e2)).run P w2 = .ok v w' ∧ ∃ v' g',Ending.returned v = .returned v' ∧ g.le g' ∧ Rel g' (.sc (.bool (pendOf e2).isNone)) v' ∧ WR B W g' (m2.setLoop id (if (pendOf e2).isNone then .ready else .done) (pendOf e2) L2.c) w' :=
         ⟨_,_,run_endRound (pendOf e2) c1,_,g2,rfl,l1.trans l2,rfl,c4⟩
        cases e2 with
        | normal => exact fin
        | exit id => exact fin
        | goto l => exact fin
        | ret => exact fin
       ·cases e
      ·cases e
     ·cases e
    ·cases e
   ·cases e
  ·cases e
 ·cases e
theorem Anp (hV:HVer H) {n:Nat} {f:FuncId} {args:List AV} {m:Mem} {v:AV} {m':Mem} (e:abody P cfg H n f args m = some (v,m')):VM m m':=by
 unfold abody at e
 split at e
 ·split at e
  ·split at e
   ·dsimp only at e
    obtain ⟨am,ham⟩:∃ am,(if cfg.keepArgs f = true then (args,m) else fzvs m args) = am:=⟨_,rfl⟩
    rw [ham] at e
    have h1:VM m am.2:=by
     split at ham
     ·subst ham; exact .refl m
     ·subst ham; exact VM.fzvs args m
    have fin:∀ (s:Sl) (m2:Mem) (vs:List AV),VM am.2 m2 → gcw (cfg.gc f) am.2 (if cfg.keepRes f = true then (oneOf vs,m2) else fzr m2 (oneOf vs)) = some (v,m') → VM m m':=by
     intro s m2 vs h2 h3
     split at h3
     ·exact h1.trans (VM.gcw (r:=(oneOf vs,m2)) h2 h3)
     ·exact h1.trans (VM.gcw (h2.trans (VM.fzr m2 (oneOf vs))) h3)
    split at e
    ·rename_i s m2 ha
     split at e
     ·exact fin s m2 _ (VM.acode hV _ _ _ _ _ _ ha) e
     ·cases e
    ·rename_i s m2 ha
     split at e
     ·exact fin s m2 _ (VM.acode hV _ _ _ _ _ _ ha) e
     ·cases e
    ·cases e
   ·cases e
  ·split at e
   ·split at e
    ·cases e; exact .refl _
    ·cases e
   ·cases e
 ·cases e
structure Hooks (P:Program) (B:Bs) (W:World) (cfg:Cfg):Prop where
 sound:∀ f h,cfg.hook f = some h → ∀ args m v m',h args m = some (v,m') → VI m → CallOk P B W f args m v m'
 ver:∀ f h,cfg.hook f = some h → ∀ args m v m',h args m = some (v,m') → VM m m'
theorem Adr (hk:Hooks P B W cfg):∀ n,HVer (afn P cfg n)
 | 0,fn,args,m,v,m',e => by cases e
 | n + 1,fn,args,m,v,m',e => by
  cases fn with
  | func f =>
   simp only [afn] at e
   split at e
   ·rename_i h hh; exact hk.ver f h hh _ _ _ _ e
   ·exact Anp (Adr hk n) e
  | yield id => exact VM.around (Adr hk n) e
  | _ => cases e
theorem Ab6 (hP:P.follows .mixedOrders = true) (hk:Hooks P B W cfg):∀ n,HSound P B W (afn P cfg n)
 | 0 => ⟨fun f args m v m' e => (by cases e),fun f args m v m' e => (by cases e),fun fn args m h _ => rfl⟩
 | n + 1 => {
  func:=fun f args m v m' e hv => by
   simp only [afn] at e
   split at e
   ·rename_i h hh; exact hk.sound f h hh _ _ _ _ e hv
   ·exact Ait hP (Ab6 hP hk n) (Adr hk n) e hv
  yield:=fun id args m v m' e hv => Ane hP (Ab6 hP hk n) (Adr hk n) e hv
  other:=fun fn args m h h' => by
   cases fn with
   | func f => exact absurd rfl (h f)
   | yield l => exact absurd rfl (h' l)
   | _ => rfl }
end Go.V
