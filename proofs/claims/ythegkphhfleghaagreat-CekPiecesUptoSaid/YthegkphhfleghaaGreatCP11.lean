/- Part of a proof. -/
import Derived.Test.YthegkphhfleghaaGreatCP10
import Derived.WalkKit
import Derived.ProofKit
import Derived.OpenShut
import Derived.JoinedCond
set_option maxHeartbeats 64000000
set_option linter.unusedSimpArgs false
set_option linter.unusedVariables false
set_option linter.unusedSectionVars false
namespace Go.Proofs.YthegkphhfleghaaGreat
set_option maxRecDepth 4000
open Go.V
theorem Ayf:ownKnob Tryz.prog.godebug = none:=by kernel_rfl
theorem Ayr:laidOutB Tryz.prog = true:=by kernel_rfl
theorem Ari:Tryz.prog.readableRec 28 = true ∧ 28 < Tryz.prog.types.size:=⟨by kernel_rfl,of_decide_eq_true (by kernel_rfl)⟩
theorem Arh:Tryz.prog.readableRec 29 = true ∧ 29 < Tryz.prog.types.size:=⟨by kernel_rfl,of_decide_eq_true (by kernel_rfl)⟩
theorem A4g:Tryz.prog.cellsOf 26 = 1:=by kernel_rfl
theorem Aoz:Tryz.prog.cellsOf 28 = 11:=by kernel_rfl
theorem A6j:Tryz.prog.cellsOf 5 = 1:=by kernel_rfl
theorem A1u {W:World} {x:List AV} {v:Value} (hr:Rel (G.start W) (.lst x) v):v.oneCell' = true:=by
 simp only [Rel] at hr
 obtain ⟨_,_,_,_,rfl,_⟩:=hr
 rfl
section
variable {H:Type} {en:TypeId × Value → H} {W:World}
theorem Aqg {α:Type} {T e:TypeId} {fuel:Nat} {v:Value} {d:DataW H} {ps:List MemPlace} (hu:Tryz.prog.underlying T = some (.slice e)) (hk:0 < Tryz.prog.cellsOf e) (h:rd en Tryz.prog W fuel T [v] = some (d,ps)) (hb:Rows.uptoBulk d ≤ 1048576) (f:α → AV) (C:α → Prop)
  (conv:∀ cs x p,rd en Tryz.prog W (fuel - 1) e cs = some (x,p) → Rows.uptoBulk x ≤ 1048576 → ∃ (y:α) (u:Value),Rel (G.start W) (f y) u ∧ u.cells.toList = cs ∧ C y):∃ L:List α,Rel (G.start W) (.lst (L.map f)) v ∧ L.length < 2 ^ 21 ∧ ∀ y ∈ L,C y:=by
 obtain ⟨ys,h1,h2⟩:=Aty (α:=α) hu hk h f (fun _ y => C y) (fun cs x p hx hr hl => by
  obtain ⟨l,r,rfl,hm⟩:=hx
  exact conv cs x p hr (by
   have:=Aqx hm
   simp only [Rows.uptoBulk] at hb
   omega))
 refine ⟨ys,h1,?_⟩
 rcases h2 with ⟨_,rfl⟩ | ⟨l,r,rfl,hl,hc⟩
 ·simp
 ·have:=Aez l
  simp only [Rows.uptoBulk] at hb
  refine ⟨by omega,fun y hy => ?_⟩
  obtain ⟨i,hi,e⟩:=List.getElem_of_mem hy
  exact hc i _ y (List.getElem?_eq_getElem (by omega)) (by rw [List.getElem?_eq_getElem hi,e])
theorem Aqp:∀ {l:List Cor},(∀ d ∈ l,d.fits) → fitCs l
 | [],_ => trivial
 | d :: l,h => ⟨h d (by simp),Aqp fun x hx => h x (by simp [hx])⟩
theorem A6g (fuel:Nat):∀ (cs:List Value) (d:DataW H) (ps:List MemPlace),rd en Tryz.prog W fuel 28 cs = some (d,ps) → Rows.uptoBulk d ≤ 1048576 → ∃ x:Cor,Rel (G.start W) (encC x) (.agg cs.toArray) ∧ x.fits:=by
 induction fuel using Nat.strongRecOn with
 | _ fuel ih =>
  intro cs d ps h hb
  cases fuel with
  | zero => cases h
  | succ fuel =>
   simp only [rd,DataW.trod,Tryz.underlying28,Aoz] at h
   split at h
   ·rename_i hlen
    rw [Option.map_eq_some_iff] at h
    obtain ⟨xs,h1,h2⟩:=h
    cases h2
    obtain ⟨c0,c1,c2,c3,c4,c5,c6,c7,c8,c9,c10,rfl⟩:∃ c0 c1 c2 c3 c4 c5 c6 c7 c8 c9 c10,cs = [c0,c1,c2,c3,c4,c5,c6,c7,c8,c9,c10]:=by
     rcases cs with _ | ⟨c0,_ | ⟨c1,_ | ⟨c2,_ | ⟨c3,_ | ⟨c4,_ | ⟨c5,_ | ⟨c6,_ | ⟨c7,_ | ⟨c8,_ | ⟨c9,_ | ⟨c10,_ | ⟨c11,cs⟩⟩⟩⟩⟩⟩⟩⟩⟩⟩⟩⟩ <;> simp at hlen
     exact ⟨_,_,_,_,_,_,_,_,_,_,_,rfl⟩
    simp only [List.mapM_cons,List.mapM_nil,Option.bind_eq_bind,Option.bind_eq_some_iff,Option.pure_def,Option.some.injEq,Av2,A2a,A19,Av3,Ao0,A4g,List.drop_zero,List.drop_succ_cons,List.take_succ_cons,List.take_zero] at h1
    obtain ⟨x0,q0,_,⟨x1,q1,_,⟨x2,q2,_,⟨x3,q3,_,⟨x4,q4,_,⟨x5,q5,_,rfl,rfl⟩,rfl⟩,rfl⟩,rfl⟩,rfl⟩,rfl⟩:=h1
    simp only [List.map_cons,List.map_nil,Rows.uptoBulk,Rows.uptoBulkAll] at hb
    obtain ⟨K,rK,_,_⟩:=Ajr Tryz.underlying3 (d:=x0.1) (ps:=x0.2) q0
    obtain ⟨N,rN,_,wN⟩:=Ajr Tryz.underlying2 (d:=x1.1) (ps:=x1.2) q1
    obtain ⟨S,rS,dS⟩:=Alz Tryz.underlying9 (d:=x2.1) (ps:=x2.2) q2
    obtain ⟨D,rD,fD⟩:=A0t fuel _ x3.1 x3.2 q3 (by omega)
    obtain ⟨M,rM,lM⟩:=Auq (d:=x4.1) (ps:=x4.2) q4 (by omega)
    obtain ⟨L,rL,lL,fL⟩:=Aqg (α:=Cor) Tryz.underlying26 (by rw [Aoz]; decide) q5 (by omega) encC Cor.fits (fun cs x p hr hx => by
     have hf:fuel ≠ 0:=by rintro rfl; cases q5
     obtain ⟨y,y1,y2⟩:=ih (fuel - 1) (by omega) cs x p hr hx
     exact ⟨y,_,y1,by simp [Value.cells],y2⟩)
    rw [← Abi] at rL
    cases rK; cases rN; cases rS
    obtain ⟨dk,dn,ds,dM,dL,dT⟩:=D
    obtain ⟨us,e,hr,ho⟩:=rD
    have e:us = [c3,c4,c5,c6,c7,c8]:=by
     have:=congrArg (fun v => match v with | Value.agg x => x.toList | _ => []) e
     simpa using this.symm
    subst e
    refine ⟨.mk K N S (.mk dk dn ds dM dL dT) M L,?_,?_⟩
    ·obtain ⟨_,_,e0,r0,_,_,e1,r1,_,_,e2,r2,_,_,e3,r3,_,_,e4,r4,_,_,e5,r5,e6⟩:=hr
     cases e0; cases e1; cases e2; cases e3; cases e4; cases e5
     refine ⟨[_,_,_,_,_,_,_,_,_,_,_],rfl,.cons rfl (.cons rfl (.cons rfl (.cons r0 (.cons r1 (.cons r2 (.cons r3 (.cons r4 (.cons r5 (.cons rM (.cons rL .nil)))))))))),?_⟩
     intro u hu
     simp only [List.mem_cons,List.not_mem_nil,or_false] at hu
     rcases hu with rfl | rfl | rfl | rfl | rfl | rfl | rfl | rfl | rfl | rfl | rfl
     ·rfl
     ·rfl
     ·rfl
     ·exact ho _ (by simp)
     ·exact ho _ (by simp)
     ·exact ho _ (by simp)
     ·exact ho _ (by simp)
     ·exact ho _ (by simp)
     ·exact ho _ (by simp)
     ·exact A1u rM
     ·exact A1u rL
    ·rw [Cor.fits]
     refine ⟨⟨?_,?_,fD,lM,lL⟩,Aqp fL⟩
     ·simpa [Lit.wf,IntKind.min,IntKind.max,IntKind.signed,IntKind.bits] using wN
     ·rw [dS] at hb
      simp only [Rows.uptoBulk] at hb
      omega
   ·cases h
theorem Axu {v:Value} {d:DataW H} {p:List MemPlace} (h:DataW.Trod en Tryz.prog W 0 (fun _ => true) true 28 v d p) (hb:Rows.uptoBulk d ≤ 1048576):∃ x:Cor,Rel (G.start W) (encC x) v ∧ x.fits:=by
 obtain ⟨fuel,h⟩:=h
 have hv:v = .agg v.cells:=by
  have hl:v.cells.toList.length = 11:=by
   cases fuel with
   | zero => cases h
   | succ fuel =>
    simp only [DataW.trod,Tryz.underlying28,Aoz] at h
    split at h
    ·assumption
    ·cases h
  cases v <;> first | rfl | (simp [Value.cells] at hl)
 obtain ⟨x,h1,h2⟩:=A6g fuel _ d p h hb
 refine ⟨x,?_,h2⟩
 rw [hv]
 simpa using h1
set_option maxRecDepth 100000 in
theorem Ata {v:Value} {d:DataW H} {p:List MemPlace} {base:Nat} (hv:Value.okWide Tryz.prog W .any base 29 v) (h:DataW.Trod en Tryz.prog W 0 (fun _ => true) true 29 v d p) (hb:Rows.uptoBulk d ≤ 1048576):∃ L:List UInt8,Rel (G.start W) (.lst (byts L)) v ∧ L.length < 2 ^ 21:=by
 obtain ⟨fuel,h⟩:=h
 have hv:v.cells.toList = [v]:=by
  cases v with
  | agg cs => simp [Value.okWide,Cell.okWide,Cell.ok,Tryz.underlying29] at hv
  | _ => rfl
 rw [hv] at h
 obtain ⟨L,rL,lL,_⟩:=Aqg (α:=UInt8) Tryz.underlying29 (by rw [A6j]; decide) h hb (fun b => .sc (.int .u8 b.toNat)) (fun _ => True) (fun cs x p hr hx => by
  obtain ⟨n,rfl,_,wn⟩:=Ajr Tryz.underlying5 hr
  have:0 ≤ n ∧ n ≤ 255:=by simpa [Lit.wf,IntKind.min,IntKind.max,IntKind.signed,IntKind.bits] using wn
  refine ⟨UInt8.ofNat n.toNat,.int .u8 n,?_,rfl,trivial⟩
  have e:((UInt8.ofNat n.toNat).toNat:Int) = n:=by
   rw [UInt8.toNat_ofNat']
   omega
  rw [e]
  rfl)
 exact ⟨L,rL,lL⟩
end
end Go.Proofs.YthegkphhfleghaaGreat
