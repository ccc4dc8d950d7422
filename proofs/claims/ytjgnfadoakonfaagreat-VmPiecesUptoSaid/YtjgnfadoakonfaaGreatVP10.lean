/- Part of a proof. -/
import Derived.Test.YtjgnfadoakonfaaGreatVP9
import Derived.WalkKit
import Derived.ProofKit
import Derived.OpenShut
import Derived.JoinedCond
set_option maxHeartbeats 64000000
set_option linter.unusedSimpArgs false
set_option linter.unusedVariables false
set_option linter.unusedSectionVars false
namespace Go.Proofs.YtjgnfadoakonfaaGreat
set_option maxRecDepth 4000
open Go.V
theorem Avp:ownKnob Tryz.prog.godebug = none:=by kernel_rfl
theorem Av0:laidOutB Tryz.prog = true:=by kernel_rfl
theorem Apq:Tryz.prog.readableRec 26 = true ∧ 26 < Tryz.prog.types.size:=⟨by kernel_rfl,of_decide_eq_true (by kernel_rfl)⟩
theorem App:Tryz.prog.readableRec 27 = true ∧ 27 < Tryz.prog.types.size:=⟨by kernel_rfl,of_decide_eq_true (by kernel_rfl)⟩
theorem A1y:Tryz.prog.cellsOf 22 = 1:=by kernel_rfl
theorem A1x:Tryz.prog.cellsOf 24 = 1:=by kernel_rfl
theorem Ati:Tryz.prog.cellsOf 26 = 3:=by kernel_rfl
theorem A3v:Tryz.prog.cellsOf 5 = 1:=by kernel_rfl
theorem A1w:Tryz.prog.cellsOf 55 = 1:=by kernel_rfl
theorem Ath:Tryz.prog.cellsOf 57 = 5:=by kernel_rfl
theorem Atg:Tryz.prog.cellsOf 90 = 3:=by kernel_rfl
theorem Aot {W:World} {x:List AV} {v:Value} (hr:Rel (G.start W) (.lst x) v):v.oneCell' = true:=by
 simp only [Rel] at hr
 obtain ⟨_,_,_,_,rfl,_⟩:=hr
 rfl
section
variable {H:Type} {en:TypeId × Value → H} {W:World}
theorem Afb {α:Type} {T e:TypeId} {fuel:Nat} {v:Value} {d:DataW H} {ps:List MemPlace} (hu:Tryz.prog.underlying T = some (.slice e)) (hk:0 < Tryz.prog.cellsOf e) (h:rd en Tryz.prog W fuel T [v] = some (d,ps)) (hb:Rows.uptoBulk d ≤ 1048576) (f:α → AV) (C:α → Prop)
  (conv:∀ cs x p,rd en Tryz.prog W (fuel - 1) e cs = some (x,p) → Rows.uptoBulk x ≤ 1048576 → ∃ (y:α) (u:Value),Rel (G.start W) (f y) u ∧ u.cells.toList = cs ∧ C y):∃ L:List α,Rel (G.start W) (.lst (L.map f)) v ∧ L.length < 2 ^ 21 ∧ ∀ y ∈ L,C y:=by
 obtain ⟨ys,h1,h2⟩:=Art (α:=α) hu hk h f (fun _ y => C y) (fun cs x p hx hr hl => by
  obtain ⟨l,r,rfl,hm⟩:=hx
  exact conv cs x p hr (by
   have:=Apc hm
   simp only [Rows.uptoBulk] at hb
   omega))
 refine ⟨ys,h1,?_⟩
 rcases h2 with ⟨_,rfl⟩ | ⟨l,r,rfl,hl,hc⟩
 ·simp
 ·have:=Aex l
  simp only [Rows.uptoBulk] at hb
  refine ⟨by omega,fun y hy => ?_⟩
  obtain ⟨i,hi,e⟩:=List.getElem_of_mem hy
  exact hc i _ y (List.getElem?_eq_getElem (by omega)) (by rw [List.getElem?_eq_getElem hi,e])
theorem A23 (fuel:Nat) (cs:List Value) (d:DataW H) (ps:List MemPlace) (h:rd en Tryz.prog W fuel 90 cs = some (d,ps)):∃ x:InsM,Rel (G.start W) (insA x) (.agg cs.toArray) ∧ i64r x.2.1 ∧ i64r x.2.2:=by
 cases fuel with
 | zero => cases h
 | succ fuel =>
  simp only [rd,DataW.trod,Tryz.underlying90,Atg] at h
  split at h
  ·rename_i hlen
   rw [Option.map_eq_some_iff] at h
   obtain ⟨xs,h1,h2⟩:=h
   cases h2
   obtain ⟨c0,c1,c2,rfl⟩:∃ c0 c1 c2,cs = [c0,c1,c2]:=by
    rcases cs with _ | ⟨c0,_ | ⟨c1,_ | ⟨c2,_ | ⟨c3,cs⟩⟩⟩⟩ <;> simp at hlen
    exact ⟨_,_,_,rfl⟩
   simp only [List.mapM_cons,List.mapM_nil,Option.bind_eq_bind,Option.bind_eq_some_iff,Option.pure_def,Option.some.injEq,Apb,Azg,List.drop_zero,List.drop_succ_cons,List.take_succ_cons,List.take_zero] at h1
   obtain ⟨x0,q0,_,⟨x1,q1,_,⟨x2,q2,_,rfl,rfl⟩,rfl⟩,rfl⟩:=h1
   obtain ⟨K,rK,_,_⟩:=Ad2 Tryz.underlying3 (d:=x0.1) (ps:=x0.2) q0
   obtain ⟨M,rM,_,wM⟩:=Ad2 Tryz.underlying3 (d:=x1.1) (ps:=x1.2) q1
   obtain ⟨N,rN,_,wN⟩:=Ad2 Tryz.underlying3 (d:=x2.1) (ps:=x2.2) q2
   cases rK; cases rM; cases rN
   refine ⟨(K,M,N),⟨[_,_,_],rfl,.cons rfl (.cons rfl (.one rfl)),?_⟩,?_,?_⟩
   ·intro u hu
    simp only [List.mem_cons,List.not_mem_nil,or_false] at hu
    rcases hu with rfl | rfl | rfl <;> rfl
   ·have:-9223372036854775808 ≤ M ∧ M ≤ 9223372036854775807:=by simpa [Lit.wf,IntKind.min,IntKind.max,IntKind.signed,IntKind.bits] using wM
    simp only [i64r]; omega
   ·have:-9223372036854775808 ≤ N ∧ N ≤ 9223372036854775807:=by simpa [Lit.wf,IntKind.min,IntKind.max,IntKind.signed,IntKind.bits] using wN
    simp only [i64r]; omega
  ·cases h
theorem A3u (fuel:Nat) (cs:List Value) (d:DataW H) (ps:List MemPlace) (h:rd en Tryz.prog W fuel 57 cs = some (d,ps)) (hb:Rows.uptoBulk d ≤ 1048576):∃ c:CoM,Rel (G.start W) (codA c) (.agg cs.toArray) ∧ CoFit c:=by
 cases fuel with
 | zero => cases h
 | succ fuel =>
  simp only [rd,DataW.trod,Tryz.underlying57,Ath] at h
  split at h
  ·rename_i hlen
   rw [Option.map_eq_some_iff] at h
   obtain ⟨xs,h1,h2⟩:=h
   cases h2
   obtain ⟨c0,c1,c2,c3,c4,rfl⟩:∃ c0 c1 c2 c3 c4,cs = [c0,c1,c2,c3,c4]:=by
    rcases cs with _ | ⟨c0,_ | ⟨c1,_ | ⟨c2,_ | ⟨c3,_ | ⟨c4,_ | ⟨c5,cs⟩⟩⟩⟩⟩⟩ <;> simp at hlen
    exact ⟨_,_,_,_,_,rfl⟩
   simp only [List.mapM_cons,List.mapM_nil,Option.bind_eq_bind,Option.bind_eq_some_iff,Option.pure_def,Option.some.injEq,Apb,A1w,List.drop_zero,List.drop_succ_cons,List.take_succ_cons,List.take_zero] at h1
   obtain ⟨x0,q0,_,⟨x1,q1,_,⟨x2,q2,_,⟨x3,q3,_,⟨x4,q4,_,rfl,rfl⟩,rfl⟩,rfl⟩,rfl⟩,rfl⟩:=h1
   simp only [List.map_cons,List.map_nil,Rows.uptoBulk,Rows.uptoBulkAll] at hb
   obtain ⟨A,rA,_,_⟩:=Ad2 Tryz.underlying3 (d:=x0.1) (ps:=x0.2) q0
   obtain ⟨B,rB,_,_⟩:=Ad2 Tryz.underlying3 (d:=x1.1) (ps:=x1.2) q1
   obtain ⟨C,rC,_,_⟩:=Ad2 Tryz.underlying3 (d:=x2.1) (ps:=x2.2) q2
   obtain ⟨D,rD,_,_⟩:=Ad2 Tryz.underlying3 (d:=x3.1) (ps:=x3.2) q3
   obtain ⟨L,rL,_,fL⟩:=Afb (α:=InsM) Tryz.underlying55 (by rw [Atg]; decide) q4 (by omega) insA (fun x => i64r x.2.1 ∧ i64r x.2.2) (fun cs x p hr _ => by
    obtain ⟨y,y1,y2⟩:=A23 (fuel - 1) cs x p hr
    exact ⟨y,_,y1,by simp [Value.cells],y2⟩)
   cases rA; cases rB; cases rC; cases rD
   refine ⟨⟨A,B,C,D,L⟩,⟨[_,_,_,_,_],rfl,.cons rfl (.cons rfl (.cons rfl (.cons rfl (.one rL)))),?_⟩,⟨fL⟩⟩
   intro u hu
   simp only [List.mem_cons,List.not_mem_nil,or_false] at hu
   rcases hu with rfl | rfl | rfl | rfl | rfl
   ·rfl
   ·rfl
   ·rfl
   ·rfl
   ·exact Aot rL
  ·cases h
theorem A2l (fuel:Nat) (cs:List Value) (d:DataW H) (ps:List MemPlace) (h:rd en Tryz.prog W fuel 26 cs = some (d,ps)) (hb:Rows.uptoBulk d ≤ 1048576):∃ p:PrM,Rel (G.start W) (prgA p) (.agg cs.toArray) ∧ PrFit p:=by
 cases fuel with
 | zero => cases h
 | succ fuel =>
  simp only [rd,DataW.trod,Tryz.underlying26,Ati] at h
  split at h
  ·rename_i hlen
   rw [Option.map_eq_some_iff] at h
   obtain ⟨xs,h1,h2⟩:=h
   cases h2
   obtain ⟨c0,c1,c2,rfl⟩:∃ c0 c1 c2,cs = [c0,c1,c2]:=by
    rcases cs with _ | ⟨c0,_ | ⟨c1,_ | ⟨c2,_ | ⟨c3,cs⟩⟩⟩⟩ <;> simp at hlen
    exact ⟨_,_,_,rfl⟩
   simp only [List.mapM_cons,List.mapM_nil,Option.bind_eq_bind,Option.bind_eq_some_iff,Option.pure_def,Option.some.injEq,A1y,Atj,A1x,List.drop_zero,List.drop_succ_cons,List.take_succ_cons,List.take_zero] at h1
   obtain ⟨x0,q0,_,⟨x1,q1,_,⟨x2,q2,_,rfl,rfl⟩,rfl⟩,rfl⟩:=h1
   simp only [List.map_cons,List.map_nil,Rows.uptoBulk,Rows.uptoBulkAll] at hb
   obtain ⟨A,rA,lA,fA⟩:=Afb (α:=CoM) Tryz.underlying22 (by rw [Ath]; decide) q0 (by omega) codA CoFit (fun cs x p hr hx => by
    obtain ⟨y,y1,y2⟩:=A3u (fuel - 1) cs x p hr hx
    exact ⟨y,_,y1,by simp [Value.cells],y2⟩)
   obtain ⟨B,rB,lB,fB⟩:=Afb (α:=Dat) Tryz.underlying23 (by rw [Anx]; decide) q1 (by omega) enc Dat.fits (fun cs x p hr hx => by
    obtain ⟨y,y1,y2⟩:=Ayd (fuel - 1) cs x p hr hx
    exact ⟨y,_,y1,by simp [Value.cells],y2⟩)
   obtain ⟨C,rC,lC,fC⟩:=Afb (α:=List UInt8) Tryz.underlying24 (by rw [Azf]; decide) q2 (by omega) strS (fun s => s.length < 2 ^ 62) (fun cs x p hr hx => by
    obtain ⟨S,rfl,rfl⟩:=Ala Tryz.underlying9 hr
    exact ⟨S,.string ⟨⟨S⟩⟩,rfl,rfl,by simp only [Rows.uptoBulk] at hx; omega⟩)
   rw [← Aa9] at rB
   refine ⟨⟨A,B,C⟩,⟨[_,_,_],rfl,.cons rA (.cons rB (.one rC)),?_⟩,⟨⟨lA,fA⟩,⟨lB,fB⟩,lC,fC⟩⟩
   intro u hu
   simp only [List.mem_cons,List.not_mem_nil,or_false] at hu
   rcases hu with rfl | rfl | rfl
   ·exact Aot rA
   ·exact Aot rB
   ·exact Aot rC
  ·cases h
theorem Arf {v:Value} {d:DataW H} {p:List MemPlace} (h:DataW.Trod en Tryz.prog W 0 (fun _ => true) true 26 v d p) (hb:Rows.uptoBulk d ≤ 1048576):∃ x:PrM,Rel (G.start W) (prgA x) v ∧ PrFit x:=by
 obtain ⟨fuel,h⟩:=h
 have hv:v = .agg v.cells:=by
  have hl:v.cells.toList.length = 3:=by
   cases fuel with
   | zero => cases h
   | succ fuel =>
    simp only [DataW.trod,Tryz.underlying26,Ati] at h
    split at h
    ·assumption
    ·cases h
  cases v <;> first | rfl | (simp [Value.cells] at hl)
 obtain ⟨x,h1,h2⟩:=A2l fuel _ d p h hb
 refine ⟨x,?_,h2⟩
 rw [hv]
 simpa using h1
set_option maxRecDepth 100000 in
theorem Arg {v:Value} {d:DataW H} {p:List MemPlace} {base:Nat} (hv:Value.okWide Tryz.prog W .any base 27 v) (h:DataW.Trod en Tryz.prog W 0 (fun _ => true) true 27 v d p) (hb:Rows.uptoBulk d ≤ 1048576):∃ L:List UInt8,Rel (G.start W) (.lst (byts L)) v ∧ L.length < 2 ^ 21:=by
 obtain ⟨fuel,h⟩:=h
 have hv:v.cells.toList = [v]:=by
  cases v with
  | agg cs => simp [Value.okWide,Cell.okWide,Cell.ok,Tryz.underlying27] at hv
  | _ => rfl
 rw [hv] at h
 obtain ⟨L,rL,lL,_⟩:=Afb (α:=UInt8) Tryz.underlying27 (by rw [A3v]; decide) h hb (fun b => .sc (.int .u8 b.toNat)) (fun _ => True) (fun cs x p hr hx => by
  obtain ⟨n,rfl,_,wn⟩:=Ad2 Tryz.underlying5 hr
  have:0 ≤ n ∧ n ≤ 255:=by simpa [Lit.wf,IntKind.min,IntKind.max,IntKind.signed,IntKind.bits] using wn
  refine ⟨UInt8.ofNat n.toNat,.int .u8 n,?_,rfl,trivial⟩
  have e:((UInt8.ofNat n.toNat).toNat:Int) = n:=by
   rw [UInt8.toNat_ofNat']
   omega
  rw [e]
  rfl)
 exact ⟨L,rL,lL⟩
end
end Go.Proofs.YtjgnfadoakonfaaGreat
