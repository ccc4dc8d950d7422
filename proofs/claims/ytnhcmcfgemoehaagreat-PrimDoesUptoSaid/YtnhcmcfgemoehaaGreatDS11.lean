/- Part of a proof. -/
import Derived.Test.YtnhcmcfgemoehaaGreatDS10
import Derived.WalkKit
import Derived.ProofKit
import Derived.OpenShut
import Derived.JoinedCond
set_option maxHeartbeats 64000000
set_option linter.unusedSimpArgs false
set_option linter.unusedVariables false
set_option linter.unusedSectionVars false
namespace Go.Proofs.YtnhcmcfgemoehaaGreat
open Go.V
theorem Avu:ownKnob Tryz.prog.godebug = none:=by kernel_rfl
theorem Av4:laidOutB Tryz.prog = true:=by kernel_rfl
theorem Aqa:Tryz.prog.readableRec 43 = true ∧ 43 < Tryz.prog.types.size:=⟨by kernel_rfl,of_decide_eq_true (by kernel_rfl)⟩
section
variable {H:Type} {en:TypeId × Value → H} {W:World}
set_option maxRecDepth 100000 in
theorem Art {v:Value} {d:DataW H} {p:List MemPlace} {base:Nat} (hv:Value.okWide Tryz.prog W .any base 43 v) (h:DataW.Trod en Tryz.prog W 0 (fun _ => true) true 43 v d p) (hb:Rows.uptoBulk d ≤ 1048576):∃ L:List Dat,Rel (G.start W) (.lst (encs L)) v ∧ fitss L ∧ L.length < 2 ^ 21:=by
 obtain ⟨fuel,h⟩:=h
 have hv:v.cells.toList = [v]:=by
  cases v with
  | agg cs => simp [Value.okWide,Cell.okWide,Cell.ok,Tryz.underlying43] at hv
  | _ => rfl
 rw [hv] at h
 exact A01 h hb
set_option maxRecDepth 100000 in
theorem Avb {T:TypeId} {k:IntKind} (hT:Tryz.prog.underlying T = some (.int k)) {v:Value} {d:DataW H} {p:List MemPlace} {base:Nat} (hv:Value.okWide Tryz.prog W .any base T v) (h:DataW.Trod en Tryz.prog W 0 (fun _ => true) true T v d p):∃ n:Int,Rel (G.start W) (.sc (.int k n)) v ∧ (k.min ≤ n ∧ n ≤ k.max):=by
 obtain ⟨fuel,h⟩:=h
 have hv:v.cells.toList = [v]:=by
  cases v with
  | agg cs => simp [Value.okWide,Cell.okWide,Cell.ok,hT] at hv
  | _ => rfl
 rw [hv] at h
 obtain ⟨n,h1,rfl,hw⟩:=Ahw hT h
 cases h1
 exact ⟨n,rfl,by simpa [Lit.wf] using hw⟩
end
theorem Amt:∀ {l:List Dat},fitss l → ∀ d ∈ l,d.fits
 | [],_,d,h => by cases h
 | x :: l,h,d,hd => by
  cases List.mem_cons.1 hd with
  | inl e => subst e; exact h.1
  | inr e => exact Amt h.2 d e
theorem At9:Tryz.prog.cellsOf 51 = 2:=by kernel_rfl
theorem At8:Tryz.prog.cellsOf 68 = 2:=by kernel_rfl
theorem A04:Tryz.prog.cellsOf 66 = 1:=by kernel_rfl
theorem Ap9:Tryz.prog.readableRec 63 = true ∧ 63 < Tryz.prog.types.size:=⟨by kernel_rfl,of_decide_eq_true (by kernel_rfl)⟩
section
variable {H:Type} {en:TypeId × Value → H} {W:World}
theorem A1k (fuel:Nat) (cs:List Value) (d:DataW H) (ps:List MemPlace) (h:rd en Tryz.prog W fuel 51 cs = some (d,ps)):∃ v:Val,Rel (G.start W) (valA v) (.agg cs.toArray):=by
 cases fuel with
 | zero => cases h
 | succ fuel =>
  simp only [rd,DataW.trod,Tryz.underlying51,At9] at h
  split at h
  ·rename_i hlen
   rw [Option.map_eq_some_iff] at h
   obtain ⟨xs,h1,h2⟩:=h
   cases h2
   obtain ⟨c0,c1,rfl⟩:∃ c0 c1,cs = [c0,c1]:=by
    rcases cs with _ | ⟨c0,_ | ⟨c1,_ | ⟨c2,cs⟩⟩⟩ <;> simp at hlen
    exact ⟨_,_,rfl⟩
   simp only [List.mapM_cons,List.mapM_nil,Option.bind_eq_bind,Option.bind_eq_some_iff,Option.pure_def,Option.some.injEq,Apv,Ayu,List.drop_zero,List.drop_succ_cons,List.take_succ_cons,List.take_zero] at h1
   obtain ⟨x0,q0,_,⟨x1,q1,_,rfl,rfl⟩,rfl⟩:=h1
   obtain ⟨K,rK,_,_⟩:=Ahw Tryz.underlying3 (d:=x0.1) (ps:=x0.2) q0
   obtain ⟨N,rN,_,_⟩:=Ahw Tryz.underlying2 (d:=x1.1) (ps:=x1.2) q1
   cases rK; cases rN
   refine ⟨(K,N),?_⟩
   refine ⟨[_,_],rfl,.cons rfl (.one rfl),?_⟩
   intro u hu
   simp only [List.mem_cons,List.not_mem_nil,or_false] at hu
   rcases hu with rfl | rfl
   ·rfl
   ·rfl
  ·cases h
theorem Ayz {fuel:Nat} {v:Value} {d:DataW H} {ps:List MemPlace} (h:rd en Tryz.prog W fuel 66 [v] = some (d,ps)):∃ l:List Val,Rel (G.start W) (.lst (vals l)) v:=by
 obtain ⟨ys,h1,_⟩:=Als (α:=Val) Tryz.underlying66 (by rw [At9]; decide) h valA (fun _ _ => True) (fun cs x p hx hr hl => by
  obtain ⟨y,y1⟩:=A1k (fuel - 1) cs x p hr
  exact ⟨y,_,y1,by simp [Value.cells],trivial⟩)
 exact ⟨ys,h1⟩
theorem A29 (fuel:Nat) (cs:List Value) (d:DataW H) (ps:List MemPlace) (h:rd en Tryz.prog W fuel 68 cs = some (d,ps)):∃ c:Cal,Rel (G.start W) (calA c) (.agg cs.toArray):=by
 cases fuel with
 | zero => cases h
 | succ fuel =>
  simp only [rd,DataW.trod,Tryz.underlying68,At8] at h
  split at h
  ·rename_i hlen
   rw [Option.map_eq_some_iff] at h
   obtain ⟨xs,h1,h2⟩:=h
   cases h2
   obtain ⟨c0,c1,rfl⟩:∃ c0 c1,cs = [c0,c1]:=by
    rcases cs with _ | ⟨c0,_ | ⟨c1,_ | ⟨c2,cs⟩⟩⟩ <;> simp at hlen
    exact ⟨_,_,rfl⟩
   simp only [List.mapM_cons,List.mapM_nil,Option.bind_eq_bind,Option.bind_eq_some_iff,Option.pure_def,Option.some.injEq,Apv,A04,List.drop_zero,List.drop_succ_cons,List.take_succ_cons,List.take_zero] at h1
   obtain ⟨x0,q0,_,⟨x1,q1,_,rfl,rfl⟩,rfl⟩:=h1
   obtain ⟨K,rK,_,_⟩:=Ahw Tryz.underlying3 (d:=x0.1) (ps:=x0.2) q0
   obtain ⟨l,rl⟩:=Ayz (d:=x1.1) (ps:=x1.2) q1
   cases rK
   refine ⟨(K,l),?_⟩
   refine ⟨[_,_],rfl,.cons rfl (.one rl),?_⟩
   intro u hu
   simp only [List.mem_cons,List.not_mem_nil,or_false] at hu
   rcases hu with rfl | rfl
   ·rfl
   ·simp only [Rel] at rl
    obtain ⟨_,_,_,_,rfl,_⟩:=rl
    rfl
  ·cases h
theorem A09 {fuel:Nat} {v:Value} {d:DataW H} {ps:List MemPlace} (h:rd en Tryz.prog W fuel 63 [v] = some (d,ps)) (hb:Rows.uptoBulk d ≤ 1048576):∃ l:List Cal,Rel (G.start W) (.lst (cals l)) v ∧ l.length < 2 ^ 21:=by
 obtain ⟨ys,h1,h2⟩:=Als (α:=Cal) Tryz.underlying63 (by rw [At8]; decide) h calA (fun _ _ => True) (fun cs x p hx hr hl => by
  obtain ⟨y,y1⟩:=A29 (fuel - 1) cs x p hr
  exact ⟨y,_,y1,by simp [Value.cells],trivial⟩)
 refine ⟨ys,h1,?_⟩
 rcases h2 with ⟨_,rfl⟩ | ⟨l,r,rfl,hl,hc⟩
 ·simp
 ·have:=Ad3 l
  simp only [Rows.uptoBulk] at hb
  omega
set_option maxRecDepth 100000 in
theorem Aru {v:Value} {d:DataW H} {p:List MemPlace} {base:Nat} (hv:Value.okWide Tryz.prog W .any base 63 v) (h:DataW.Trod en Tryz.prog W 0 (fun _ => true) true 63 v d p) (hb:Rows.uptoBulk d ≤ 1048576):∃ L:List Cal,Rel (G.start W) (.lst (cals L)) v ∧ L.length < 2 ^ 21:=by
 obtain ⟨fuel,h⟩:=h
 have hv:v.cells.toList = [v]:=by
  cases v with
  | agg cs => simp [Value.okWide,Cell.okWide,Cell.ok,Tryz.underlying63] at hv
  | _ => rfl
 rw [hv] at h
 exact A09 h hb
end
end Go.Proofs.YtnhcmcfgemoehaaGreat
