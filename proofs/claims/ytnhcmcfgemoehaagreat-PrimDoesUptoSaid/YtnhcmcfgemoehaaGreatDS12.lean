/- For all arguments that are not too great: the law 'PrimDoes' is true, and what is handed in reads as it read. Conditions: none but the given bound of the second form. -/
import Derived.Test.YtnhcmcfgemoehaaGreatDS11
set_option maxHeartbeats 64000000
set_option linter.unusedSimpArgs false
set_option linter.unusedVariables false
set_option linter.unusedSectionVars false
namespace Go.Proofs.YtnhcmcfgemoehaaGreat.primDoes
open Go.V Go.ChangeShapes Go.WideShapes Go.ChangeAt Go.RowKit
set_option maxRecDepth 100000 in
theorem contract (H:Type) (en:TypeId × Value → H) (W:World) (base:Nat) (args:Array Value) (ds gs:List (DataW H)) (before:List MemPlace)
  (hval:∀ (j:Nat) t v,Tryz.f5.params[j]? = some t → args[j]? = some v → Value.okWide Tryz.prog W .any base t v)
  (hW:DataW.Whole en Tryz.prog Tryz.f5.params.toList Rows.primDoesSpec.vars false W args.toList ds gs before) (hk:Rows.uptoSmall H (ds ++ gs) = true) :
  Calls Tryz.prog 5 args W fun e W' => ∃ v,e = .returned v ∧ Rows.primDoesSpec.post en Tryz.prog Tryz.f5 false true false false W args v W':=by
 have hW':=hW
 obtain ⟨p,q,hA0,hV,rfl,hfz,hnd⟩:=hW
 have hA:DataW.TrodAll en Tryz.prog W 0 (fun _ => true) true Tryz.f5.params.toList args.toList ds p:=hA0
 rw [Tryz.params5] at hA hval
 obtain ⟨v0,vs0,d0,ds0,p0,q0,hargs0,rfl,rfl,h0,r0⟩:=trodAll_cons hA
 obtain ⟨v1,vs1,d1,ds1,p1,q1,hargs1,rfl,rfl,h1,r1⟩:=trodAll_cons r0
 obtain ⟨v2,vs2,d2,ds2,p2,q2,hargs2,rfl,rfl,h2,r2⟩:=trodAll_cons r1
 obtain ⟨rfl,rfl,rfl⟩:=trodAll_nil r2
 subst hargs1
 subst hargs2
 obtain rfl:args = #[v0,v1,v2]:=by cases args; simp_all
 obtain ⟨rfl,rfl⟩:=trodVars_none hV
 have hb:Rows.uptoBulkAll [d0,d1,d2] ≤ 1048576:=by
  have:=of_decide_eq_true hk
  simpa using this
 simp only [Rows.uptoBulkAll] at hb
 obtain ⟨x0,rl0,b0⟩:=Art (hval 0 43 v0 rfl rfl) h0 (by omega)
 obtain ⟨x1,rl1,_⟩:=Avb Tryz.underlying3 (hval 1 3 v1 rfl rfl) h1
 obtain ⟨x2,rl2,b2⟩:=Aru (hval 2 63 v2 rfl rfl) h2 (by omega)
 have run:=q5 x0 x2 x1 (Amt b0.1) b2 Mem.empty
 refine (Aq7 Abc (hooksA _ W) Tryz.func5 rfl (by simp [Tryz.f5]) (.cons rl0 (.cons rl1 (.one rl2))) run).mono fun e W' ⟨he,hbl⟩ => ?_
 subst he
 refine ⟨_,rfl,Ase Av4 rfl rfl Tryz.underlying4 (fun t ht => ?_) hW' (fun ds hds => ?_) hbl⟩
 ·rw [Tryz.params5] at ht
  simp only [List.mem_cons,List.not_mem_nil,or_false] at ht
  rcases ht with rfl | rfl | rfl
  ·exact Aqa
  ·exact ⟨by kernel_rfl,of_decide_eq_true (by kernel_rfl)⟩
  ·exact Ap9
 ·rw [Tryz.params5] at hds
  rcases ds with _ | ⟨a,_ | ⟨a,_ | ⟨a,_ | ⟨z,zs⟩⟩⟩⟩ <;> simp at hds
  rfl
set_option maxRecDepth 100000 in
theorem lifted (os:Os) (started:os.Started) (H:Type) (enc:TypeId × Value → H) (F:Stop.Interp) :
  ReturnsInHanded {} Tryz.checked os 5 .any ((Rows.OpenSpec.upto Rows.primDoesSpec).pre6 enc Tryz.prog Tryz.f5 Rows.primDoesUptoRow.domain false) (((Rows.OpenSpec.upto Rows.primDoesSpec).at F).post enc Tryz.prog Tryz.f5 false true false false):=by
 refine returnsInHanded_of_cond (C:=Tryz.checked) (s:=Rows.OpenSpec.upto Rows.primDoesSpec) (k:=Rows.uptoSmall) rfl Avu started (by kernel_rfl) Tryz.func5
  (OpenSpec.witness (enc:=enc) (C:=Tryz.checked) (s:=Rows.OpenSpec.upto Rows.primDoesSpec) (k:=Rows.uptoSmall) rfl false ⟨#[],#[.slice none 0 0,.int .i64 0,.slice none 0 0],[]⟩ 8 (by kernel_rfl) (by kernel_rfl) (by kernel_rfl)
   (x:=([.nil,.lit (.int .i64 0),.nil],[],[])) (by kernel_rfl) rfl (by kernel_rfl)) ?_
 intro W base args ds gs before hval hW _ hk _
 exact contract H enc W base args ds gs before hval hW hk
theorem proved:Rows.PrimDoesUptoSaid :=
 OpenClaim.holds_of_cond 5 Tryz.f5 rfl rfl rfl rfl rfl rfl rfl ⟨rfl,rfl,rfl,rfl,rfl⟩ rfl rfl rfl rfl rfl (by kernel_rfl) Tryz.func5 (by kernel_rfl)
  (of_decide_eq_true (by kernel_rfl)) (by unfold Func.isWrapper; first | (rw [if_pos (by decide +kernel)]; kernel_rfl) | (rw [if_neg (by decide +kernel)]; exact ⟨rfl,rfl⟩))
  (fun os started H enc _ F => lifted os started H enc F)
end Go.Proofs.YtnhcmcfgemoehaaGreat.primDoes
