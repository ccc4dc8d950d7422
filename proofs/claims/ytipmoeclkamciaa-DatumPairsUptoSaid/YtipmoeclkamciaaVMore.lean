/- More equations by which runs are reckoned. -/
import Derived.Test.YtipmoeclkamciaaVApp
set_option linter.unusedSimpArgs false
set_option linter.unusedVariables false
set_option linter.unusedSectionVars false
namespace Go.V
variable {P : Program} {cfg : Cfg}
section
variable {t : TypeId} {x y : Operand} {a b : Bool}
theorem pureRun_map {α β : Type} (f : α → β) (s : Sem α) : pureRun P (f <$> s) = (pureRun P s).map f := by
  have : f <$> s = s >>= fun a => pure (f a) := rfl
  rw [this, pureRun_bind]
  cases pureRun P s <;> rfl
theorem equal_bool (ht : P.underlying t = some .bool) : pureRun P (Op.equal t (.bool a) (.bool b)) = some (a == b) := by
  show pureRun P (Op.equalIn (9999 + 1) t (.bool a) (.bool b)) = _
  unfold Op.equalIn
  rw [pureRun_bind, pureRun_underlying ht]
  rfl
theorem abin_eqlb (ht : P.underlying t = some .bool) : abin P .eql t x y (.sc (.bool a)) (.sc (.bool b)) = some (.sc (.bool (a == b))) := by
  simp only [abin, plain, eqGuard, binOp]; simp [pureRun_map, equal_bool ht]
theorem abin_neqb (ht : P.underlying t = some .bool) : abin P .neq t x y (.sc (.bool a)) (.sc (.bool b)) = some (.sc (.bool (a != b))) := by
  simp only [abin, plain, eqGuard, binOp]; simp [pureRun_map, equal_bool ht]; cases a <;> cases b <;> rfl
end
attribute [simp] abin_eqlb abin_neqb

theorem wpt_of_wpo {N : Nat} {all : Array Oper} : ∀ (l : List Oper) (s : Sl) (m : Mem) (acc : List (Sl × Mem)) (K : Sl → Mem → Prop), wpo P cfg N all l s m K → wpt P cfg N all l s m acc fun _ s m => K s m
  | [], s, m, acc, K, h => h
  | o :: l, s, m, acc, K, h => by
    simp only [wpo] at h
    simp only [wpt]
    exact wpIf_mono h (fun h => wps_mono h fun v m1 h => wpP_mono h fun s1 h => wpt_of_wpo l s1 m1 _ K h) (fun h => wpP_mono h fun s1 h => wpt_of_wpo l s1 m _ K h)
/-- A region that draws its order, none of whose pairs is to be looked at. -/
theorem go_draw0 {N : Nat} {Q : Ex → Sl → Mem → Prop} {id : Nat} {ops : List Oper} {k : List It} {s : Sl} {m : Mem} (h : drawOk ⟨ops⟩ = true) (h0 : metL ⟨ops⟩ = []) (h2 : go P cfg N Q (.ops ⟨ops⟩ ops :: k) s m) : go P cfg N Q (.code (.region id ⟨ops⟩ true) :: k) s m := by
  refine go_draw_of h ?_
  refine wpt_mono _ _ _ _ _ _ (wpt_of_wpo ops s m [] _ h2) fun a s m h => ⟨by rw [h0]; rfl, h⟩
end Go.V
