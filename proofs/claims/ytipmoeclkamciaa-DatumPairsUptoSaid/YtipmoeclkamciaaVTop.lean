/- From a run of the abstract interpreter to what a row asks for. -/
import Derived.Test.YtipmoeclkamciaaVApp
import Derived.Carry
import Derived.ChangeCalls
import Derived.OpenShut
import Derived.JoinedCond
set_option linter.unusedSimpArgs false
set_option linter.unusedVariables false
set_option linter.unusedSectionVars false
namespace Go.V
open Go.RowKit
variable {P : Program} {cfg : Cfg}

/-- The ghost at a call's beginning: what lies there never changes. -/
def G.start (W : World) : G := ⟨0, fun _ => (0, 0), fun _ => 0, fun _ => 0, fun b o => W.cell? ⟨b, o, none⟩⟩

theorem WR.start (W : World) : WR W.heap.size W (G.start W) Mem.empty W :=
  ⟨.refl _ _, Nat.le_refl _, rfl, fun id o h => (by cases h), fun id cs f ver h => (by cases h), fun i j hi => (by cases hi), fun b o v h => h⟩

theorem VI_empty : VI Mem.empty := fun id cs f v h => by cases h

/-- A run that answers true. -/
theorem calls_true {f : FuncId} {fn : Func} {c : Code} {W : World} {args : Array Value} {as : List AV} {m' : Mem} (hP : P.follows .mixedOrders = true) (hk : Hooks P W.heap.size W cfg) (hf : P.funcs[f]? = some fn) (hb : fn.body = some c) (hn : fn.name ≠ "runtime.NumGoroutine")
    (hr : Rels (G.start W) as args.toList) (he : EH P cfg (.func f) as Mem.empty (.sc (.bool true)) m') : Calls P f args W fun e W' => e = .returned (.bool true) ∧ Below W.heap.size W W' := by
  obtain ⟨n, hn'⟩ := he.one
  have h1 := (afn_sound hP hk n).func f _ _ _ _ hn' VI_empty (G.start W) W args.toList hr (.start W)
  rcases h1 with ⟨h2, h3⟩ | ⟨v', g', h2, h3⟩
  · have e : args.toList.toArray = args := by simp
    rw [e] at h3
    refine h3.mono fun e w' ⟨v', g', h4, _, h6, h7⟩ => ?_
    simp only [Rel] at h6
    subst h6
    exact ⟨h4, h7.below⟩
  · have := run_callFunc_enter (P := P) (args := args.toList.toArray) (w := W) hf hb hn
    rw [h2] at this
    cases this

theorem Below.kept {W W' : World} (h : Below W.heap.size W W') (may : MemPlace → Prop) : W.keptBut W' may := by
  refine ⟨h.os, h.output, fun i hi => ?_⟩
  rw [h.block i hi]
  cases W.heap[i]? with
  | none => trivial
  | some o => cases o with
    | cells c t fr => exact ⟨rfl, rfl, rfl, fun _ _ => rfl⟩
    | map es clock => exact .inr ⟨rfl, rfl⟩
    | _ => rfl

/-- Each argument reads as it read. -/
theorem trodAll_below {H : Type} {enc : TypeId × Value → H} (hl : laidOutB P = true) {W W' : World} (hb : Below W.heap.size W W') : ∀ (ts : List TypeId), (∀ t ∈ ts, P.readableRec t = true ∧ t < P.types.size) → ∀ (vs : List Value) (ds : List (DataW H)) (ps : List MemPlace),
    DataW.TrodAll enc P W 0 (fun _ => true) true ts vs ds ps → (∀ x ∈ ps, x.block < W.heap.size) → DataW.TrodAll enc P W' 0 (fun b => decide (b < W.heap.size)) true ts vs ds ps
  | [], ht, [], [], ps, h, hp => h
  | t :: ts, ht, v :: vs, d :: ds, ps, h, hp => by
    obtain ⟨p, q, h1, h2, rfl⟩ := h
    have := ht t (by simp)
    exact ⟨p, q, Below.trod hl this.1 this.2 h1 hb fun x hx => hp x (by simp [hx]), trodAll_below hl hb ts (fun t h => ht t (by simp [h])) vs ds q h2 fun x hx => hp x (by simp [hx]), rfl⟩
  | [], ht, _ :: _, _, ps, h, hp => h.elim
  | [], ht, [], _ :: _, ps, h, hp => h.elim
  | _ :: _, ht, [], _, ps, h, hp => h.elim
  | _ :: _, ht, _ :: _, [], ps, h, hp => h.elim

theorem post_true {H : Type} {enc : TypeId × Value → H} {f : Func} {s : ChangeSpec} {W W' : World} {args : Array Value} {ds gs : List (DataW H)} {before : List MemPlace}
    (hl : laidOutB P = true) (hv : s.vars = []) (hres : f.resultTypes = #[4]) (h4 : P.underlying 4 = some .bool) (hp : ∀ t ∈ f.params.toList, P.readableRec t = true ∧ t < P.types.size)
    (hW : DataW.Whole enc P f.params.toList s.vars false W args.toList ds gs before) (hs : ∀ ds : List (DataW H), ds.length = f.params.size → s.fn H (ds ++ []) = { results := [.lit (.bool true)], args := ds }) (hb : Below W.heap.size W W') :
    s.post enc P f false true false false W args (.bool true) W' := by
  have hW' := hW
  obtain ⟨p, q, h1, h2, rfl, h5, _⟩ := hW
  have hlen := (trodAll_length h1).2
  rw [hv] at h2
  obtain ⟨rfl, rfl⟩ := ChangeShapes.trodVars_none h2
  have e := hs ds (by rw [hlen]; simp)
  have lt : ∀ x ∈ p, x.block < W.heap.size := fun x hx => hW'.lt x (by simp [hx])
  refine ⟨ds, [], p ++ [], [], p, [], hW', ?_, ?_, ?_, Below.kept hb _, fun h => (by cases h)⟩
  · rw [e, hres]
    exact ChangeShapes.trodAll_mk1 ⟨1, by simp [DataW.trod, h4, Value.cells]⟩
  · rw [e]; exact trodAll_below hl hb _ hp _ _ _ h1 lt
  · rw [e, hv]; rfl
end Go.V
