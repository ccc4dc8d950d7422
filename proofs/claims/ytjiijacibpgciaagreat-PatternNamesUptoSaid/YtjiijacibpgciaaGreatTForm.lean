import Derived.Test.YtjiijacibpgciaaGreatTItems
/- Whether all ellipses stand where they may: some answer is given. -/
set_option linter.unusedSimpArgs false
set_option linter.unusedVariables false
set_option linter.unusedSectionVars false
namespace Go.Proofs.YtjiijacibpgciaaGreat
set_option maxRecDepth 4000
open Go.V
attribute [local simp] Nat.add_assoc

/-- A call gives some truth, and leaves memory as it was. -/
def SomeB (v : AV) : Prop := ∃ b : Bool, v = .sc (.bool b)
theorem SomeB.bel {v : AV} (h : SomeB v) (n : Nat) : v.bel n = true := by obtain ⟨b, rfl⟩ := h; rfl
theorem someB_fun {fn : Fn} {args : List AV} (h : ∀ m : Mem, ∃ r, SomeB r ∧ EH Tryz.prog cw fn args m r m) : ∃ f : Mem → Bool, ∀ m, EH Tryz.prog cw fn args m (.sc (.bool (f m))) m := by
  have h2 : ∀ m, ∃ b : Bool, EH Tryz.prog cw fn args m (.sc (.bool b)) m := fun m => by
    obtain ⟨_, ⟨b, rfl⟩, e⟩ := h m
    exact ⟨b, e⟩
  exact ⟨fun m => Classical.choose (h2 m), fun m => Classical.choose_spec (h2 m)⟩
theorem sizes_get {L : List Dat} {x : Dat} (h : x ∈ L) : x.size ≤ sizes L := size_mem h
set_option maxHeartbeats 4000000 in
theorem t32 (pat : Bool) : ∀ (n : Nat) (d : Dat), d.size ≤ n → d.fits → ∀ m : Mem, ∃ r, SomeB r ∧ EH Tryz.prog cw (.func 32) [enc d, .sc (.bool pat)] m r m
  | 0, d, hs, _ => by cases d; simp [Dat.size] at hs
  | n + 1, d, hs, hf => by
    intro m
    have ih := t32 pat n
    refine eh_ex Tryz.func32 rfl rfl rfl rfl (args1 := [enc d, .sc (.bool pat)]) (m1 := m) (by simp) (fun r h => h.bel _) (by simp [Tryz.f32]) (by simp [Tryz.f32]) ?_
    obtain ⟨K, N, S, M, L, T⟩ := d
    have ft := alone_fits hf
    rw [Dat.fits] at hf
    rw [Dat.size] at hs
    simp [Tryz.f32, show cw.keepRes 32 = false from rfl, enc]
    obtain ⟨_, ⟨its, ok, rfl, hin, hlen⟩, e38⟩ := t38 L ft.l (m.new [int K, int N, .sc (.string ⟨⟨S⟩⟩), .lst (M.map int), .lst (encs L), .lst (encs T)] false)
    refine goH_eh e38 ?_
    simp
    refine go_count 20 its.length (fun i s' m' => Kp m m' ∧ has m' m.next [int K, int N, .sc (.string ⟨⟨S⟩⟩), .lst (M.map int), .lst (encs L), .lst (encs T)] ∧ (∃ b : Bool, s'.at 6 = .sc (.bool b)) ∧ ∃ k : Int, s'.at 7 = int k ∧ 0 ≤ k ∧ k ≤ i) (by simp) (by have := ft.l; omega) ⟨by simp, ⟨by simp, m.clock + 1, by simp⟩, ⟨ok, by simp⟩, 0, by simp, by omega, by omega⟩ ?_
    rintro i s m' hi e20 ⟨hkp, ⟨bl, bv, be⟩, ⟨b, e6⟩, k, e7, hk0, hk1⟩ hsame hw Q' hn he
    have e1 : s.at 1 = .sc (.bool pat) := (hsame 1 (by kernel_rfl)).trans (by simp)
    have e2 : s.at 2 = .ptr m.next 0 := (hsame 2 (by kernel_rfl)).trans (by simp)
    have e18 : s.at 18 = .lst (encIs its) := (hsame 18 (by kernel_rfl)).trans (by simp)
    have e19 : s.at 19 = int its.length := (hsame 19 (by kernel_rfl)).trans (by simp)
    clear hsame
    simp [e20, e19]
    refine goB_split (fun h => ?_) fun h => ?_
    · have hlt : i < its.length := by simpa using h
      obtain ⟨x, hx⟩ : ∃ x, its[i]? = some x := ⟨_, List.getElem?_eq_getElem hlt⟩
      have hxL := hin x (List.mem_of_getElem? hx)
      have hx' : (encIs its)[i]? = some (encI x) := by rw [encIs_get, hx]; rfl
      have wk : IntKind.i64.wrap (k + 1) = k + 1 := IntWalk.i64_in _ (by have := ft.l; omega)
      have hsz := size_mem hxL
      have n1 : m.next ≠ m'.next := by omega
      simp [e20, e18, aindexAddr_lst Tryz.underlying73 tsize77 hx' (encI_cells_length x)]
      obtain ⟨f, hf32⟩ := someB_fun (ih x.1 (by omega) (fits_mem hf.2.1 hxL))
      have kp2 : ∀ M', Kp m' M' → Kp m M' ∧ has M' m.next [int K, int N, .sc (.string ⟨⟨S⟩⟩), .lst (M.map int), .lst (encs L), .lst (encs T)] := fun M' k => ⟨hkp.trans k, (show has m' _ _ from ⟨bl, bv, be⟩).kp k⟩
      cases hp : x.2 with
      | true =>
        cases b
        all_goals
          simp [e7, wk, e6, e1, (hf32 _).go, e20, hw]
          exact hn _ _ hlt (by simp) ⟨(kp2 _ (by simp)).1, (kp2 _ (by simp)).2, ⟨_, by simp <;> rfl⟩, k + 1, by simp, by omega, by omega⟩
      | false =>
        cases b
        all_goals
          simp [e6, e1, (hf32 _).go, e20, hw]
          exact hn _ _ hlt (by simp) ⟨(kp2 _ (by simp)).1, (kp2 _ (by simp)).2, ⟨_, by simp <;> rfl⟩, k, by simp [e7], by omega, by omega⟩
    · have hge : i = its.length := by have := of_decide_eq_false h; omega
      subst hge
      simp
      refine he _ _ _ (by simp) ?_
      clear hn he
      have out : ∀ v m2, v = AV.sc (.bool false) → Kp m m2 → SomeB v ∧ Kp m m2 := fun v m2 h k => ⟨⟨_, h⟩, k⟩
      cases b
      · simp [e6, undefV, undef]
        exact out _ _ rfl hkp
      have L1 : 1 < k ∨ (¬ 1 < k ∧ 0 < k) ∨ ¬ 0 < k := by omega
      have step : pat = false ∨ (pat = true ∧ 1 < k) ∨ (pat = true ∧ ¬ 1 < k ∧ 0 < k ∧ K = 7) ∨ (pat = true ∧ ¬ 1 < k ∧ 0 < k ∧ ¬ K = 7) ∨ (pat = true ∧ ¬ 1 < k ∧ ¬ 0 < k) := by
        cases pat
        · exact .inl rfl
        · by_cases h7 : K = 7 <;> rcases L1 with h1 | h1 | h1 <;> simp_all <;> omega
      rcases step with rfl | ⟨rfl, k1⟩ | ⟨rfl, k1, k0, k7⟩ | ⟨rfl, k1, k0, k7⟩ | ⟨rfl, k1, k0⟩
      rotate_left
      · simp [e6, e1, e7, k1, undefV, undef]
        exact out _ _ rfl hkp
      · simp [e6, e1, e7, k1, k0, e2, be, k7, undefV, undef]
        exact out _ _ rfl hkp
      all_goals first
        | simp [e6, e1, e7, k1, k0, e2, be, k7, undefV, undef]
        | simp [e6, e1, e7, k1, k0, e2, be, undefV, undef]
        | simp [e6, e1, e2, be, undefV, undef]
      all_goals
        refine go_count 57 T.length (fun i s' m' => Kp m m') (by simp) (by have := ft.t; omega) hkp ?_
        clear hkp
        rintro i s' m2 hi e57 hkp hsame hw Q' hn he
        have d1 : s'.at 1 = _ := (hsame 1 (by kernel_rfl)).trans (by simp [e1]; rfl)
        have d55 : s'.at 55 = .lst (encs T) := (hsame 55 (by kernel_rfl)).trans (by simp)
        have d56 : s'.at 56 = int T.length := (hsame 56 (by kernel_rfl)).trans (by simp)
        clear hsame
        simp [e57, d56]
        refine goB_split (fun h => ?_) fun h => ?_
      all_goals first
        | (have hge : i = T.length := by have := of_decide_eq_false h; omega
           simp
           refine he _ _ _ (by simp) ?_
           simp
           exact ⟨⟨_, rfl⟩, hkp⟩)
        | (have hlt : i < T.length := by simpa using h
           obtain ⟨x, hx⟩ : ∃ x, T[i]? = some x := ⟨_, List.getElem?_eq_getElem hlt⟩
           have hxT := List.mem_of_getElem? hx
           have hx' : (encs T)[i]? = some (enc x) := by rw [encs_get, hx]; rfl
           have hsz := size_mem hxT
           obtain ⟨f, hf32⟩ := someB_fun (ih x (by omega) (fits_mem hf.2.2 hxT))
           have kp2 : ∀ M', Kp m2 M' → Kp m M' := fun M' k => hkp.trans k
           cases hd : dotsB x with
           | true =>
             simp [e57, d55, aindexAddr_lst Tryz.underlying23 tsize25 hx' (enc_cells_length x), (t29 x).go, hd, undefV, undef]
             refine he _ _ _ (by simp) ?_
             simp
             exact ⟨⟨_, rfl⟩, kp2 _ (by simp)⟩
           | false =>
             simp [e57, d55, d1, aindexAddr_lst Tryz.underlying23 tsize25 hx' (enc_cells_length x), (t29 x).go, hd, (hf32 _).go]
             refine goB_split (fun h => ?_) fun h => ?_
             · simp
               refine he _ _ _ (by simp) ?_
               simp
               exact ⟨⟨_, rfl⟩, kp2 _ (by simp)⟩
             · simp [e57, hw]
               exact hn _ _ hlt (by simp) (kp2 _ (by simp)))
end Go.Proofs.YtjiijacibpgciaaGreat
