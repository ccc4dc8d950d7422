import Derived.Test.YtjiijacibpgciaaGreatTDeep
/- Whether variables and rows of a template go together; whether a datum is a template: some answer is given. -/
set_option linter.unusedSimpArgs false
set_option linter.unusedVariables false
set_option linter.unusedSectionVars false
namespace Go.Proofs.YtjiijacibpgciaaGreat
set_option maxRecDepth 4000
open Go.V
attribute [local simp] Nat.add_assoc

set_option maxHeartbeats 4000000 in
theorem t33 (got : List Got) (hgot : gfits got) (hl : got.length < 2 ^ 21) : ∀ (n : Nat) (d : Dat), d.size ≤ n → d.fits → ∀ (rows : Int) (m : Mem), ∃ r, SomeB r ∧ EH Tryz.prog cw (.func 33) [enc d, .lst (encGs got), int rows] m r m
  | 0, d, hs, _ => by cases d; simp [Dat.size] at hs
  | n + 1, d, hs, hf => by
    intro rows m
    have ih := t33 got hgot hl n
    refine eh_ex Tryz.func33 rfl rfl rfl rfl (args1 := [enc d, .lst (encGs got), int rows]) (m1 := m) (by simp [fzvs]) (fun r h => h.bel _) (by simp [Tryz.f33]) (by simp [Tryz.f33]) ?_
    have h34 := t34 got d hgot hl hf
    have hp := plc_in got d
    simp [Tryz.f33, show cw.keepRes 33 = false from rfl, h34.go]
    rcases hp with h | ⟨j, h, hj⟩
    rotate_left
    · obtain ⟨g, hg⟩ : ∃ g, got[j]? = some g := ⟨_, List.getElem?_eq_getElem hj⟩
      have hg' : (encGs got)[j]? = some (encG g) := by rw [encGs_get, hg]; rfl
      have h0 : (0 : Int) ≤ j := by omega
      simp [h, h0, aindexAddr_lst Tryz.underlying26 tsize44 hg' (encG_cells_length g), encG_cells]
      exact ⟨_, rfl⟩
    clear h34
    obtain ⟨K, N, S, M, L, T⟩ := d
    have ft := alone_fits hf
    rw [Dat.fits] at hf
    rw [Dat.size] at hs
    simp [h, enc]
    obtain ⟨_, ⟨its, ok, rfl, hin, hlen⟩, e38⟩ := t38 L ft.l (m.new [int K, int N, .sc (.string ⟨⟨S⟩⟩), .lst (M.map int), .lst (encs L), .lst (encs T)] false)
    refine goH_eh e38 ?_
    simp
    refine go_count 35 its.length (fun i s' m' => Kp m m' ∧ has m' m.next [int K, int N, .sc (.string ⟨⟨S⟩⟩), .lst (M.map int), .lst (encs L), .lst (encs T)]) (by simp) (by have := ft.l; omega) ⟨by simp, ⟨by simp, m.clock + 1, by simp⟩⟩ ?_
    rintro i s m' hi e35 ⟨hkp, ⟨bl, bv, be⟩⟩ hsame hw Q' hn he
    have e1 : s.at 1 = .lst (encGs got) := (hsame 1 (by kernel_rfl)).trans (by simp)
    have e2 : s.at 2 = int rows := (hsame 2 (by kernel_rfl)).trans (by simp)
    have e3 : s.at 3 = .ptr m.next 0 := (hsame 3 (by kernel_rfl)).trans (by simp)
    have e33 : s.at 33 = .lst (encIs its) := (hsame 33 (by kernel_rfl)).trans (by simp)
    have e34 : s.at 34 = int its.length := (hsame 34 (by kernel_rfl)).trans (by simp)
    clear hsame
    simp [e35, e34]
    refine goB_split (fun h => ?_) fun h => ?_
    · have hlt : i < its.length := by simpa using h
      obtain ⟨x, hx⟩ : ∃ x, its[i]? = some x := ⟨_, List.getElem?_eq_getElem hlt⟩
      have hxL := hin x (List.mem_of_getElem? hx)
      have hx' : (encIs its)[i]? = some (encI x) := by rw [encIs_get, hx]; rfl
      have hsz := size_mem hxL
      have hxf := fits_mem hf.2.1 hxL
      have kp2 : ∀ M', Kp m' M' → Kp m M' ∧ has M' m.next [int K, int N, .sc (.string ⟨⟨S⟩⟩), .lst (M.map int), .lst (encs L), .lst (encs T)] := fun M' k => ⟨hkp.trans k, (show has m' _ _ from ⟨bl, bv, be⟩).kp k⟩
      obtain ⟨f, hf33⟩ := someB_fun (ih x.1 (by omega) hxf rows)
      obtain ⟨f', hf33'⟩ := someB_fun (ih x.1 (by omega) hxf (IntKind.i64.wrap (rows + 1)))
      obtain ⟨g, hg50⟩ := someI_fun (t50 x.1 got hxf hgot hl)
      cases hp : x.2 with
      | true =>
        simp [e35, e33, e1, e2, aindexAddr_lst Tryz.underlying73 tsize77 hx' (encI_cells_length x), hp, (hg50 _).go]
        refine goB_split (fun h => ?_) fun h => ?_
        · simp
          refine he _ _ _ (by simp) ?_
          simp
          exact ⟨⟨_, rfl⟩, (kp2 _ (by simp)).1⟩
        · simp [e1, e2, (hf33' _).go]
          refine goB_split (fun h => ?_) fun h => ?_
          · simp
            refine he _ _ _ (by simp) ?_
            simp
            exact ⟨⟨_, rfl⟩, (kp2 _ (by simp)).1⟩
          · simp [e35, hw]
            exact hn _ _ hlt (by simp) (kp2 _ (by simp))
      | false =>
        simp [e35, e33, e1, e2, aindexAddr_lst Tryz.underlying73 tsize77 hx' (encI_cells_length x), hp, (hf33 _).go]
        refine goB_split (fun h => ?_) fun h => ?_
        · simp
          refine he _ _ _ (by simp) ?_
          simp
          exact ⟨⟨_, rfl⟩, (kp2 _ (by simp)).1⟩
        · simp [e35, hw]
          exact hn _ _ hlt (by simp) (kp2 _ (by simp))
    · have hge : i = its.length := by have := of_decide_eq_false h; omega
      subst hge
      simp
      refine he _ _ _ (by simp) ?_
      clear hn he
      simp [e3, be]
      refine go_count 60 T.length (fun i s' m' => Kp m m') (by simp) (by have := ft.t; omega) hkp ?_
      clear hkp
      rintro i s' m2 hi e60 hkp hsame hw Q' hn he
      have d1 : s'.at 1 = .lst (encGs got) := (hsame 1 (by kernel_rfl)).trans (by simp [e1])
      have d2 : s'.at 2 = int rows := (hsame 2 (by kernel_rfl)).trans (by simp [e2])
      have d58 : s'.at 58 = .lst (encs T) := (hsame 58 (by kernel_rfl)).trans (by simp)
      have d59 : s'.at 59 = int T.length := (hsame 59 (by kernel_rfl)).trans (by simp)
      clear hsame
      simp [e60, d59]
      refine goB_split (fun h => ?_) fun h => ?_
      · have hlt : i < T.length := by simpa using h
        obtain ⟨x, hx⟩ : ∃ x, T[i]? = some x := ⟨_, List.getElem?_eq_getElem hlt⟩
        have hxT := List.mem_of_getElem? hx
        have hx' : (encs T)[i]? = some (enc x) := by rw [encs_get, hx]; rfl
        have hsz := size_mem hxT
        obtain ⟨f, hf33⟩ := someB_fun (ih x (by omega) (fits_mem hf.2.2 hxT) rows)
        have kp2 : ∀ M', Kp m2 M' → Kp m M' := fun M' k => hkp.trans k
        simp [e60, d58, d1, d2, aindexAddr_lst Tryz.underlying23 tsize25 hx' (enc_cells_length x), (hf33 _).go]
        refine goB_split (fun h => ?_) fun h => ?_
        · simp
          refine he _ _ _ (by simp) ?_
          simp
          exact ⟨⟨_, rfl⟩, kp2 _ (by simp)⟩
        · simp [e60, hw]
          exact hn _ _ hlt (by simp) (kp2 _ (by simp))
      · simp
        refine he _ _ _ (by simp) ?_
        simp
        exact ⟨⟨_, rfl⟩, hkp⟩

/-- Whether it is a template: some error's number; if it is none, the datum may be. -/
theorem t18 (d : Dat) (got : List Got) (hd : d.fits) (hgot : gfits got) (hl : got.length < 2 ^ 21) (m : Mem) : ∃ r, (∃ e : Int, r = int e ∧ (e = 0 → chk d = 0)) ∧ EH Tryz.prog cw (.func 18) [enc d, .lst (encGs got)] m r m := by
  refine eh_ex Tryz.func18 rfl rfl rfl rfl (args1 := [enc d, .lst (encGs got)]) (m1 := m) (by simp [fzvs]) (by rintro r ⟨e, rfl, _⟩; rfl) (by simp [Tryz.f18]) (by simp [Tryz.f18]) ?_
  obtain ⟨f, hf⟩ := someB_fun (t32 false d.size d (Nat.le_refl _) hd)
  obtain ⟨g, hg⟩ := someB_fun (t33 got hgot hl d.size d (Nat.le_refl _) hd 0)
  simp [Tryz.f18, show cw.keepRes 18 = false from rfl, (cw_gives (g14 d hd)).go]
  by_cases h0 : chk d = 0
  · have fin : ∀ e : Int, (∃ e', int e = int e' ∧ (e' = 0 → chk d = 0)) := fun e => ⟨e, rfl, fun _ => h0⟩
    cases hdd : dotsB d with
    | true =>
      simp [h0, (t29 d).go, hdd, undefV, undef]
    | false =>
      cases hfm : f (m.new (enc d).cells false) with
      | false => simp [h0, (t29 d).go, hdd, (hf _).go, hfm, undefV, undef]
      | true =>
        cases hgm : g (m.new (enc d).cells false) with
        | false => simp [h0, (t29 d).go, hdd, (hf _).go, hfm, (hg _).go, hgm]
        | true => simp [h0, (t29 d).go, hdd, (hf _).go, hfm, (hg _).go, hgm]
  · simp [h0]
end Go.Proofs.YtjiijacibpgciaaGreat
