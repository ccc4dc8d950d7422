import Derived.Test.YtjiijacibpgciaaGreatTBuild
/- Whether there is so little that it may be gone through; the symbols of what is got. -/
set_option linter.unusedSimpArgs false
set_option linter.unusedVariables false
set_option linter.unusedSectionVars false
namespace Go.Proofs.YtjiijacibpgciaaGreat
set_option maxRecDepth 4000
open Go.V
attribute [local simp] Nat.add_assoc

set_option maxHeartbeats 4000000 in
theorem t5 (l : List Dat) (hl : l.length < 2 ^ 21) (hf : fitss l) (m : Mem) : ∃ r, SomeB r ∧ EH Tryz.prog cw (.func 5) [.lst (encs l)] m r m := by
  refine eh_ex Tryz.func5 rfl rfl rfl rfl (args1 := [.lst (encs l)]) (m1 := m) (by simp) (fun r h => h.bel _) (by simp [Tryz.f5]) (by simp [Tryz.f5]) ?_
  simp [Tryz.f5, show cw.keepRes 5 = false from rfl]
  by_cases h40 : 40 < (l.length : Int)
  · simp [h40]
    exact ⟨_, rfl⟩
  simp [h40]
  refine go_count 10 l.length (fun i s m' => Kp m m') (by simp) (by omega) (.refl _) ?_
  rintro i s m' hi e10 hkp hsame hw Q' hn he
  have e8 : s.at 8 = .lst (encs l) := (hsame 8 (by kernel_rfl)).trans (by simp)
  have e9 : s.at 9 = int l.length := (hsame 9 (by kernel_rfl)).trans (by simp)
  clear hsame
  simp [e10, e9]
  refine goB_split (fun h => ?_) fun h => ?_
  · have hlt : i < l.length := by simpa using h
    obtain ⟨x, hx⟩ : ∃ x, l[i]? = some x := ⟨_, List.getElem?_eq_getElem hlt⟩
    have hxl := List.mem_of_getElem? hx
    have hx' : (encs l)[i]? = some (enc x) := by rw [encs_get, hx]; rfl
    have hix := aindexAddr_lst (P := Tryz.prog) (q := .i64) Tryz.underlying23 tsize25 hx' (enc_cells_length x)
    have h34 := cw_gives (g34 x (fits_mem hf hxl))
    have kp2 : ∀ M, Kp m' M → Kp m M := fun M k => hkp.trans k
    obtain ⟨K, N, S, M, L, T⟩ := x
    simp only [enc] at h34 hix
    simp [e10, e8, hix, enc]
    by_cases h1 : (5000 : Int) < S.length
    · simp [h1, undefV, undef]
      refine he _ _ _ (by simp) ?_
      simp
      exact ⟨⟨_, rfl⟩, kp2 _ (by simp)⟩
    by_cases h2 : (1000 : Int) < M.length
    · simp [h1, h2, undefV, undef]
      refine he _ _ _ (by simp) ?_
      simp
      exact ⟨⟨_, rfl⟩, kp2 _ (by simp)⟩
    by_cases h3 : (300 : Int) < L.length
    · simp [h1, h2, h3, undefV, undef]
      refine he _ _ _ (by simp) ?_
      simp
      exact ⟨⟨_, rfl⟩, kp2 _ (by simp)⟩
    by_cases h4 : (300 : Int) < T.length
    · simp [h1, h2, h3, h4, undefV, undef]
      refine he _ _ _ (by simp) ?_
      simp
      exact ⟨⟨_, rfl⟩, kp2 _ (by simp)⟩
    simp [h1, h2, h3, h4, h34.go]
    by_cases h5 : 300 < siz (.mk K N S M L T)
    · simp [h5]
      refine he _ _ _ (by simp) ?_
      simp
      exact ⟨⟨_, rfl⟩, kp2 _ (by simp)⟩
    · simp [h5, e10, hw]
      exact hn _ _ hlt (by simp) (kp2 _ (by simp))
  · simp
    refine he _ _ _ (by simp) ?_
    simp
    exact ⟨⟨_, rfl⟩, hkp⟩

mutual
/-- No list within it is long. -/
def short : Got → Prop
  | .mk _ _ _ L => L.length ≤ 30 ∧ shorts L
def shorts : List Got → Prop
  | [] => True
  | g :: l => short g ∧ shorts l
end
theorem shorts_of : ∀ {l : List Got}, (∀ g ∈ l, short g) → shorts l
  | [], _ => by simp [shorts]
  | x :: l, h => by rw [shorts]; exact ⟨h x (by simp), shorts_of fun g hg => h g (by simp [hg])⟩
theorem shorts_mem : ∀ {l : List Got}, shorts l → ∀ {g : Got}, g ∈ l → short g
  | x :: l, h, g, hg => by
    rw [shorts] at h
    rcases List.mem_cons.1 hg with rfl | hg
    · exact h.1
    · exact shorts_mem h.2 hg
/-- What is told of 'few'. -/
def FewR (l : List Got) (v : AV) : Prop := ∃ b : Bool, v = .sc (.bool b) ∧ (b = true → l.length ≤ 30 ∧ shorts l)
set_option maxHeartbeats 4000000 in
theorem t6 : ∀ (n : Nat) (l : List Got), gsizes l ≤ n → l.length < 2 ^ 21 → gfits l → ∀ (left : Int) (m : Mem), ∃ r, FewR l r ∧ EH Tryz.prog cw (.func 6) [.lst (encGs l), int left] m r m := by
  intro n
  induction n with
  | zero =>
    intro l hs hl hf left m
    cases l with
    | cons g l => cases g; simp [gsizes, Got.size] at hs
    | nil =>
    refine eh_ex Tryz.func6 rfl rfl rfl rfl (args1 := [.lst (encGs []), int left]) (m1 := m) (by simp [fzvs]) (by rintro r ⟨b, rfl, _⟩; rfl) (by simp [Tryz.f6]) (by simp [Tryz.f6]) ?_
    simp [Tryz.f6, show cw.keepRes 6 = false from rfl]
    by_cases h1 : left < 0
    · simp [h1]
      exact ⟨false, rfl, by simp⟩
    simp [h1]
    refine go_count 16 0 (fun i s m' => Kp m m') (by simp) (by omega) (.refl _) ?_
    rintro i s m' hi e16 hkp hsame hw Q' hn he
    obtain rfl : i = 0 := by omega
    have e15 : s.at 15 = int 0 := (hsame 15 (by kernel_rfl)).trans (by simp)
    clear hsame
    simp [e16, e15]
    refine he _ _ _ (by simp) ?_
    simp
    exact ⟨⟨true, rfl, fun _ => ⟨by simp, trivial⟩⟩, hkp⟩
  | succ n ih =>
    intro l hs hl hf left m
    refine eh_ex Tryz.func6 rfl rfl rfl rfl (args1 := [.lst (encGs l), int left]) (m1 := m) (by simp [fzvs]) (by rintro r ⟨b, rfl, _⟩; rfl) (by simp [Tryz.f6]) (by simp [Tryz.f6]) ?_
    simp [Tryz.f6, show cw.keepRes 6 = false from rfl]
    have out : ∀ M, Kp m M → FewR l (.sc (.bool false)) ∧ Kp m M := fun M k => ⟨⟨false, rfl, by simp⟩, k⟩
    by_cases h30 : 30 < (l.length : Int)
    · simp [h30, undefV, undef]
      exact ⟨false, rfl, by simp⟩
    by_cases h1 : left < 0
    · simp [h30, h1]
      exact ⟨false, rfl, by simp⟩
    simp [h30, h1]
    refine go_count 16 l.length (fun i s m' => Kp m m' ∧ ∀ j g, j < i → l[j]? = some g → short g) (by simp) (by omega) ⟨.refl _, fun _ _ h => by omega⟩ ?_
    rintro i s m' hi e16 ⟨hkp, hall⟩ hsame hw Q' hn he
    have e1 : s.at 1 = int left := (hsame 1 (by kernel_rfl)).trans (by simp)
    have e14 : s.at 14 = .lst (encGs l) := (hsame 14 (by kernel_rfl)).trans (by simp)
    have e15 : s.at 15 = int l.length := (hsame 15 (by kernel_rfl)).trans (by simp)
    clear hsame
    simp [e16, e15]
    refine goB_split (fun h => ?_) fun h => ?_
    · have hlt : i < l.length := by simpa using h
      obtain ⟨g, hg⟩ : ∃ g, l[i]? = some g := ⟨_, List.getElem?_eq_getElem hlt⟩
      have hgl := List.mem_of_getElem? hg
      have hg' : (encGs l)[i]? = some (encG g) := by rw [encGs_get, hg]; rfl
      have hgf := Got.fits_i (gfits_mem hf hgl)
      have hsz := gsize_mem hgl
      have hgs : gsizes g.subs ≤ n := by cases g; simp only [Got.size, Got.subs] at hsz ⊢; omega
      simp [e16, e14, aindexAddr_lst Tryz.underlying26 tsize44 hg' (encG_cells_length g), encG_cells, abuildSlice, zeros, fillAt]
      have hz12 : List.drop 12 ((enc g.id).cells ++ List.drop 6 (zeroCells ++ zeroCells)) = [] := List.drop_eq_nil_of_le (by simp)
      rw [hz12, List.append_nil]
      obtain ⟨M0, hM0⟩ : ∃ M0, M0 = (m'.new [AV.sc (Value.int IntKind.i64 0), AV.sc (Value.int IntKind.i64 0), AV.sc (Value.string ⟨⟨[]⟩⟩), AV.emp 0, AV.emp 0, AV.emp 0, AV.sc (Value.int IntKind.i64 0), AV.sc (Value.int IntKind.i64 0), AV.sc (Value.int IntKind.i64 0), AV.sc (Value.string ⟨⟨[]⟩⟩), AV.emp 0, AV.emp 0, AV.emp 0, AV.emp 0] false).set m'.next (gcs g.id g.deep g.dat (.lst (encGs g.subs))) := ⟨_, rfl⟩
      have k0 : Kp m' M0 := by rw [hM0]; simp
      have nM0 : M0.next = m'.next + 1 := by rw [hM0]; simp
      have g0 : M0.get m'.next = some (.cells (gcs g.id g.deep g.dat (.lst (encGs g.subs))) false (m'.clock + 2)) := by rw [hM0]; simp
      rw [← hM0, ← nM0]
      have hz := fz1_row (m := M0.new ((enc g.id).cells ++ (enc g.dat).cells) false) (id := M0.next) (k := 6) (ag := true) (cap := some 2) (ys := encs [g.id, g.dat]) (v := M0.clock + 1) (f := false) rfl (by simp [encs, flat_cons, flat_nil]) (encs_row _) (okAll_encs _)
      have hz0 : fzvs (M0.new ((enc g.id).cells ++ (enc g.dat).cells) false) [.sl M0.next 0 2 6 true (some 2)] = ([.lst (encs [g.id, g.dat])], (M0.new ((enc g.id).cells ++ (enc g.dat).cells) false).mark M0.next (flat (encs [g.id, g.dat])) (M0.clock + 1)) := by
        simp [encs] at hz
        simp [fzvs, fzv, encs, hz]
      obtain ⟨_, ⟨b, rfl⟩, e5⟩ := t5 [g.id, g.dat] (by simp) (by simp [fitss, hgf]) ((M0.new ((enc g.id).cells ++ (enc g.dat).cells) false).mark M0.next (flat (encs [g.id, g.dat])) (M0.clock + 1))
      refine goH_eh (eh_fz Tryz.func5 rfl rfl rfl hz0 (by simp [fzvs]) e5) ?_
      have nm : m'.next ≠ M0.next := by omega
      cases b with
      | false =>
        simp [undefV, undef]
        refine he _ _ _ (by simp) ?_
        simp
        exact out _ (hkp.trans (k0.trans (by simp)))
      | true =>
        simp [g0, nm, e1]
        obtain ⟨_, ⟨b2, rfl, hb2⟩, e6⟩ := ih g.subs hgs hgf.2.2.2.1 hgf.2.2.2.2 (IntKind.i64.wrap (left - 1)) ((M0.new ((enc g.id).cells ++ (enc g.dat).cells) false).mark M0.next (flat (encs [g.id, g.dat])) (M0.clock + 1))
        refine goH_eh e6 ?_
        cases b2 with
        | false =>
          simp
          refine he _ _ _ (by simp) ?_
          simp
          exact out _ (hkp.trans (k0.trans (by simp)))
        | true =>
          simp [e16, hw]
          refine hn _ _ hlt (by simp) ⟨hkp.trans (k0.trans (by simp)), fun j g' hj hgj => ?_⟩
          rcases Nat.lt_or_ge j i with h2 | h2
          · exact hall j g' h2 hgj
          · obtain rfl : j = i := by omega
            rw [hg] at hgj
            cases hgj
            have := hb2 rfl
            cases g
            rw [short]
            exact this
    · have hge : i = l.length := by have := of_decide_eq_false h; omega
      subst hge
      simp
      refine he _ _ _ (by simp) ?_
      simp
      refine ⟨⟨true, rfl, fun _ => ⟨by omega, shorts_of fun g hg => ?_⟩⟩, hkp⟩
      obtain ⟨j, hj, e⟩ := List.mem_iff_getElem.1 hg
      exact hall j g hj (by rw [List.getElem?_eq_getElem hj, e])
end Go.Proofs.YtjiijacibpgciaaGreat
