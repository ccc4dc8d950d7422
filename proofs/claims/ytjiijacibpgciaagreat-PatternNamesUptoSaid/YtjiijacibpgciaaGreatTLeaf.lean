import Derived.Test.YtjiijacibpgciaaGreatTFew
/- The symbols of what is got. -/
set_option linter.unusedSimpArgs false
set_option linter.unusedVariables false
set_option linter.unusedSectionVars false
namespace Go.V
/-- A part whose end is told by facts. -/
theorem goB_cut {P : Program} {cfg : Cfg} {N : Nat} {Q : Ex → Sl → Mem → Prop} {t : Bool} {x y : Code} {k : List It} {s : Sl} {m : Mem} (A : Sl → Mem → Prop) (h1 : t = true → ∀ k', (∀ s' m', A s' m' → go P cfg N Q k' s' m') → go P cfg N Q (.code x :: k') s m) (h2 : t = false → ∀ k', (∀ s' m', A s' m' → go P cfg N Q k' s' m') → go P cfg N Q (.code y :: k') s m) (h3 : ∀ s' m', A s' m' → go P cfg N Q k s' m') : goB P cfg N Q (.sc (.bool t)) x y k s m := by
  cases t
  · exact h2 rfl k h3
  · exact h1 rfl k h3
end Go.V
namespace Go.Proofs.YtjiijacibpgciaaGreat
set_option maxRecDepth 4000
open Go.V
attribute [local simp] Nat.add_assoc

def isSym (d : Dat) : Bool := decide (d.k = 5)
mutual
/-- The symbols of what is got. -/
def lf : Got → List Dat
  | .mk _ n D L => (if n = 0 then (nodes D).filter isSym else []) ++ lfs L
def lfs : List Got → List Dat
  | [] => []
  | g :: l => lf g ++ lfs l
end
theorem lf_eq (g : Got) : lf g = (if g.deep = 0 then (nodes g.dat).filter isSym else []) ++ lfs g.subs := by cases g; rw [lf]; rfl
theorem lfs_snoc (g : Got) : ∀ l, lfs (l ++ [g]) = lfs l ++ lf g
  | [] => by simp [lfs]
  | x :: l => by simp [lfs, lfs_snoc g l]
theorem lfs_take {l : List Got} {i : Nat} {g : Got} (h : l[i]? = some g) : lfs (l.take (i + 1)) = lfs (l.take i) ++ lf g := by
  obtain ⟨hi, e⟩ := List.getElem?_eq_some_iff.1 h
  rw [List.take_succ_eq_append_getElem hi, e, lfs_snoc]
mutual
theorem lf_len : ∀ g : Got, (lf g).length ≤ 4096 * g.size
  | .mk I n D L => by
    have h := lfs_len L
    have h1 : ((nodes D).filter isSym).length ≤ 4096 := Nat.le_trans (List.length_filter_le _ _) (nodes_len D)
    rw [lf, Got.size, List.length_append]
    split
    · omega
    · simp; omega
theorem lfs_len : ∀ l : List Got, (lfs l).length ≤ 4096 * gsizes l
  | [] => by simp [lfs]
  | g :: l => by
    have := lf_len g
    have := lfs_len l
    rw [lfs, gsizes, List.length_append]
    omega
end
theorem gsizes_take (l : List Got) : ∀ i, gsizes (l.take i) ≤ gsizes l := by
  induction l with
  | nil => intro i; simp [gsizes]
  | cons g l ih =>
    intro i
    cases i with
    | zero => simp [gsizes]
    | succ i => simp only [List.take_succ_cons, gsizes]; have := ih i; omega
/-- What a call of leaves does. -/
def LeafK (l : List Got) (ys : List Dat) (v : AV) (m0 m : Mem) (v' : AV) (m' : Mem) : Prop := Acc m0 m' 6 true (encs (ys ++ lfs l)) v' ∧ KpC (owns v) m m' ∧ ∀ j, owns v' j → owns v j ∨ m.next ≤ j
set_option maxHeartbeats 8000000 in
theorem t8 : ∀ (n : Nat) (l : List Got), gsizes l < n → l.length < 2 ^ 21 → gfits l → ∀ (ys : List Dat) (v : AV) (m0 m : Mem), ys.length + 4096 * gsizes l ≤ 2 ^ 25 → Acc m0 m 6 true (encs ys) v → m0.next ≤ m.next → wph Tryz.prog cw (.func 8) [.lst (encGs l), v] m (LeafK l ys v m0 m) := by
  intro n
  induction n with
  | zero => intro l hs; omega
  | succ n ih =>
    intro l hs hl hf ys v m0 m hb hacc h0
    have okv := hacc.okc
    refine wph_go Tryz.func8 rfl rfl (by simp [Tryz.f8]) (by simp [Tryz.f8]) fun Q hQ => ?_
    simp only [Tryz.f8, show cw.keepRes 8 = true from rfl, show cw.keepArgs 8 = true from rfl] at hQ ⊢
    simp
    refine go_count 11 l.length (fun i s' m' => ∃ w, s'.at 1 = w ∧ Acc m0 m' 6 true (encs (ys ++ lfs (l.take i))) w ∧ KpC (fun j => owns v j ∨ m.next ≤ j) m m' ∧ ∀ j, owns w j → owns v j ∨ m.next ≤ j) (by simp) (by omega) ⟨v, by simp, by simpa [lfs] using hacc, .refl _ _, fun j h => .inl h⟩ ?_
    rintro i s m' hi e11 ⟨w, e1, hacc', kc', hw0⟩ hsame hw Q' hn he
    have e9 : s.at 9 = .lst (encGs l) := (hsame 9 (by kernel_rfl)).trans (by simp)
    have e10 : s.at 10 = int l.length := (hsame 10 (by kernel_rfl)).trans (by simp)
    clear hsame
    simp [e11, e10]
    refine goB_split (fun h => ?_) fun h => ?_
    · have hlt : i < l.length := by simpa using h
      obtain ⟨g, hg⟩ : ∃ g, l[i]? = some g := ⟨_, List.getElem?_eq_getElem hlt⟩
      have hgl := List.mem_of_getElem? hg
      have hg' : (encGs l)[i]? = some (encG g) := by rw [encGs_get, hg]; rfl
      have hgf := Got.fits_i (gfits_mem hf hgl)
      have hsz := gsize_mem hgl
      have hgs : gsizes g.subs < n := by cases g; simp only [Got.size, Got.subs] at hsz ⊢; omega
      simp [e11, e9, aindexAddr_lst Tryz.underlying26 tsize44 hg' (encG_cells_length g), encG_cells]
      obtain ⟨M0, hM0⟩ : ∃ M0, M0 = (m'.new [AV.sc (Value.int IntKind.i64 0), AV.sc (Value.int IntKind.i64 0), AV.sc (Value.string ⟨⟨[]⟩⟩), AV.emp 0, AV.emp 0, AV.emp 0, AV.sc (Value.int IntKind.i64 0), AV.sc (Value.int IntKind.i64 0), AV.sc (Value.int IntKind.i64 0), AV.sc (Value.string ⟨⟨[]⟩⟩), AV.emp 0, AV.emp 0, AV.emp 0, AV.emp 0] false).set m'.next (gcs g.id g.deep g.dat (.lst (encGs g.subs))) := ⟨_, rfl⟩
      have k0 : Kp m' M0 := by rw [hM0]; simp
      have nM0 : M0.next = m'.next + 1 := by rw [hM0]; simp
      have g0 : M0.get m'.next = some (.cells (gcs g.id g.deep g.dat (.lst (encGs g.subs))) false (m'.clock + 2)) := by rw [hM0]; simp
      rw [← hM0]
      have lw := fun j h => acc_lt hacc' j h
      have nb : ¬ owns w m'.next := fun h => by have := (lw _ h).2; omega
      obtain ⟨F, hF⟩ : ∃ F, F = if g.deep = 0 then (nodes g.dat).filter isSym else [] := ⟨_, rfl⟩
      have hFl : F.length ≤ 4096 := by
        rw [hF]
        split
        · exact Nat.le_trans (List.length_filter_le _ _) (nodes_len _)
        · simp
      refine goB_cut (fun s2 m2 => s2.at 9 = .lst (encGs l) ∧ s2.at 10 = int l.length ∧ s2.at 11 = int i ∧ s2.at 6 = .ptr m'.next 0 ∧ ∃ w2, s2.at 1 = w2 ∧ Acc m0 m2 6 true (encs (ys ++ lfs (l.take i) ++ F)) w2 ∧ KpC (fun j => owns w j ∨ M0.next ≤ j) M0 m2 ∧ ∀ j, owns w2 j → owns w j ∨ M0.next ≤ j) (fun hd k' hk' => ?_) (fun hd k' hk' => ?_) ?_
      · rw [if_pos (of_decide_eq_true hd)] at hF
        have hyl : (ys ++ lfs (l.take i)).length + 4096 ≤ 2 ^ 25 := by
          have a1 := lfs_len (l.take i)
          have a2 : gsizes (l.take (i + 1)) ≤ gsizes l := gsizes_take l _
          rw [take_gs hg] at a2
          have a3 : 1 ≤ g.size := by cases g; rw [Got.size]; omega
          rw [List.length_append]
          omega
        simp [g0, (cw_gives (g28 g.dat hgf.2.1)).go]
        refine go_count 22 (nodes g.dat).length (fun j s2 m2 => ∃ w2, s2.at 1 = w2 ∧ Acc m0 m2 6 true (encs (ys ++ lfs (l.take i) ++ ((nodes g.dat).take j).filter isSym)) w2 ∧ KpC (fun j => owns w j ∨ M0.next ≤ j) M0 m2 ∧ ∀ j, owns w2 j → owns w j ∨ M0.next ≤ j) (by simp) (by have := nodes_len g.dat; omega) ⟨w, by simp [e1], by simpa using hacc'.kp k0, .refl _ _, fun j h => .inl h⟩ ?_
        rintro j s2 m2 hj e22 ⟨w2, f1, hac2, kc2, hw2⟩ hsame hwj Q2 hn2 he2
        have f6 : s2.at 6 = .ptr m'.next 0 := (hsame 6 (by kernel_rfl)).trans (by simp)
        have f9 : s2.at 9 = .lst (encGs l) := (hsame 9 (by kernel_rfl)).trans (by simp [e9])
        have f10 : s2.at 10 = int l.length := (hsame 10 (by kernel_rfl)).trans (by simp [e10])
        have f11 : s2.at 11 = int i := (hsame 11 (by kernel_rfl)).trans (by simp [e11])
        have f20 : s2.at 20 = .lst (encs (nodes g.dat)) := (hsame 20 (by kernel_rfl)).trans (by simp)
        have f21 : s2.at 21 = int (nodes g.dat).length := (hsame 21 (by kernel_rfl)).trans (by simp)
        clear hsame
        simp [e22, f21]
        refine goB_split (fun h => ?_) fun h => ?_
        · have hlt2 : j < (nodes g.dat).length := by simpa using h
          obtain ⟨x, hx⟩ : ∃ x, (nodes g.dat)[j]? = some x := ⟨_, List.getElem?_eq_getElem hlt2⟩
          have hx' : (encs (nodes g.dat))[j]? = some (enc x) := by rw [encs_get, hx]; rfl
          have hix := aindexAddr_lst (P := Tryz.prog) (q := .i64) Tryz.underlying23 tsize25 hx' (enc_cells_length x)
          have htk : ((nodes g.dat).take (j + 1)).filter isSym = ((nodes g.dat).take j).filter isSym ++ (if isSym x then [x] else []) := by
            obtain ⟨h1, h2⟩ := List.getElem?_eq_some_iff.1 hx
            rw [List.take_succ_eq_append_getElem h1, h2, List.filter_append]
            cases hc : isSym x <;> simp [hc]
          obtain ⟨X, hX⟩ : ∃ X, X = (m2.new zeroCells false).set m2.next (enc x).cells := ⟨_, rfl⟩
          have kX : Kp m2 X := by rw [hX]; simp
          have gX : X.get m2.next = some (.cells (enc x).cells false (m2.clock + 2)) := by rw [hX]; simp
          have c0 : ∀ h : 0 < (enc x).cells.length, (enc x).cells[0]'h = int x.k := by cases x; intro h; simp [enc, Dat.k, AV.cells]
          simp [e22, f20, hix]
          rw [← hX]
          simp [c0]
          by_cases hk5 : x.k = 5
          · have hsym : isSym x = true := by simp [isSym, hk5]
            rw [hsym] at htk
            simp only [if_true] at htk
            have hsrc := src_one (m := X.new (enc x).cells false) (id := X.next) (c := some 1) (k := 6) (ag := true) (x := enc x) (w := X.clock + 1) (f := false) rfl (by simp) (by simp) (by simp)
            have hcl : (ys ++ lfs (l.take i) ++ ((nodes g.dat).take j).filter isSym).length ≤ 2 ^ 25 := by
              have : (((nodes g.dat).take j).filter isSym).length ≤ 4096 := Nat.le_trans (List.length_filter_le _ _) (Nat.le_trans (List.length_take_le _ _) (by have := nodes_len g.dat; omega))
              rw [List.length_append]
              omega
            obtain ⟨v3, m3, p1, p2, p3, p4⟩ := acc_any (T := 23) (m := X.new (enc x).cells false) (zs := [enc x]) ((hac2.kp kX).kp (.new _ _ _)) (by have := kX.next; have := kc2.next; have := kc'.next; simp; omega) (okAll_encs _) el23 (by simp [okAll_cons, okAll_nil]) (by simp [fzx, fzvs]) (by simp only [encs_length, List.length_singleton]; omega)
            simp [hk5, f1, gX, abuildSlice, zeros, fillAt, abuiltin, hsrc, p1, e22, hwj]
            have kN : KpC (fun j => owns w j ∨ M0.next ≤ j) M0 (X.new (enc x).cells false) := (kc2.trans (.of (.of kX))).trans (.of (.of (.new _ _ _)))
            refine hn2 _ _ hlt2 (by simp) ⟨v3, by simp, ?_, kN.trans (p3.mono hw2), fun q hq => ?_⟩
            · have e1 : encs (ys ++ lfs (l.take i) ++ (((nodes g.dat).take j).filter isSym ++ [x])) = encs (ys ++ lfs (l.take i) ++ ((nodes g.dat).take j).filter isSym) ++ [enc x] := by simp [encs_map]
              rw [htk, e1]
              exact p2
            · rcases p4 q hq with h | h
              · exact hw2 q h
              · have := kX.next
                have := kc2.next
                simp at h
                exact .inr (by omega)
          · have hsym : isSym x = false := by simp [isSym, hk5]
            rw [hsym] at htk
            simp [hk5, e22, hwj]
            refine hn2 _ _ hlt2 (by simp) ⟨w2, by simp [f1], ?_, kc2.trans (.of (.of kX)), hw2⟩
            rw [htk]
            simpa using hac2.kp kX
        · simp
          refine he2 _ _ _ (by simp) ?_
          simp
          have hle : j = (nodes g.dat).length := by have := of_decide_eq_false h; omega
          subst hle
          rw [List.take_length, ← hF] at hac2
          exact hk' _ _ ⟨by simp [f9], by simp [f10], by simp [f11], by simp [f6], w2, by simp [f1], hac2, kc2, hw2⟩
      · simp
        rw [if_neg (of_decide_eq_false hd)] at hF
        refine hk' _ _ ⟨by simp [e9], by simp [e10], by simp [e11], by simp, w, by simp [e1], ?_, .refl _ _, fun j h => .inl h⟩
        rw [hF, List.append_nil]
        exact hacc'.kp k0
      · rintro s2 m2 ⟨f9, f10, f11, f6, w2, f1, hac2, kc2, hw2⟩
        have g2 := (kc2.get m'.next (by omega) (fun h => h.elim nb fun h => by omega)).trans g0
        have n2 := kc2.next
        have n0 := kc'.next
        simp [f6, g2, f1]
        refine goH_of (ih g.subs hgs hgf.2.2.2.1 hgf.2.2.2.2 (ys ++ lfs (l.take i) ++ F) w2 m0 m2 ?_ hac2 (by omega)) ?_
        · have a1 := lfs_len (l.take i)
          have a2 : gsizes (l.take (i + 1)) ≤ gsizes l := gsizes_take l _
          rw [take_gs hg] at a2
          have a3 : g.size = 1 + gsizes g.subs := by cases g; rfl
          rw [List.length_append, List.length_append]
          omega
        rintro v3 m3 ⟨hac3, kc3, hw3⟩
        simp [f11, hw]
        refine hn _ _ hlt (by simp) ⟨v3, by simp, ?_, ?_, ?_⟩
        · rw [lfs_take hg, lf_eq, ← hF]
          simpa using hac3
        · have q1 : KpC (fun j => owns v j ∨ m.next ≤ j) m m2 := (kc'.trans (.of (.of k0))).trans (kc2.mono fun j h => h.elim (hw0 j) fun h => .inr (by omega))
          exact q1.trans (kc3.mono fun j h => (hw2 j h).elim (hw0 j) fun h => .inr (by omega))
        · intro j h
          rcases hw3 j h with h | h
          · exact (hw2 j h).elim (hw0 j) fun h => .inr (by omega)
          · exact .inr (by omega)
    · have hge : i = l.length := by have := of_decide_eq_false h; omega
      subst hge
      simp
      refine he _ _ _ (by simp) ?_
      simp [e1]
      refine hQ _ _ _ ?_
      rw [List.take_length] at hacc'
      rw [leave_ret]
      simp [aresult, oneOf]
      exact ⟨hacc', kc'.cut, hw0⟩
end Go.Proofs.YtjiijacibpgciaaGreat
