import Derived.Test.YtjiijacibpgciaaGreatTPlace
/- The data of an L without its ellipses. -/
set_option linter.unusedSimpArgs false
set_option linter.unusedVariables false
set_option linter.unusedSectionVars false
namespace Go.V
variable {P : Program} {cfg : Cfg}
/-- A call that leaves memory as it was: what it gives has a property. -/
theorem eh_ex {f : FuncId} {fn : Func} {c : Code} {args args1 : List AV} {R : AV → Prop} {m m1 : Mem} (hf : P.funcs[f]? = some fn) (hb : fn.body = some c) (hk : cfg.hook f = none) (hka : cfg.keepArgs f = false) (hg : cfg.gc f = 1) (hz : fzvs m args = (args1, m1)) (hr : ∀ r, R r → r.bel m1.next = true) (hn : fn.name ≠ "runtime.NumGoroutine") (hl : args.length ≤ fn.ntmps)
    (h : go P cfg fn.ntmps (leave P (cfg.keepRes f) fn.results.toList (fun v m' => R v ∧ Kp m1 m')) [.code c] (Sl.putAll .nil 0 args1) m1) : ∃ r, R r ∧ EH P cfg (.func f) args m r m1 := by
  have : wph P cfg (.func f) args m fun v m' => R v ∧ m' = m1 := by
    refine wph_func hf hb hk hn hl ?_
    rw [hka, hg]
    simp only [Bool.false_eq_true, if_false, hz]
    refine wpc_conv h ?_
    rintro e s' m' ⟨h2, vs, h3, h4, h5⟩
    exact ⟨h2, vs, h3, gcK_1 (hr _ h4) h5 ⟨h4, rfl⟩⟩
  obtain ⟨v, m', h1, h2, rfl⟩ := this
  exact ⟨v, h2, h1⟩
end Go.V
namespace Go.Proofs.YtjiijacibpgciaaGreat
set_option maxRecDepth 4000
open Go.V
attribute [local simp] Nat.add_assoc

theorem goH_eh {N : Nat} {Q : Ex → Sl → Mem → Prop} {fn : Fn} {args : List AV} {d : Option Tmp} {k : List It} {s : Sl} {m m' : Mem} {r : AV} (h : EH Tryz.prog cw fn args m r m') (hk : goP Tryz.prog cw N Q (aput N s d r) k m') : goH Tryz.prog cw N Q fn args d k s m := by
  rw [h.go]; exact hk
/-- A datum of an L, and whether it is a row. -/
abbrev Itm := Dat × Bool
def encI (p : Itm) : AV := .agg ((enc p.1).cells ++ [.sc (.bool p.2)])
def encIs (l : List Itm) : List AV := l.map encI
@[simp] theorem encIs_length (l : List Itm) : (encIs l).length = l.length := by simp [encIs]
@[simp] theorem encIs_nil : encIs [] = [] := rfl
theorem encIs_get (l : List Itm) (i : Nat) : (encIs l)[i]? = (l[i]?).map encI := by simp [encIs]
theorem encI_ex (p : Itm) : ∃ (K N : Int) (S : List UInt8) (M : List Int) (L T : List Dat), p.1 = .mk K N S M L T ∧ encI p = .agg [int K, int N, .sc (.string ⟨⟨S⟩⟩), .lst (M.map int), .lst (encs L), .lst (encs T), .sc (.bool p.2)] := by
  obtain ⟨⟨K, N, S, M, L, T⟩, b⟩ := p
  exact ⟨K, N, S, M, L, T, rfl, by simp [encI, enc]⟩
@[simp] theorem encI_okc (p : Itm) : (encI p).okc = true := by
  obtain ⟨K, N, S, M, L, T, _, h⟩ := encI_ex p
  rw [h]; rfl
@[simp] theorem encI_cells_length (p : Itm) : (encI p).cells.length = 7 := by
  obtain ⟨K, N, S, M, L, T, _, h⟩ := encI_ex p
  rw [h]; rfl
@[simp] theorem encI_agg (p : Itm) : AV.agg (encI p).cells = encI p := by
  obtain ⟨K, N, S, M, L, T, _, h⟩ := encI_ex p
  rw [h]; rfl
theorem encI_cells (p : Itm) : (encI p).cells = (enc p.1).cells ++ [.sc (.bool p.2)] := rfl
@[simp] theorem encI_take (p : Itm) : (encI p).cells.take 7 = (encI p).cells := List.take_of_length_le (by simp)
@[simp] theorem encI_take6 (p : Itm) : ((encI p).cells).take 6 = (enc p.1).cells := by
  rw [encI_cells, List.take_append_of_le_length (by simp), List.take_of_length_le (by simp)]
@[simp] theorem encI_6 (p : Itm) : ((encI p).cells)[6]? = some (.sc (.bool p.2)) := by
  rw [encI_cells, List.getElem?_append_right (by simp)]; simp
@[simp] theorem encI_6g (p : Itm) (h : 6 < (encI p).cells.length) : (encI p).cells[6] = .sc (.bool p.2) := by
  have := encI_6 p
  rw [List.getElem?_eq_getElem h] at this
  exact Option.some.inj this
@[simp] theorem fzv_encI (m : Mem) (p : Itm) : fzv m (encI p) = (encI p, m) := by
  obtain ⟨K, N, S, M, L, T, _, h⟩ := encI_ex p
  rw [h]; simp
theorem okAll_encIs : ∀ l : List Itm, okAll 7 (encIs l) = true
  | [] => rfl
  | d :: l => by
    have := okAll_encIs l
    simp only [encIs] at this ⊢
    rw [List.map_cons, okAll_cons, this]; simp
theorem encIs_row (l : List Itm) : ∀ y ∈ encIs l, y.cells.length = 7 ∧ (if true then AV.agg y.cells = y else y.cells = [y]) := by
  intro y hy
  obtain ⟨p, _, rfl⟩ := List.mem_map.1 hy
  simp
@[simp] theorem bel_encI (n : Nat) (p : Itm) : (encI p).bel n = true := by
  have e1 := bel_enc n p.1
  rw [← enc_agg p.1] at e1
  obtain ⟨K, N, S, M, L, T, h1, h⟩ := encI_ex p
  rw [h1] at e1
  rw [h]
  simp [enc, AV.bel, AV.bels] at e1 ⊢
@[simp] theorem bels_encIs (n : Nat) : ∀ l : List Itm, AV.bels n (encIs l) = true
  | [] => rfl
  | p :: l => by
    have := bels_encIs n l
    simp only [encIs] at this ⊢
    simp [AV.bels, this]
@[simp] theorem fzvs_encIs (m : Mem) : ∀ l : List Itm, fzvs m (encIs l) = (encIs l, m)
  | [] => rfl
  | p :: l => by
    have := fzvs_encIs m l
    simp only [encIs] at this ⊢
    simp [fzvs, this]

/-- What is told of an L's items. -/
def ItemsR (L : List Dat) (v : AV) : Prop := ∃ (its : List Itm) (ok : Bool), v = .tup [.lst (encIs its), .sc (.bool ok)] ∧ (∀ p ∈ its, p.1 ∈ L) ∧ its.length ≤ L.length
set_option maxHeartbeats 4000000 in
theorem t38 (L : List Dat) (hl : L.length < 2 ^ 21) (m : Mem) : ∃ r, ItemsR L r ∧ EH Tryz.prog cw (.func 38) [.lst (encs L)] m r m := by
  refine eh_ex Tryz.func38 rfl rfl rfl rfl (args1 := [.lst (encs L)]) (m1 := m) (by simp) (by rintro r ⟨its, ok, rfl, _⟩; simp [AV.bel, AV.bels]) (by simp [Tryz.f38]) (by simp [Tryz.f38]) ?_
  simp [Tryz.f38, show cw.keepRes 38 = false from rfl]
  refine go_count 9 L.length (fun i s' m' => Kp m m' ∧ ∃ (its : List Itm), Acc m m' 7 true (encIs its) (s'.at 4) ∧ (∀ p ∈ its, p.1 ∈ L) ∧ its.length ≤ i ∧ (∀ x, 0 < i → L[i - 1]? = some x → dotsB x = false → its ≠ [])) (by simp) (by omega) ⟨.refl _, [], .inl ⟨rfl, by simp⟩, by simp, by simp, by omega⟩ ?_
  rintro i s m' hi e9 ⟨hkp, its, hacc, hin, hlen, hne⟩ hs hw Q' hn he
  have e0 : s.at 0 = .lst (encs L) := (hs 0 (by kernel_rfl)).trans (by simp)
  have e7 : s.at 7 = .lst (encs L) := (hs 7 (by kernel_rfl)).trans (by simp)
  have e8 : s.at 8 = int L.length := (hs 8 (by kernel_rfl)).trans (by simp)
  clear hs
  simp [e9, e8]
  refine goB_split (fun h => ?_) fun h => ?_
  · have hlt : i < L.length := by simpa using h
    obtain ⟨x, hx⟩ : ∃ x, L[i]? = some x := ⟨_, List.getElem?_eq_getElem hlt⟩
    have hxm : x ∈ L := List.mem_of_getElem? hx
    have hx' : (encs L)[i]? = some (enc x) := by rw [encs_get, hx]; rfl
    simp [e9, e7, aindexAddr_lst Tryz.underlying23 tsize25 hx' (enc_cells_length x), (t29 x).go]
    have hab : abuild Tryz.prog 77 [(0, enc x)] = some (encI (x, false)) := by
      obtain ⟨K, N, S, M, L', T⟩ := x
      simp [abuild, placesOf, fillAt, enc, encI]
    cases hd : dotsB x with
    | false =>
      have hsrc := src_one (m := ((m'.new zeroCells false).set m'.next (enc x).cells).new (encI (x, false)).cells false) (id := m'.next + 1) (c := some 1) (k := 7) (ag := true) (x := encI (x, false)) (w := m'.clock + 3) (f := false) rfl (by simp) (by simp) (by simp)
      have kp2 : Kp m' (((m'.new zeroCells false).set m'.next (enc x).cells).new (encI (x, false)).cells false) := by simp
      obtain ⟨v', m3, h1, h2, h3⟩ := (hacc.kp kp2).app (okAll_encIs _) el73 (zs := [encI (x, false)]) (zs' := [encI (x, false)]) (List.cons_ne_nil _ _) (by simp [okAll_cons, okAll_nil]) (by simp [fzvs]) (.refl _) (by simp; omega) (hkp.trans kp2) rfl
      simp [hab, abuildSlice, fillAt, zeros, abuiltin, hsrc, h1, e9, hw]
      refine hn _ _ hlt (by simp) ⟨h3, its ++ [(x, false)], by simpa [encIs] using h2, ?_, by simp; omega, fun _ _ _ _ => by simp⟩
      intro p hp
      rcases List.mem_append.1 hp with hp | hp
      · exact hin p hp
      · simp at hp; rw [hp]; exact hxm
    | true =>
      by_cases h0 : i = 0
      · subst h0
        simp
        refine he _ _ _ (by simp) ?_
        simp
        exact ⟨⟨[], false, by simp, by simp, by simp⟩, by first | exact hkp | exact hkp.trans (by simp)⟩
      · obtain ⟨y, hy⟩ : ∃ y, L[i - 1]? = some y := ⟨_, List.getElem?_eq_getElem (by omega)⟩
        have hy' : (encs L)[i - 1]? = some (enc y) := by rw [encs_get, hy]; rfl
        have w : IntKind.i64.wrap ((i : Int) - 1) = ((i - 1 : Nat) : Int) := by rw [IntWalk.i64_in _ (by omega)]; omega
        simp [h0, e0, w, aindexAddr_lst Tryz.underlying23 tsize25 hy' (enc_cells_length y), (t29 y).go]
        cases hd2 : dotsB y with
        | true =>
          simp
          refine he _ _ _ (by simp) ?_
          simp
          exact ⟨⟨[], false, by simp, by simp, by simp⟩, by first | exact hkp | exact hkp.trans (by simp)⟩
        | false =>
          have hits := hne y (by omega) hy hd2
          obtain ⟨ini, p, rfl⟩ : ∃ ini p, its = ini ++ [p] := ⟨its.dropLast, its.getLast hits, (List.dropLast_concat_getLast hits).symm⟩
          rcases hacc with ⟨h1, _⟩ | ⟨_, id, w2, hv, h2, h3, h4⟩
          · simp [encIs] at h1
          simp at hv
          have n1 : id ≠ m'.next := by omega
          have w3 : IntKind.i64.wrap (ini.length : Int) = (ini.length : Int) := IntWalk.i64_in _ (by simp at hlen; omega)
          have hix := aindexAddr_sl (P := Tryz.prog) (q := .i64) (ag := true) (c := none) (id := id) (off := 0) (len := ini.length + 1) (i := ini.length) Tryz.underlying73 tsize77 (by omega)
          have hf0 : (flat (encIs ini)).length = ini.length * 7 := by rw [flat_length (okAll_encIs _)]; simp
          have hfl : flat (encIs (ini ++ [p])) = flat (encIs ini) ++ ((enc p.1).cells ++ [.sc (.bool p.2)]) := by simp [encIs, flat_append, flat_cons, flat_nil, encI_cells]
          have hln : ini.length * 7 + 7 ≤ (flat (encIs (ini ++ [p]))).length := by rw [hfl]; simp; omega
          have ht : List.take (ini.length * 7 + 6) (flat (encIs (ini ++ [p]))) = flat (encIs ini) ++ (enc p.1).cells := by
            rw [hfl, List.take_append, List.take_of_length_le (by omega), hf0, show ini.length * 7 + 6 - ini.length * 7 = 6 by omega, List.take_append_of_le_length (by simp), List.take_of_length_le (by simp)]
          have hdr : List.drop (ini.length * 7 + 7) (flat (encIs (ini ++ [p]))) = [] := List.drop_eq_nil_of_le (by rw [hfl]; simp; omega)
          simp [hv, alen_sl Tryz.underlying73, w3, hix, h4, n1, hln, ht, hdr, e9, hw]
          have hk2 : Kp m (((m'.new zeroCells false).set m'.next (enc x).cells).set id (flat (encIs ini) ++ ((enc p.1).cells ++ [AV.sc (.bool true)]))) := (hkp.trans (by simp)).set h2 _
          refine hn _ _ hlt (by simp) ⟨hk2, ini ++ [(p.1, true)], .inr ⟨by simp [encIs], id, m'.clock + 3, by simp [hv], h2, by simp; omega, ?_⟩, ?_, by simp at hlen ⊢; omega, fun _ _ _ _ => by simp⟩
          · simp [encIs, flat_append, flat_cons, flat_nil, encI_cells]
          · intro q hq
            rcases List.mem_append.1 hq with hq | hq
            · exact hin q (by simp [hq])
            · simp at hq; rw [hq]; exact hin p (by simp)
  · have hge : i = L.length := by have := of_decide_eq_false h; omega
    subst hge
    simp
    refine he _ _ _ (by simp) ?_
    simp
    obtain ⟨m2, h1, h2⟩ := hacc.fz hkp rfl (encIs_row its) (okAll_encIs _)
    have : fzv m' (s.at 4) = fz1 m' (s.at 4) := by
      rcases hacc with ⟨_, e⟩ | ⟨_, id, w, e, _⟩ <;> rw [e] <;> rfl
    rw [this, h1]
    exact ⟨⟨its, true, rfl, hin, hlen⟩, h2⟩
end Go.Proofs.YtjiijacibpgciaaGreat
