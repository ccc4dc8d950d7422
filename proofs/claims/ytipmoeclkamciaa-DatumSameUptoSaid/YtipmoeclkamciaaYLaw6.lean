import Derived.Test.YtipmoeclkamciaaYTold
import Derived.Test.YtipmoeclkamciaaYLaw7
/- DatumWalks: the walk, and the plain law. -/
set_option linter.unusedSimpArgs false
set_option linter.unusedVariables false
set_option linter.unusedSectionVars false
namespace Go.Proofs.Ytipmoeclkamciaa
open Go.V
attribute [local simp] Nat.add_assoc

mutual
theorem good_pre : ∀ (d : Dat), good d = true → ∀ p ∈ pre d, good p = true ∧ p.size ≤ d.size ∧ dpt p ≤ dpt d
  | .mk K N S M L T, h, p, hp => by
    rw [pre] at hp
    obtain ⟨h1, h2, h3⟩ := good_mk h
    rcases List.mem_cons.1 hp with rfl | hp
    · exact ⟨h, Nat.le_refl _, Int.le_refl _⟩
    · rcases List.mem_append.1 hp with hp | hp
      · obtain ⟨a, b, c⟩ := good_pres L h2 p hp
        have := dpts_pos T
        exact ⟨a, by rw [Dat.size]; omega, by rw [dpt]; omega⟩
      · obtain ⟨a, b, c⟩ := good_pres T h3 p hp
        have := dpts_pos L
        exact ⟨a, by rw [Dat.size]; omega, by rw [dpt]; omega⟩
theorem good_pres : ∀ (l : List Dat), goods l = true → ∀ p ∈ pres l, good p = true ∧ p.size ≤ sizes l ∧ dpt p ≤ dpts l
  | [], h, p, hp => by simp [pres] at hp
  | d :: l, h, p, hp => by
    rw [goods, Bool.and_eq_true] at h
    rw [pres] at hp
    rcases List.mem_append.1 hp with hp | hp
    · obtain ⟨a, b, c⟩ := good_pre d h.1 p hp
      exact ⟨a, by rw [sizes]; omega, by rw [dpts]; omega⟩
    · obtain ⟨a, b, c⟩ := good_pres l h.2 p hp
      exact ⟨a, by rw [sizes]; omega, by rw [dpts]; omega⟩
end
theorem parts_chk {d p : Dat} (h : p ∈ parts d) : chk p = 0 := by
  unfold parts at h
  split at h
  · rename_i hc
    obtain ⟨a, b, c⟩ := chk_good hc
    obtain ⟨e, f, g⟩ := good_pre d a p h
    exact chk_part e (by omega) (by omega)
  · cases h
theorem nodes_parts (d : Dat) : nodes d = parts d := by
  unfold parts
  split
  · rename_i h; exact nodes_pre h
  · rename_i h; simp [nodes, h]
theorem parts_len (d : Dat) : (parts d).length ≤ 4096 := by rw [← nodes_parts]; exact nodes_len d
theorem parts_all (d : Dat) : (parts d).take 1048576 = parts d := List.take_of_length_le (by have := parts_len d; omega)

theorem amin2 {t u T : TypeId} {a b : Int} {m : Mem} : abuiltin Try.prog .min #[t, u] T [int a, int b] m = some (int (min a b), m) := by
  show Option.map (·, m) (Option.map AV.sc (pureRun Try.prog (Builtin.min_ #[t, u] T [Value.int .i64 a, Value.int .i64 b].toArray))) = _
  have : pureRun Try.prog (Builtin.min_ #[t, u] T [Value.int .i64 a, Value.int .i64 b].toArray) = some (.int .i64 (if b < a then b else a)) := rfl
  rw [this]
  have : (if b < a then b else a) = min a b := by simp only [Int.min_def]; split <;> split <;> omega
  rw [this]
  rfl

set_option maxHeartbeats 4000000 in
theorem g6 (d : Dat) (k : Nat) (hd : d.fits) (hk : k ≤ 255) : Gives Try.prog cw 6 [enc d, .sc (.int .u8 k)] (.sc (.bool true)) := by
  refine gives_run Try.func6 rfl rfl rfl rfl (by simp) (by simp [Try.f6]) (by simp [Try.f6]) fun m => ?_
  simp [Try.f6, show cw.keepRes 6 = false from rfl, (cw_gives g10).go, (cw_gives (g11 d)).go]
  cases h1 : sml d with
  | false => simp [(cw_gives g10).go]
  | true =>
    have fp := parts_fits hd
    have lp := parts_len d
    have cp := fun p => @parts_chk d p
    have h30 : ∀ {N : Nat} {Q : Ex → Sl → Mem → Prop} {t : Option Tmp} {k : List It} {s : Sl} {m : Mem}, goH Try.prog cw N Q (.func 30) [enc d] t k s m = goP Try.prog cw N Q (aput N s t (.fn (.func 52) [] [.ptr m.next 0])) k (m.new (enc d).cells false) := (e30 d _).go
    have h29 : ∀ {N : Nat} {Q : Ex → Sl → Mem → Prop} {t : Option Tmp} {c : List It} {s : Sl} {m : Mem} {db : Nat}, has m db (enc d).cells → goH Try.prog cw N Q (.func 29) [.fn (.func 52) [] [.ptr db 0], int k] t c s m = goP Try.prog cw N Q (aput N s t (.lst (encs ((parts d).take k)))) c m := by
      intro N Q t c s m db h3
      exact (e29 d hd k (by omega) m db h3).go
    have h29a : ∀ {N : Nat} {Q : Ex → Sl → Mem → Prop} {t : Option Tmp} {c : List It} {s : Sl} {m : Mem} {db : Nat}, has m db (enc d).cells → goH Try.prog cw N Q (.func 29) [.fn (.func 52) [] [.ptr db 0], int 1048576] t c s m = goP Try.prog cw N Q (aput N s t (.lst (encs (parts d)))) c m := by
      intro N Q t c s m db h3
      have := (e29 d hd 1048576 (by omega) m db h3).go (N := N) (Q := Q) (d := t) (k := c) (s := s)
      rw [parts_all] at this
      exact this
    simp [(cw_gives (g28 d hd)).go, nodes_parts]
    refine go_draw_of (by kernel_rfl) ?_
    simp [h30]
    rw [h29a ⟨by simp, m.clock + 2, by simp⟩]
    have hw : IntKind.i64.wrap (k : Int) = k := IntWalk.i64_in _ (by omega)
    simp [h30, hw]
    rw [h29 ⟨by simp, m.clock + 3, by simp⟩]
    generalize parts d = A at *
    simp
    refine goM_of (l := [(1, 3), (2, 3)]) (by kernel_rfl) (?_ : List.all _ _ = true) ?_
    · simp [metAt, metOk, rank, objOf, verKept, Region.wanted, Mem.ver]
    have hmin : ((min k A.length : Nat) : Int) = min (A.length : Int) k := by omega
    simp [hw, amin2, hmin]
    refine go_count 45 A.length (fun i s m' => Kp m m') (by simp) (by omega) (by simp) ?_
    rintro i s m1 hi e45 hkp hs hw1 Q' hn he
    have e43 : s.at 43 = .lst (encs A) := (hs 43 (by kernel_rfl)).trans (by simp)
    have e44 : s.at 44 = int A.length := (hs 44 (by kernel_rfl)).trans (by simp)
    have e5 : s.at 5 = .lst (encs A) := (hs 5 (by kernel_rfl)).trans (by simp)
    have e7 : s.at 7 = .lst (encs (A.take k)) := (hs 7 (by kernel_rfl)).trans (by simp)
    clear hs
    simp [e45, e44]
    refine goB_split (fun h => ?_) fun h => ?_
    · have hlt : i < A.length := by simpa using h
      obtain ⟨x, hx⟩ : ∃ x, A[i]? = some x := ⟨_, List.getElem?_eq_getElem hlt⟩
      have hxe : (encs A)[i]? = some (enc x) := by rw [encs_get, hx]; rfl
      have hxm := List.mem_of_getElem? hx
      have ixA := aindexAddr_lst (P := Try.prog) (q := .i64) Try.underlying23 tsize25 hxe (enc_cells_length x)
      have zl : 6 ≤ zeroCells.length := by decide
      have zd : List.drop 6 zeroCells = [] := rfl
      have hss : sam x x = true := sam_refl (cp x hxm)
      have c26 := (cw_gives (g26 x x (fits_mem fp hxm) (fits_mem fp hxm)))
      rw [hss] at c26
      simp [e45, e43, ixA, zl, zd]
      refine go_draw0 (by kernel_rfl) (by kernel_rfl) ?_
      simp [e45, e43, e5, e7, ixA, c26.go]
      by_cases hik : i < k
      · have hxk : (encs (A.take k))[i]? = some (enc x) := by rw [encs_get, List.getElem?_take, if_pos hik, hx]; rfl
        have ixK := aindexAddr_lst (P := Try.prog) (q := .i64) Try.underlying23 tsize25 hxk (enc_cells_length x)
        have hmk : i < min k A.length := by omega
        simp [e45, e7, ixK, hmk, c26.go, hw1]
        refine hn _ _ hlt (by simp) ((hkp.newr _ _).set (by have := hkp.next; omega) _)
      · have hmk : ¬ i < min k A.length := by omega
        simp [e45, e7, hmk, hw1, undefV, undef]
        refine hn _ _ hlt (by simp) ((hkp.newr _ _).set (by have := hkp.next; omega) _)
    · simp
      refine he _ _ _ (by simp) ?_
      simp
      exact hkp
theorem g6i (d : Dat) (n : Int) (hd : d.fits) (hn : 0 ≤ n ∧ n ≤ 255) : Gives Try.prog cw 6 [enc d, .sc (.int .u8 n)] (.sc (.bool true)) := by
  have := g6 d n.toNat hd (by omega)
  rwa [Int.toNat_of_nonneg hn.1] at this
end Go.Proofs.Ytipmoeclkamciaa
