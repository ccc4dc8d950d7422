import Derived.Test.YtipmoeclkamciaaYRef5
import Derived.Test.YtipmoeclkamciaaYRef3
import Derived.Test.YtipmoeclkamciaaYHalves
/- The reference: copies, lists, pairs. -/
set_option linter.unusedSimpArgs false
set_option linter.unusedVariables false
set_option linter.unusedSectionVars false
namespace Go.Proofs.Ytipmoeclkamciaa
open Go.V
attribute [local simp] Nat.add_assoc

theorem fb_true : fb true = id := by funext M; rfl
theorem g55t (d : Dat) (hd : d.fits) : Gives Try.prog cf 55 [enc d, .sc (.bool true)] (enc d) := by
  have := made_at true d.size d (Nat.le_refl _) hd
  rwa [fb_true, re_id] at this
theorem g55f (d : Dat) (hd : d.fits) : Gives Try.prog cf 55 [enc d, .sc (.bool false)] (enc d.plain) := made_at false d.size d (Nat.le_refl _) hd

theorem g32 (a : Dat) (ha : a.fits) : Gives Try.prog cf 32 [enc a] (enc (cln a)) := by
  refine gives_run Try.func32 rfl rfl rfl rfl (by simp) (by simp [Try.f32]) (by simp [Try.f32]) fun m => ?_
  simp +contextual [Try.f32, show cf.keepRes 32 = false from rfl, (g15 a ha).go, (g55t a ha).go, goB_imp, cln, abuild, placesOf, fillAt]
theorem g37 (a : Dat) (ha : a.fits) : Gives Try.prog cf 37 [enc a] (enc (pln a)) := by
  refine gives_run Try.func37 rfl rfl rfl rfl (by simp) (by simp [Try.f37]) (by simp [Try.f37]) fun m => ?_
  simp +contextual [Try.f37, show cf.keepRes 37 = false from rfl, (g15 a ha).go, (g55f a ha).go, goB_imp, pln, abuild, placesOf, fillAt]

theorem aapp_cap {P : Program} {T : TypeId} {k : Nat} {ag ag' f : Bool} {ys ys' : List AV} {m m' : Mem} {id len c v : Nat} {cs : List AV} (h : ElemOf P T k ag) (hy : ys ≠ []) (ho : okAll k ys = true) (hf : fzvs m ys = (ys', m')) (hg : m'.get id = some (.cells cs f v)) (hc : cs.length = len * k) (hcap : c < len + ys.length) (hb : len + ys.length ≤ 2 ^ 26) :
    aappend P T (.sl id 0 len k ag' (some c)) none (some ys) m = some (.sl m'.next 0 (len + ys.length) k ag none, m'.new (cs ++ flat ys') false) := by
  obtain ⟨⟨e, b, z, h1, h2, h3, h4, h5, h6, h7, _⟩, hk⟩ := h
  have hlen : ys'.length = ys.length := by rw [← fzvs_length ys m, hf]
  have hm : (len + ys.length) * b ≤ 2 ^ 26 * 2 ^ 16 := Nat.mul_le_mul hb h7
  unfold aappend
  simp only [h1, h2, h3, h4, h5]
  rw [if_pos ⟨hk, h6, ho⟩]
  cases ys with
  | nil => exact absurd rfl hy
  | cons y ys =>
    simp only [hf, hlen, hg]
    rw [if_pos ⟨trivial, by omega, by omega, by omega⟩, if_pos (by simpa [full] using hcap)]
    have e1 : (cs.drop 0).take (len * k) = cs := by rw [List.drop_zero, List.take_of_length_le (by omega)]
    rw [e1]

theorem app_dats0 (L : List Dat) (hL : L.length < 2 ^ 21) (m : Mem) : ∃ q : AV × Mem, aappend Try.prog 23 (.emp 0) none (srcOf m (.lst (encs L))) m = some q ∧ Acc m q.2 6 true (encs L) q.1 ∧ Kp m q.2 := by
  cases L with
  | nil => exact ⟨(.emp 0, m), aapp_none (m := m) (s := .emp 0) el23 (.inl ⟨_, rfl⟩), .inl ⟨rfl, rfl⟩, .refl _⟩
  | cons x L =>
    have e := aapp_emp (m := m) (n := 0) (m' := m) (ys := encs (x :: L)) (ys' := encs (x :: L)) (by omega) el23 (by simp [encs]) (okAll_encs _) (by simp) (by simp at hL ⊢; omega)
    exact ⟨_, e, .inr ⟨by simp [encs], m.next, m.clock + 1, by simp, by omega, by simp, by simp⟩, by simp⟩
theorem g27 (l : List Dat) (hl : l.length < 2 ^ 21) : Gives Try.prog cf 27 [.lst (encs l)] (enc (lis l)) := by
  refine gives_run Try.func27 rfl rfl rfl rfl (by simp) (by simp [Try.f27]) (by simp [Try.f27]) fun m => ?_
  simp [Try.f27, show cf.keepRes 27 = false from rfl]
  obtain ⟨q, h1, h2, h3⟩ := app_dats0 l hl (m.new zeroCells false)
  obtain ⟨v, m1⟩ := q
  simp only at h2 h3
  have hm : m1.get m.next = some (.cells zeroCells false (m.clock + 1)) := by rw [h3.get _ (by simp)]; simp
  simp only [zeroCells] at h1 hm
  simp [h1, h2.okc.1, h2.okc.2, abuild, placesOf, fillAt, zeroCells, hm]
  have kx0 : KpX (fun k => k = m.next) m1 (m1.set m.next [int 6, int 0, .sc (.string ⟨⟨[]⟩⟩), .emp 0, v, .emp 0]) := (KpX.refl (fun k => k = m.next) m1).set (id := m.next) rfl _
  have h4 := acc_keptX h2 kx0 (fun j hj e => by have := (acc_lt h2 j hj).1; simp at this; omega)
  obtain ⟨m4, f1, k1⟩ := acc_fzX h4 rfl (fun y hy => by rw [encs_map] at hy; obtain ⟨x, _, rfl⟩ := List.mem_map.1 hy; simp) (okAll_encs _)
  simp only [f1]
  refine ⟨by simp [lis, enc, encs], k1.kp (kx0.kp ((Kp.new m _ _).trans h3) fun j hj e => by omega) fun j hj e => by have := (acc_lt h2 j e).1; simp at this; omega⟩

def par (d : Dat) : Int := (hlv d).2.2
theorem par_eq (K N : Int) (S : List UInt8) (M : List Int) (L T : List Dat) : par (.mk K N S M L T) = if chk (.mk K N S M L T) = 0 then if (K = 6 ∨ K = 7) ∧ L ≠ [] then 0 else 6 else chk (.mk K N S M L T) := by
  by_cases h0 : chk (.mk K N S M L T) = 0
  · by_cases hK : K = 6 ∨ K = 7
    · cases L with
      | nil => simp [par, hlv, h0, hK]
      | cons l r =>
        by_cases h7 : K = 7 ∧ r = []
        · obtain ⟨rfl, rfl⟩ := h7
          simp [par, hlv, h0]
        · simp [par, hlv, h0, hK, h7]
    · simp [par, hlv, h0, hK]
  · simp [par, hlv, h0]
theorem g50 (d : Dat) (hd : d.fits) : Gives Try.prog cf 50 [enc d] (int (par d)) := by
  refine gives_run Try.func50 rfl rfl rfl rfl (by simp) (by simp [Try.f50]) (by simp [Try.f50]) fun m => ?_
  obtain ⟨K, N, S, M, L, T⟩ := d
  have c := g15 _ hd
  rw [par_eq]
  simp only [enc] at c ⊢
  by_cases h0 : chk (.mk K N S M L T) = 0
  · cases L with
    | nil =>
      simp only [encs] at c ⊢
      by_cases h7 : K = 7
      · subst h7
        obtain ⟨⟨l, L', e⟩, _⟩ := alone_dot (chk_alone h0)
        cases e
      · by_cases h6 : K = 6
        · subst h6; simp [Try.f50, show cf.keepRes 50 = false from rfl, c.go, h0]
        · simp [Try.f50, show cf.keepRes 50 = false from rfl, c.go, h0, h7, h6]
    | cons l r =>
      have ne : ¬ ((r.length : Int) + 1 = 0) := by omega
      simp only [encs] at c ⊢
      by_cases h7 : K = 7
      · subst h7; simp [Try.f50, show cf.keepRes 50 = false from rfl, c.go, undefV, undef, h0, ne]
      · by_cases h6 : K = 6
        · subst h6; simp [Try.f50, show cf.keepRes 50 = false from rfl, c.go, h0, ne]
        · simp [Try.f50, show cf.keepRes 50 = false from rfl, c.go, h0, h7, h6, ne]
  · simp [Try.f50, show cf.keepRes 50 = false from rfl, c.go, h0]

theorem hlv_ok {d : Dat} (h : (hlv d).2.2 = 0) : chk (hlv d).1 = 0 ∧ chk (hlv d).2.1 = 0 := by
  have h1 := (cons_halves h).1
  exact (halves_cons (by rw [h1])).2
theorem hlv_no {d : Dat} (h : (hlv d).2.2 ≠ 0) : (hlv d).1 = .zero ∧ (hlv d).2.1 = .zero := by
  obtain ⟨K, N, S, M, L, T⟩ := d
  by_cases h0 : chk (.mk K N S M L T) = 0
  · by_cases hK : K = 6 ∨ K = 7
    · cases L with
      | nil => simp [hlv, h0, hK]
      | cons l r =>
        refine absurd ?_ h
        by_cases h7 : K = 7 ∧ r = []
        · obtain ⟨rfl, rfl⟩ := h7
          simp [hlv, h0]
        · simp [hlv, h0, hK, h7]
    · simp [hlv, h0, hK]
  · simp [hlv, h0]
theorem g22 (d : Dat) (hd : d.fits) : Gives Try.prog cf 22 [enc d] (.tup [enc (hlv d).1, int (hlv d).2.2]) := by
  refine gives_run Try.func22 rfl rfl rfl rfl (by simp) (by simp [Try.f22]) (by simp [Try.f22]) fun m => ?_
  have c := g50 d hd
  by_cases h : (hlv d).2.2 = 0
  · have ok := hlv_ok h
    have c32 := g32 _ (hlv_fits hd).1
    have hp : par d = 0 := h
    rw [hp] at c
    obtain ⟨K, N, S, M, L, T⟩ := d
    obtain ⟨l, r, rfl⟩ : ∃ l r, L = l :: r := by
      cases L with
      | nil => rw [par_eq] at hp; by_cases h0 : chk (.mk K N S M [] T) = 0 <;> simp [h0] at hp
      | cons l r => exact ⟨l, r, rfl⟩
    have el : (hlv (.mk K N S M (l :: r) T)).1 = l := by
      have hp' := hp
      rw [par_eq] at hp'
      by_cases h0 : chk (.mk K N S M (l :: r) T) = 0
      · by_cases hK : K = 6 ∨ K = 7
        · by_cases h7 : K = 7 ∧ r = []
          · obtain ⟨rfl, rfl⟩ := h7; simp [hlv, h0]
          · simp [hlv, h0, hK, h7]
        · simp [h0, hK] at hp'
      · simp [h0] at hp'
    have ixl := aindexAddr_lst0 (P := Try.prog) (T := 23) (q := .i64) Try.underlying23 tsize25 (l := encs r) (enc_cells_length l)
    rw [el] at c32 ok ⊢
    have e32 : cln l = l := if_pos ok.1
    rw [e32] at c32
    rw [h]
    simp only [enc, encs] at c ⊢
    simp [Try.f22, show cf.keepRes 22 = false from rfl, c.go, ixl, c32.go]
  · have hp : par d ≠ 0 := h
    rw [(hlv_no h).1]
    have e : (hlv d).2.2 = par d := rfl
    rw [e]
    simp [Try.f22, show cf.keepRes 22 = false from rfl, c.go, hp, abuild, placesOf, fillAt]
end Go.Proofs.Ytipmoeclkamciaa
