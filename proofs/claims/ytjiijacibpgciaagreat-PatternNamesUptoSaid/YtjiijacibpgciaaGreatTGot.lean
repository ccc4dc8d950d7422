import Derived.Test.YtjiijacibpgciaaGreatTSee
/- What is got by a pattern, as plain data; where a variable stands. -/
set_option linter.unusedSimpArgs false
set_option linter.unusedVariables false
set_option linter.unusedSectionVars false
namespace Go.Proofs.YtjiijacibpgciaaGreat
set_option maxRecDepth 4000
open Go.V
attribute [local simp] Nat.add_assoc

inductive Got where
  | mk (I : Dat) (n : Int) (D : Dat) (L : List Got)
def Got.id : Got → Dat | .mk I _ _ _ => I
def Got.deep : Got → Int | .mk _ n _ _ => n
def Got.dat : Got → Dat | .mk _ _ D _ => D
def Got.subs : Got → List Got | .mk _ _ _ L => L
/-- Its cells. -/
def gcs (I : Dat) (n : Int) (D : Dat) (x : AV) : List AV := (enc I).cells ++ int n :: ((enc D).cells ++ [x])
mutual
def encG : Got → AV
  | .mk I n D L => .agg (gcs I n D (.lst (encGs L)))
def encGs : List Got → List AV
  | [] => []
  | g :: l => encG g :: encGs l
end
theorem encGs_map : ∀ l, encGs l = l.map encG
  | [] => by simp [encGs]
  | d :: l => by simp [encGs, encGs_map l]
@[simp] theorem encGs_length (l : List Got) : (encGs l).length = l.length := by simp [encGs_map]
theorem encGs_get (l : List Got) (i : Nat) : (encGs l)[i]? = (l[i]?).map encG := by simp [encGs_map]
theorem encG_eq (g : Got) : encG g = .agg (gcs g.id g.deep g.dat (.lst (encGs g.subs))) := by cases g; simp [encG, Got.id, Got.deep, Got.dat, Got.subs]
section
variable {I D : Dat} {n : Int} {x : AV}
theorem gcs_ex : ∃ (K N : Int) (S : List UInt8) (M : List Int) (L T : List Dat) (K' N' : Int) (S' : List UInt8) (M' : List Int) (L' T' : List Dat), gcs I n D x = [int K, int N, .sc (.string ⟨⟨S⟩⟩), .lst (M.map int), .lst (encs L), .lst (encs T), int n, int K', int N', .sc (.string ⟨⟨S'⟩⟩), .lst (M'.map int), .lst (encs L'), .lst (encs T'), x] ∧ (enc I).cells = [int K, int N, .sc (.string ⟨⟨S⟩⟩), .lst (M.map int), .lst (encs L), .lst (encs T)] ∧ (enc D).cells = [int K', int N', .sc (.string ⟨⟨S'⟩⟩), .lst (M'.map int), .lst (encs L'), .lst (encs T')] := by
  obtain ⟨K, N, S, M, L, T⟩ := I
  obtain ⟨K', N', S', M', L', T'⟩ := D
  exact ⟨K, N, S, M, L, T, K', N', S', M', L', T', by simp [gcs, enc], by simp [enc], by simp [enc]⟩
@[simp] theorem gcs_length : (gcs I n D x).length = 14 := by
  obtain ⟨K, N, S, M, L, T, K', N', S', M', L', T', h, h1, h2⟩ := @gcs_ex I D n x
  rw [h]; rfl
@[simp] theorem gcs_take : (gcs I n D x).take 6 = (enc I).cells := by
  obtain ⟨K, N, S, M, L, T, K', N', S', M', L', T', h, h1, h2⟩ := @gcs_ex I D n x
  rw [h, h1]; rfl
@[simp] theorem gcs_drop7 : ((gcs I n D x).drop 7).take 6 = (enc D).cells := by
  obtain ⟨K, N, S, M, L, T, K', N', S', M', L', T', h, h1, h2⟩ := @gcs_ex I D n x
  rw [h, h2]; rfl
@[simp] theorem gcs_6 : (gcs I n D x)[6]? = some (int n) := by
  obtain ⟨K, N, S, M, L, T, K', N', S', M', L', T', h, h1, h2⟩ := @gcs_ex I D n x
  rw [h]; rfl
@[simp] theorem gcs_13 : (gcs I n D x)[13]? = some x := by
  obtain ⟨K, N, S, M, L, T, K', N', S', M', L', T', h, h1, h2⟩ := @gcs_ex I D n x
  rw [h]; rfl
@[simp] theorem gcs_6g (h : 6 < (gcs I n D x).length) : (gcs I n D x)[6] = int n := by
  have := @gcs_6 I D n x
  rw [List.getElem?_eq_getElem h] at this
  exact Option.some.inj this
@[simp] theorem gcs_13g (h : 13 < (gcs I n D x).length) : (gcs I n D x)[13] = x := by
  have := @gcs_13 I D n x
  rw [List.getElem?_eq_getElem h] at this
  exact Option.some.inj this
end
@[simp] theorem encG_okc (g : Got) : (encG g).okc = true := by
  rw [encG_eq]
  obtain ⟨K, N, S, M, L, T, K', N', S', M', L', T', h, h1, h2⟩ := @gcs_ex g.id g.dat g.deep (.lst (encGs g.subs))
  rw [h]; rfl
@[simp] theorem encG_cells_length (g : Got) : (encG g).cells.length = 14 := by rw [encG_eq]; exact gcs_length
@[simp] theorem encG_take (g : Got) : (encG g).cells.take 14 = (encG g).cells := List.take_of_length_le (by simp)
theorem encG_cells (g : Got) : (encG g).cells = gcs g.id g.deep g.dat (.lst (encGs g.subs)) := by rw [encG_eq]; rfl
@[simp] theorem gcs_take14 {I D : Dat} {n : Int} {x : AV} : (gcs I n D x).take 14 = gcs I n D x := List.take_of_length_le (by simp)
@[simp] theorem gcs_agg (g : Got) : AV.agg (gcs g.id g.deep g.dat (.lst (encGs g.subs))) = encG g := (encG_eq g).symm
@[simp] theorem encG_agg (g : Got) : AV.agg (encG g).cells = encG g := by rw [encG_cells, encG_eq]
@[simp] theorem fzv_encG (m : Mem) (g : Got) : fzv m (encG g) = (encG g, m) := by
  rw [encG_eq]
  obtain ⟨K, N, S, M, L, T, K', N', S', M', L', T', h, h1, h2⟩ := @gcs_ex g.id g.dat g.deep (.lst (encGs g.subs))
  rw [h]; simp
@[simp] theorem fzs_gcs {I D : Dat} {n : Int} {l : List AV} (m : Mem) : fzs m (gcs I n D (.lst l)) = (gcs I n D (.lst l), m) := by
  obtain ⟨K, N, S, M, L, T, K', N', S', M', L', T', h, h1, h2⟩ := @gcs_ex I D n (.lst l)
  rw [h]; simp [fzs]
@[simp] theorem fzvs_encGs (m : Mem) : ∀ l : List Got, fzvs m (encGs l) = (encGs l, m)
  | [] => by simp [encGs, fzvs]
  | g :: l => by simp [encGs, fzvs, fzvs_encGs m l]
mutual
@[simp] theorem bel_encG (n : Nat) : ∀ g : Got, (encG g).bel n = true
  | .mk I k D L => by
    obtain ⟨K, N, S, M, L1, T, K', N', S', M', L', T', h, h1, h2⟩ := @gcs_ex I D k (.lst (encGs L))
    have e1 := bel_enc n I
    have e2 := bel_enc n D
    rw [← enc_agg I, h1] at e1
    rw [← enc_agg D, h2] at e2
    have e3 := bels_encGs n L
    rw [encG, h]
    simp [AV.bel, AV.bels] at e1 e2 ⊢
    exact e3
@[simp] theorem bels_encGs (n : Nat) : ∀ l : List Got, AV.bels n (encGs l) = true
  | [] => by simp [encGs, AV.bels]
  | g :: l => by simp [encGs, AV.bels, bel_encG n g, bels_encGs n l]
end
theorem okAll_encGs : ∀ l : List Got, okAll 14 (encGs l) = true
  | [] => by simp [encGs, okAll_nil]
  | d :: l => by rw [encGs, okAll_cons, okAll_encGs l]; simp

mutual
/-- Nothing in it is too long. -/
def Got.fits : Got → Prop
  | .mk I n D L => I.fits ∧ D.fits ∧ (-9223372036854775808 ≤ n ∧ n ≤ 9223372036854775807) ∧ L.length < 2 ^ 21 ∧ gfits L
def gfits : List Got → Prop
  | [] => True
  | g :: l => g.fits ∧ gfits l
end
theorem gfits_mem : ∀ {l : List Got}, gfits l → ∀ {g : Got}, g ∈ l → g.fits
  | x :: l, h, g, hg => by
    rw [gfits] at h
    rcases List.mem_cons.1 hg with rfl | hg
    · exact h.1
    · exact gfits_mem h.2 hg
theorem gfits_of : ∀ {l : List Got}, (∀ g ∈ l, g.fits) → gfits l
  | [], _ => by simp [gfits]
  | x :: l, h => by rw [gfits]; exact ⟨h x (by simp), gfits_of fun g hg => h g (by simp [hg])⟩
theorem Got.fits_i {g : Got} (h : g.fits) : g.id.fits ∧ g.dat.fits ∧ (-9223372036854775808 ≤ g.deep ∧ g.deep ≤ 9223372036854775807) ∧ g.subs.length < 2 ^ 21 ∧ gfits g.subs := by
  cases g; rw [Got.fits] at h; exact h

/-- A datum's kind. -/
def Dat.k : Dat → Int | .mk K _ _ _ _ _ => K
def Dat.s : Dat → List UInt8 | .mk _ _ S _ _ _ => S
/-- Three dots. -/
def dotsB (d : Dat) : Bool := decide (d.k = 5) && decide (d.s = [46, 46, 46])
theorem t29 (d : Dat) : Gives Tryz.prog cw 29 [enc d] (.sc (.bool (dotsB d))) := by
  refine gives_run Tryz.func29 rfl rfl rfl rfl (by simp) (by simp [Tryz.f29]) (by simp [Tryz.f29]) fun m => ?_
  obtain ⟨K, N, S, M, L, T⟩ := d
  by_cases h : K = 5
  · simp [Tryz.f29, show cw.keepRes 29 = false from rfl, enc, h, dotsB, Dat.k, Dat.s]
    exact decide_eq_decide.2 Iff.rfl
  · simp [Tryz.f29, show cw.keepRes 29 = false from rfl, enc, h, dotsB, Dat.k, Dat.s]
theorem t28 (d : Dat) (hd : d.fits) : Gives Tryz.prog cw 28 [enc d] (.sc (.bool (decide (d.k = 5) && decide (chk d = 0)))) := by
  refine gives_run Tryz.func28 rfl rfl rfl rfl (by simp) (by simp [Tryz.f28]) (by simp [Tryz.f28]) fun m => ?_
  have h14 := cw_gives (g14 d hd)
  obtain ⟨K, N, S, M, L, T⟩ := d
  by_cases h : K = 5
  · subst h
    simp [Tryz.f28, show cw.keepRes 28 = false from rfl, enc, Dat.k]
    simp [enc] at h14
    simp [h14.go]
    trace_state
  · simp [Tryz.f28, show cw.keepRes 28 = false from rfl, enc, h, Dat.k]
end Go.Proofs.YtjiijacibpgciaaGreat
