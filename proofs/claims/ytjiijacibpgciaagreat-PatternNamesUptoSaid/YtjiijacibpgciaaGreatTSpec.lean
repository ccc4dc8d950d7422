import Derived.Test.YtjiijacibpgciaaGreatTRange
/- What is asked of what is built. -/
set_option linter.unusedSimpArgs false
set_option linter.unusedVariables false
set_option linter.unusedSectionVars false
namespace Go.V
variable {P : Program} {cfg : Cfg}
/-- What is handed in becomes lists that never change. -/
theorem eh_fz {f : FuncId} {fn : Func} {c : Code} {args args0 : List AV} {m0 m m' : Mem} {r : AV} (hf : P.funcs[f]? = some fn) (hb : fn.body = some c) (hk : cfg.hook f = none) (hka : cfg.keepArgs f = false) (hz0 : fzvs m0 args0 = (args, m)) (hz : fzvs m args = (args, m)) (h : EH P cfg (.func f) args m r m') : EH P cfg (.func f) args0 m0 r m' := by
  obtain ⟨n, hn⟩ := h.one
  have hlen : args.length = args0.length := by rw [← fzvs_length args0 m0, hz0]
  refine .of (n := n) ?_
  cases n with
  | zero => cases hn
  | succ n =>
    simp only [afn, hk, abody, hf, hb, hka, Bool.false_eq_true, if_false, hz0, hz, hlen] at hn ⊢
    exact hn
theorem wph_fz {f : FuncId} {fn : Func} {c : Code} {args args0 : List AV} {m0 m : Mem} {K : AV → Mem → Prop} (hf : P.funcs[f]? = some fn) (hb : fn.body = some c) (hk : cfg.hook f = none) (hka : cfg.keepArgs f = false) (hz0 : fzvs m0 args0 = (args, m)) (hz : fzvs m args = (args, m)) (h : wph P cfg (.func f) args m K) : wph P cfg (.func f) args0 m0 K := by
  obtain ⟨v, m', h1, h2⟩ := h
  exact ⟨v, m', eh_fz hf hb hk hka hz0 hz h1, h2⟩
end Go.V
namespace Go.Proofs.YtjiijacibpgciaaGreat
set_option maxRecDepth 4000
open Go.V
attribute [local simp] Nat.add_assoc

/-- All symbols within a datum are so. -/
def AllSym (R : Dat → Prop) (d : Dat) : Prop := ∀ x ∈ pre d, x.k = 5 → R x
theorem AllSym.mk {R : Dat → Prop} {K N : Int} {S : List UInt8} {M : List Int} {L T : List Dat} (h : K = 5 → R (.mk K N S M L T)) (hL : ∀ x ∈ L, AllSym R x) (hT : ∀ x ∈ T, AllSym R x) : AllSym R (.mk K N S M L T) := by
  have key : ∀ (l : List Dat), (∀ x ∈ l, AllSym R x) → ∀ x ∈ pres l, x.k = 5 → R x := by
    intro l
    induction l with
    | nil => intro _ x hx; simp [pres] at hx
    | cons y l ih =>
      intro h x hx
      rw [pres, List.mem_append] at hx
      rcases hx with hx | hx
      · exact h y (by simp) x hx
      · exact ih (fun z hz => h z (by simp [hz])) x hx
  intro x hx hk
  rw [pre, List.mem_cons, List.mem_append] at hx
  rcases hx with rfl | hx | hx
  · exact h hk
  · exact key L hL x hx hk
  · exact key T hT x hx hk
mutual
/-- What is got, its symbols so; a row has not many. -/
def okG (R : Dat → Prop) : Got → Prop
  | .mk _ n D L => (n = 0 → chk D = 0 ∧ AllSym R D) ∧ (n ≠ 0 → D = .mk 0 0 [] [] [] []) ∧ L.length ≤ 30 ∧ okGs R L
def okGs (R : Dat → Prop) : List Got → Prop
  | [] => True
  | g :: l => okG R g ∧ okGs R l
end
theorem okGs_mem {R : Dat → Prop} : ∀ {l : List Got}, okGs R l → ∀ {g : Got}, g ∈ l → okG R g
  | x :: l, h, g, hg => by
    rw [okGs] at h
    rcases List.mem_cons.1 hg with rfl | hg
    · exact h.1
    · exact okGs_mem h.2 hg
theorem okGs_of {R : Dat → Prop} : ∀ {l : List Got}, (∀ g ∈ l, okG R g) → okGs R l
  | [], _ => by simp [okGs]
  | x :: l, h => by rw [okGs]; exact ⟨h x (by simp), okGs_of fun g hg => h g (by simp [hg])⟩
theorem okG_i {R : Dat → Prop} {g : Got} (h : okG R g) : (g.deep = 0 → chk g.dat = 0 ∧ AllSym R g.dat) ∧ (g.deep ≠ 0 → g.dat = .mk 0 0 [] [] [] []) ∧ g.subs.length ≤ 30 ∧ okGs R g.subs := by
  cases g; rw [okG] at h; exact h
/-- What is done to a building: an error stays. -/
def Bk (B : Nat) (mark bad bad' : Int) (m m' : Mem) : Prop := KpC (fun i => i = B) m m' ∧ (∃ left, has m' B (bld mark left bad')) ∧ (bad' = 0 → bad = 0)
theorem Bk.trans {B : Nat} {mark a b c : Int} {m1 m2 m3 : Mem} (h : Bk B mark a b m1 m2) (k : Bk B mark b c m2 m3) : Bk B mark a c m1 m3 := ⟨h.1.trans k.1, k.2.1, fun e => h.2.2 (k.2.2 e)⟩
theorem t35b (B : Nat) (mark left bad n : Int) (m : Mem) (hB : has m B (bld mark left bad)) : wph Tryz.prog cw (.func 35) [.ptr B 0, int n] m fun v m' => v = .tup [] ∧ ∃ bad', Bk B mark bad bad' m m' := by
  obtain ⟨bl, bv, be⟩ := hB
  refine wph_go Tryz.func35 rfl rfl (by simp [Tryz.f35]) (by simp [Tryz.f35]) fun Q hQ => ?_
  simp only [Tryz.f35, show cw.keepRes 35 = false from rfl, show cw.keepArgs 35 = false from rfl] at hQ ⊢
  have fin : ∀ (s' : Sl) (m' : Mem) (bad' : Int), KpC (fun i => i = B) m m' → (∃ left, has m' B (bld mark left bad')) → (bad' = 0 → bad = 0) → Q .normal s' m' := fun s' m' bad' k h hb => hQ _ _ _ (by rw [leave_none (.inl rfl)]; exact ⟨rfl, bad', k, h, hb⟩)
  simp [be]
  by_cases h1 : IntKind.i64.wrap (left - n) < 0
  · by_cases h2 : bad = 0
    · simp [h1, h2]
      exact fin _ _ 3 ((kc_set _ _ _).trans (kc_set _ _ _)) ⟨_, by simp; exact bl, _, by simp; exact ⟨rfl, rfl⟩⟩ (by omega)
    · simp [h1, h2]
      exact fin _ _ bad (kc_set _ _ _) ⟨_, by simp; exact bl, _, by simp; exact ⟨rfl, rfl⟩⟩ id
  · simp [h1, undefV, undef]
    exact fin _ _ bad (kc_set _ _ _) ⟨_, by simp; exact bl, _, by simp; exact ⟨rfl, rfl⟩⟩ id
/-- What is asked of a datum that is built of a template's part. -/
def Kind67 (d : Dat) : Prop := d.k = 6 ∨ d.k = 7
def Dat.ls : Dat → List Dat | .mk _ _ _ _ L _ => L
def DatK (R : Dat → Prop) (B : Nat) (mark bad : Int) (d : Dat) (m : Mem) (v : AV) (m' : Mem) : Prop :=
  ∃ (r : Dat) (bad' : Int), v = enc r ∧ r.fits ∧ (bad' = 0 → AllSym R r) ∧ (Kind67 r → Kind67 d ∨ r.ls.length ≤ 4096) ∧ Bk B mark bad bad' m m'
def RowK (R : Dat → Prop) (B : Nat) (mark bad : Int) (m : Mem) (v : AV) (m' : Mem) : Prop :=
  ∃ (zs : List Dat) (bad' : Int), v = .lst (encs zs) ∧ zs.length ≤ 30 ∧ fitss zs ∧ (bad' = 0 → ∀ z ∈ zs, AllSym R z) ∧ Bk B mark bad bad' m m'
/-- What is asked of a template's part. -/
def Tmp (R : Dat → Prop) (mark : Int) (d : Dat) : Prop := good d = true ∧ d.size ≤ 4096 ∧ ∀ x ∈ pre d, x.k = 5 → ∀ (K N : Int) (S : List UInt8) (M : List Int), x = .mk K N S M [] [] → R (.mk K N S (if 0 < mark then M ++ [mark] else M) [] [])
theorem fitss_all : ∀ {l : List Dat}, (∀ d ∈ l, d.fits) → fitss l
  | [], _ => by simp [fitss]
  | x :: l, h => by rw [fitss]; exact ⟨h x (by simp), fitss_all fun g hg => h g (by simp [hg])⟩
end Go.Proofs.YtjiijacibpgciaaGreat
