import Derived.Test.YtjiijacibpgciaaGreatVX
/- Runs told by tables: what a function answers at closed arguments; what it does at a closed memory. -/
set_option linter.unusedSimpArgs false
set_option linter.unusedVariables false
set_option linter.unusedSectionVars false
namespace Go.V
variable {P : Program} {cfg : Cfg}

/-- Plain values that are plainly the same. -/
def vEq : Value → Value → Bool
  | .int k a, .int k' b => decide (k = k') && decide (a = b)
  | .bool a, .bool b => a == b
  | .string a, .string b => decide (a.data.toList = b.data.toList)
  | .pointer none, .pointer none => true
  | .map none, .map none => true
  | .nilFunc, .nilFunc => true
  | .nilIface, .nilIface => true
  | _, _ => false
theorem vEq_eq {a b : Value} (h : vEq a b = true) : a = b := by
  unfold vEq at h
  split at h <;> simp_all
  rename_i a b
  cases a with
  | mk a => cases b with
    | mk b => simp only [Array.toList_inj] at h; subst h; rfl
mutual
def avEq : AV → AV → Bool
  | .sc a, .sc b => vEq a b
  | .ptr a b, .ptr c d => Nat.beq a c && Nat.beq b d
  | .emp a, .emp b => Nat.beq a b
  | .mp a, .mp b => Nat.beq a b
  | .lst a, .lst b => avsEq a b
  | .agg a, .agg b => avsEq a b
  | .tup a, .tup b => avsEq a b
  | .sl a b c d e f, .sl a' b' c' d' e' f' => Nat.beq a a' && Nat.beq b b' && Nat.beq c c' && Nat.beq d d' && e == e' && f == f'
  | .cptr x a, .cptr y b => Nat.beq a b && avEq x y
  | .fn (.func f) a b, .fn (.func g) c d => Nat.beq f g && avsEq a c && avsEq b d
  | .iface t x, .iface u y => Nat.beq t u && avEq x y
  | _, _ => false
def avsEq : List AV → List AV → Bool
  | [], [] => true
  | a :: l, b :: r => avEq a b && avsEq l r
  | _, _ => false
end
mutual
theorem avEq_eq : ∀ {a b : AV}, avEq a b = true → a = b := by
  intro a b h
  cases a <;> cases b <;> (try (simp [avEq] at h; done))
  case sc.sc => rw [vEq_eq h]
  case ptr.ptr => simp [avEq] at h; simp [h]
  case emp.emp => simp [avEq] at h; simp [h]
  case mp.mp => simp [avEq] at h; simp [h]
  case lst.lst => simp only [avEq] at h; rw [avsEq_eq h]
  case agg.agg => simp only [avEq] at h; rw [avsEq_eq h]
  case tup.tup => simp only [avEq] at h; rw [avsEq_eq h]
  case sl.sl => simp [avEq] at h; simp [h]
  case cptr.cptr => simp only [avEq, Bool.and_eq_true] at h; rw [avEq_eq h.2, Nat.eq_of_beq_eq_true h.1]
  case iface.iface => simp only [avEq, Bool.and_eq_true] at h; rw [avEq_eq h.2, Nat.eq_of_beq_eq_true h.1]
  case fn.fn f a b g c d =>
    cases f <;> cases g <;> (try (simp [avEq] at h; done))
    simp only [avEq, Bool.and_eq_true] at h
    rw [avsEq_eq h.1.2, avsEq_eq h.2, Nat.eq_of_beq_eq_true h.1.1]
theorem avsEq_eq : ∀ {a b : List AV}, avsEq a b = true → a = b
  | [], [], _ => rfl
  | a :: l, b :: r, h => by
    simp only [avsEq, Bool.and_eq_true] at h
    rw [avEq_eq h.1, avsEq_eq h.2]
  | [], b :: r, h => by simp [avsEq] at h
  | a :: l, [], h => by simp [avsEq] at h
end

def trEq {α : Type} (q : α → α → Bool) : Tr α → Tr α → Bool
  | .nil, .nil => true
  | .nd l v r, .nd l' v' r' => (match v, v' with | none, none => true | some a, some b => q a b | _, _ => false) && trEq q l l' && trEq q r r'
  | _, _ => false
theorem trEq_eq {α : Type} {q : α → α → Bool} (hq : ∀ a b, q a b = true → a = b) : ∀ {a b : Tr α}, trEq q a b = true → a = b
  | .nil, .nil, _ => rfl
  | .nd l v r, .nd l' v' r', h => by
    simp only [trEq, Bool.and_eq_true] at h
    rw [trEq_eq hq h.1.2, trEq_eq hq h.2]
    have h1 := h.1.1
    split at h1
    · rfl
    · rw [hq _ _ h1]
    · cases h1
  | .nil, .nd _ _ _, h => by simp [trEq] at h
  | .nd _ _ _, .nil, h => by simp [trEq] at h
def objEq : AObj → AObj → Bool
  | .cells a f v, .cells b g w => avsEq a b && f == g && Nat.beq v w
theorem objEq_eq (a b : AObj) (h : objEq a b = true) : a = b := by
  cases a; cases b
  simp only [objEq, Bool.and_eq_true, beq_iff_eq] at h
  rw [avsEq_eq h.1.1, h.1.2, Nat.eq_of_beq_eq_true h.2]
def esEq : List (Value × AV × Nat) → List (Value × AV × Nat) → Bool
  | [], [] => true
  | a :: l, b :: r => vEq a.1 b.1 && avEq a.2.1 b.2.1 && Nat.beq a.2.2 b.2.2 && esEq l r
  | _, _ => false
theorem esEq_eq : ∀ {a b : List (Value × AV × Nat)}, esEq a b = true → a = b
  | [], [], _ => rfl
  | (a, x, i) :: l, (b, y, j) :: r, h => by
    simp only [esEq, Bool.and_eq_true] at h
    obtain ⟨⟨⟨h1, h2⟩, h3⟩, h4⟩ := h
    rw [vEq_eq h1, avEq_eq h2, Nat.eq_of_beq_eq_true h3, esEq_eq h4]
  | [], b :: r, h => by simp [esEq] at h
  | a :: l, [], h => by simp [esEq] at h
def mapEq : AMap → AMap → Bool
  | ⟨a, i, v⟩, ⟨b, j, w⟩ => esEq a b && Nat.beq i j && Nat.beq v w
theorem mapEq_eq (a b : AMap) (h : mapEq a b = true) : a = b := by
  cases a; cases b
  simp only [mapEq, Bool.and_eq_true] at h
  rw [esEq_eq h.1.1, Nat.eq_of_beq_eq_true h.1.2, Nat.eq_of_beq_eq_true h.2]
def memEq (a b : Mem) : Bool := Nat.beq a.next b.next && Nat.beq a.clock b.clock && trEq objEq a.t b.t && trEq (fun _ _ => false) a.lp b.lp && trEq mapEq a.mp b.mp
theorem memEq_eq {a b : Mem} (h : memEq a b = true) : a = b := by
  cases a; cases b
  simp only [memEq, Bool.and_eq_true] at h
  obtain ⟨⟨⟨⟨h1, h2⟩, h3⟩, h4⟩, h5⟩ := h
  rw [Nat.eq_of_beq_eq_true h1, Nat.eq_of_beq_eq_true h2, trEq_eq objEq_eq h3, trEq_eq (fun _ _ h => by cases h) h4, trEq_eq mapEq_eq h5]

theorem told_body (hP : P.follows .mixedOrders = true) (h : ∀ f k, cfg.hook f = some k → ByHand P f k) (n : Nat) (f : FuncId) : ByHand P f fun args m => abody P cfg (afn P cfg n) n f args m :=
  ⟨fun B W args m v m' e hv => abody_sound hP (afn_sound hP (hooks_of h) n) (afn_ver (B := B) (W := W) (hooks_of h) n) e hv, fun args m v m' e => abody_ver (afn_ver (B := Bs.bare 0) (W := default) (hooks_of h) n) e⟩

/-- One function more is told. -/
def Cfg.tell (c : Cfg) (f : FuncId) (h : List AV → Mem → Option (AV × Mem)) : Cfg := { c with hook := fun g => if Nat.beq g f then some h else c.hook g }
theorem told_tell {f : FuncId} {h : List AV → Mem → Option (AV × Mem)} (hc : ∀ g k, cfg.hook g = some k → ByHand P g k) (hf : ByHand P f h) : ∀ g k, (cfg.tell f h).hook g = some k → ByHand P g k := by
  intro g k e
  simp only [Cfg.tell] at e
  split at e
  · rename_i hb
    have := Nat.eq_of_beq_eq_true hb
    subst this
    cases e
    exact hf
  · exact hc g k e

/-- Closed arguments, an answer of lists that never change. -/
abbrev Row := List AV × AV
def rowH (t : List Row) (args : List AV) (m : Mem) : Option (AV × Mem) :=
  match t.find? fun r => avsEq r.1 (fzvs m args).1 with
  | some r => some (r.2, (fzvs m args).2)
  | none => none
/-- It is so, by the body's run in a setting. -/
def rowRun (P : Program) (cfg : Cfg) (n : Nat) (f : FuncId) (r : Row) : Bool :=
  AV.bels 0 r.1 && r.2.bel 0 && match abody P cfg (afn P cfg n) n f r.1 Mem.empty with
    | some (v, _) => avEq v r.2
    | none => false
theorem told_row (hP : P.follows .mixedOrders = true) (h : ∀ f k, cfg.hook f = some k → ByHand P f k) {n : Nat} {f : FuncId} {t : List Row} (ht : t.all (rowRun P cfg n f) = true) : ByHand P f (rowH t) := by
  have key : ∀ args m v m', rowH t args m = some (v, m') → puH (fun args m => abody P cfg (afn P cfg n) n f args m) args m = some (v, m') := by
    intro args m v m' e
    unfold rowH at e
    split at e
    · rename_i r hr
      cases e
      have h1 := List.find?_some hr
      have h2 := List.all_eq_true.1 ht r (List.mem_of_find?_eq_some hr)
      have h3 := avsEq_eq h1
      unfold rowRun at h2
      simp only [Bool.and_eq_true] at h2
      obtain ⟨⟨h4, h5⟩, h6⟩ := h2
      split at h6
      · rename_i v' m2 hv
        have := avEq_eq h6
        subst this
        unfold puH
        rw [← h3]
        simp only [h4, hv, h5, if_true]
      · cases h6
    · cases e
  have T := told_pu (told_body hP h n f)
  exact ⟨fun B W args m v m' e => T.sound B W args m v m' (key _ _ _ _ e), fun args m v m' e => T.ver _ _ _ _ (key _ _ _ _ e)⟩

/-- A call at a closed memory. -/
structure Ent where
  args : List AV
  m : Mem
  r : AV
  m' : Mem
def entH (t : List Ent) (args : List AV) (m : Mem) : Option (AV × Mem) :=
  match t.find? fun e => avsEq e.args args && memEq e.m m with
  | some e => some (e.r, e.m')
  | none => none
def entRun (P : Program) (cfg : Cfg) (n : Nat) (f : FuncId) (e : Ent) : Bool :=
  match abody P cfg (afn P cfg n) n f e.args e.m with
  | some (v, m') => avEq v e.r && memEq m' e.m'
  | none => false
/-- What a table says of calls at closed memories. -/
def EntsOk (P : Program) (f : FuncId) (t : List Ent) : Prop := ∀ e ∈ t, ∃ h, ByHand P f h ∧ h e.args e.m = some (e.r, e.m')
theorem ents_nil {f : FuncId} : EntsOk P f [] := fun e h => by cases h
theorem ents_cons (hP : P.follows .mixedOrders = true) (h : ∀ f k, cfg.hook f = some k → ByHand P f k) {n : Nat} {f : FuncId} {e : Ent} {t : List Ent} (he : entRun P cfg n f e = true) (ht : EntsOk P f t) : EntsOk P f (e :: t) := by
  intro x hx
  rcases List.mem_cons.1 hx with rfl | hx
  · refine ⟨_, told_body hP h n f, ?_⟩
    unfold entRun at he
    split at he
    · rename_i v m' hv
      simp only [Bool.and_eq_true] at he
      rw [hv, avEq_eq he.1, memEq_eq he.2]
    · cases he
  · exact ht x hx
theorem told_ents {f : FuncId} {t : List Ent} (ht : EntsOk P f t) : ByHand P f (entH t) := by
  have key : ∀ args m v m', entH t args m = some (v, m') → ∃ h, ByHand P f h ∧ h args m = some (v, m') := by
    intro args m v m' e
    unfold entH at e
    split at e
    · rename_i x hx
      cases e
      have h1 := List.find?_some hx
      simp only [Bool.and_eq_true] at h1
      obtain ⟨h, a, b⟩ := ht x (List.mem_of_find?_eq_some hx)
      exact ⟨h, a, by rw [← avsEq_eq h1.1, ← memEq_eq h1.2]; exact b⟩
    · cases e
  exact ⟨fun B W args m v m' e hv => let ⟨h, a, b⟩ := key _ _ _ _ e; a.sound B W _ _ _ _ b hv, fun args m v m' e => let ⟨h, a, b⟩ := key _ _ _ _ e; a.ver _ _ _ _ b⟩
end Go.V
