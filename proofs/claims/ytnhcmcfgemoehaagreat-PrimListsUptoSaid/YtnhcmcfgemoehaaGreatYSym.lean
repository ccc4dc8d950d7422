import Derived.Test.YtnhcmcfgemoehaaGreatYDat
/- Texts that are symbols'. -/
set_option linter.unusedSimpArgs false
set_option linter.unusedVariables false
set_option linter.unusedSectionVars false
namespace Go.Proofs.YtnhcmcfgemoehaaGreat
set_option maxRecDepth 4000
open Go.V
attribute [local simp] Tryz.underlying9 Tryz.underlying5

theorem g66 (a : Int) : Gives Tryz.prog cf 74 [.sc (.int .i64 a)] (.sc (.bool (decide (-1152921504606846976 ≤ a) && decide (a ≤ 1152921504606846975)))) := by
  refine gives_go Tryz.func74 rfl rfl rfl (by simp [Tryz.f74]) (by simp [Tryz.f74]) fun m Q hQ => ?_
  simp only [Tryz.f74, show cf.keepRes 74 = false from rfl] at hQ ⊢
  simp
  by_cases h : -1152921504606846976 ≤ a
  all_goals
    simp [h]
    refine hQ _ _ _ (leave_sc (.inr rfl) at_set_eq ⟨by simp [h], .refl m⟩)

theorem g73 (a : Int) : Gives Tryz.prog cf 81 [.sc (.int .i64 a)] (.sc (.bool (decide (-1152921504606846976 ≤ a) && decide (a ≤ 1152921504606846975)))) := by
  refine gives_go Tryz.func81 rfl rfl rfl (by simp [Tryz.f81]) (by simp [Tryz.f81]) fun m Q hQ => ?_
  simp only [Tryz.f81, show cf.keepRes 81 = false from rfl] at hQ ⊢
  simp
  by_cases h : -1152921504606846976 ≤ a
  all_goals
    simp [h]
    refine hQ _ _ _ (leave_sc (.inr rfl) at_set_eq ⟨by simp [h], .refl m⟩)

theorem u8_inj {a b : UInt8} (h : (a.toNat : Int) = b.toNat) : a = b := UInt8.toNat_inj.1 (by omega)

/-- isIn -/
theorem g42 (c : UInt8) (l : List UInt8) (hl : l.length < 2 ^ 62) : Gives Tryz.prog cf 153 [.sc (.int .u8 c.toNat), .sc (.string ⟨⟨l⟩⟩)] (.sc (.bool (decide (c ∈ l)))) := by
  refine gives_go Tryz.func153 rfl rfl rfl (by simp [Tryz.f153]) (by simp [Tryz.f153]) fun m Q hQ => ?_
  simp only [Tryz.f153, show cf.keepRes 153 = false from rfl] at hQ ⊢
  simp
  refine go_loop (fun n s m' => m' = m ∧ ∃ i : Nat, n = l.length - i ∧ s.at 0 = .sc (.int .u8 c.toNat) ∧ s.at 1 = .sc (.string ⟨⟨l⟩⟩) ∧ s.at 5 = .sc (.int .i64 i) ∧ i ≤ l.length ∧ ∀ j, j < i → l[j]? ≠ some c) l.length ⟨rfl, 0, by simp⟩ ?_
  rintro n s _ ⟨rfl, i, rfl, h0, h1, h5, hi, hno⟩ Q' hn he
  simp [h0, h1, h5]
  refine goB_split (fun h => ?_) fun h => ?_
  · have hlt : i < l.length := by simpa using h
    have hb := List.getElem?_eq_getElem hlt
    simp [h0, h1, h5, aindex_str Tryz.underlying9 hb]
    refine goB_split (fun h => ?_) fun h => ?_
    · simp
      refine he _ _ _ (by simp) ?_
      simp
      refine hQ _ _ _ (leave_sc (.inr rfl) at_set_eq ⟨?_, .refl _⟩)
      have : l[i] = c := u8_inj (by simpa using h)
      have : c ∈ l := this ▸ List.getElem_mem hlt
      simp [this]
    · simp [h5]
      have hne : l[i] ≠ c := by
        intro e
        rw [e] at h
        simp at h
      refine hn (l.length - (i + 1)) _ _ (by omega) ⟨rfl, i + 1, rfl, ?_⟩
      simp [h0, h1]
      refine ⟨?_, hlt, fun j hj => ?_⟩
      · exact IntWalk.i64_in _ (by omega)
      · rcases Nat.lt_or_ge j i with h2 | h2
        · exact hno j h2
        · have : j = i := by omega
          subst this
          rw [hb]
          simpa using hne
  · simp
    refine he _ _ _ (by simp) ?_
    simp
    refine hQ _ _ _ (leave_sc (.inr rfl) at_set_eq ⟨?_, .refl _⟩)
    have hle : i = l.length := by
      have : ¬ (i < l.length) := by simpa using h
      omega
    have : ¬ c ∈ l := by
      intro hm
      obtain ⟨j, hj, e⟩ := List.getElem_of_mem hm
      exact hno j (by omega) (by rw [List.getElem?_eq_getElem hj, e])
    simp [this]

def lets : List UInt8 := [33, 36, 37, 38, 42, 47, 58, 60, 61, 62, 63, 94, 95, 126]
def digs : List UInt8 := [48, 49, 50, 51, 52, 53, 54, 55, 56, 57, 43, 45, 46, 64]
def letter (c : UInt8) : Bool := (decide (97 ≤ (c.toNat : Int)) && decide ((c.toNat : Int) ≤ 122)) || (decide (65 ≤ (c.toNat : Int)) && decide ((c.toNat : Int) ≤ 90)) || decide (c ∈ lets)

theorem g41 (c : UInt8) : Gives Tryz.prog cf 152 [.sc (.int .u8 c.toNat)] (.sc (.bool (letter c))) := by
  refine gives_go Tryz.func152 rfl rfl rfl (by simp [Tryz.f152]) (by simp [Tryz.f152]) fun m Q hQ => ?_
  simp only [Tryz.f152, show cf.keepRes 152 = false from rfl] at hQ ⊢
  simp
  by_cases h1 : (97 : Int) ≤ c.toNat <;> by_cases h2 : (c.toNat : Int) ≤ 122 <;> by_cases h3 : (65 : Int) ≤ c.toNat <;> by_cases h4 : (c.toNat : Int) ≤ 90
  all_goals
    simp [h1, h2, h3, h4]
    first
      | exact hQ _ _ _ (leave_sc (.inr rfl) at_set_eq ⟨by simp [letter, h1, h2, h3, h4], .refl m⟩)
      | refine goH_gives (g42 c lets (by decide)) fun m' hm => ?_
        simp
        exact hQ _ _ _ (leave_sc (.inr rfl) at_set_eq ⟨by simp [letter, h1, h2, h3, h4], hm⟩)

/-- May that byte stand behind the first? -/
def later (c : UInt8) : Bool := letter c || decide (c ∈ digs)
/-- May a text be a symbol's? -/
def Sym (l : List UInt8) : Bool := decide (l = [43]) || decide (l = [45]) || decide (l = [46, 46, 46]) || (decide (l.length ≤ 32) && match l with | [] => false | c :: r => letter c && r.all later)

set_option maxHeartbeats 1000000 in
theorem g13 (l : List UInt8) (hl : l.length < 2 ^ 62) : Gives Tryz.prog cf 100 [.sc (.string ⟨⟨l⟩⟩)] (.sc (.bool (Sym l))) := by
  refine gives_go Tryz.func100 rfl rfl rfl (by simp [Tryz.f100]) (by simp [Tryz.f100]) fun m Q hQ => ?_
  simp only [Tryz.f100, show cf.keepRes 100 = false from rfl] at hQ ⊢
  simp
  by_cases e1 : l = [43]
  · simp [e1]
    exact hQ _ _ _ (leave_sc (.inr rfl) at_set_eq ⟨by simp [Sym, e1], .refl m⟩)
  by_cases e2 : l = [45]
  · simp [e1, e2]
    exact hQ _ _ _ (leave_sc (.inr rfl) at_set_eq ⟨by simp [Sym, e2], .refl m⟩)
  by_cases e3 : l = [46, 46, 46]
  · simp [e1, e2, e3]
    exact hQ _ _ _ (leave_sc (.inr rfl) at_set_eq ⟨by simp [Sym, e3], .refl m⟩)
  simp [e1, e2, e3]
  cases l with
  | nil =>
    simp
    exact hQ _ _ _ (leave_sc (.inr rfl) at_set_eq ⟨by simp [Sym], .refl m⟩)
  | cons c r =>
    have hz : ¬ ((r.length : Int) + 1 < 1) := by omega
    by_cases e4 : (32 : Int) < r.length + 1
    · simp [hz, e4]
      exact hQ _ _ _ (leave_sc (.inr rfl) at_set_eq ⟨by simp [Sym, e1, e2, e3]; omega, .refl m⟩)
    · simp [hz, e4]
      refine goH_gives (g41 c) fun m1 k1 => ?_
      cases e5 : letter c with
      | false =>
        simp
        exact hQ _ _ _ (leave_sc (.inr rfl) at_set_eq ⟨by simp [Sym, e1, e2, e3, e5], k1⟩)
      | true =>
        simp
        refine go_loop (fun n s m' => Kp m m' ∧ ∃ i : Nat, n = (c :: r).length - i ∧ s.at 0 = .sc (.string ⟨⟨c :: r⟩⟩) ∧ s.at 3 = .sc (.int .i64 i) ∧ 1 ≤ i ∧ i ≤ (c :: r).length ∧ ∀ j b, 1 ≤ j → j < i → (c :: r)[j]? = some b → later b = true) ((c :: r).length - 1) ⟨k1, 1, by simp; omega⟩ ?_
        rintro n s m2 ⟨k2, i, rfl, h0, h3, hi1, hi, hno⟩ Q' hn he
        simp [h0, h3]
        refine goB_split (fun h => ?_) fun h => ?_
        · have hlt : i < (c :: r).length := by simp at h ⊢; omega
          obtain ⟨b, hb⟩ : ∃ b, (c :: r)[i]? = some b := ⟨_, List.getElem?_eq_getElem hlt⟩
          simp [h0, h3, aindex_str Tryz.underlying9 hb]
          refine goH_gives (g41 b) fun m3 k3 => ?_
          have fin : ∀ m4 s4, Kp m m4 → later b = true → s4.at 0 = .sc (.string ⟨⟨c :: r⟩⟩) → s4.at 3 = .sc (.int .i64 (IntKind.i64.wrap (i + 1))) → Q' .normal s4 m4 := by
            intro m4 s4 k4 hb2 h0' h3'
            refine hn ((c :: r).length - (i + 1)) _ _ (by omega) ⟨k4, i + 1, rfl, h0', ?_, by omega, hlt, fun j b' hj1 hj hb' => ?_⟩
            · rw [h3', IntWalk.i64_in _ (by omega)]; rfl
            · rcases Nat.lt_or_ge j i with h2 | h2
              · exact hno j b' hj1 h2 hb'
              · have : j = i := by omega
                subst this
                rw [hb] at hb'
                cases hb'
                exact hb2
          cases e6 : letter b with
          | true =>
            simp [h3]
            exact fin _ _ (k2.trans k3) (by simp [later, e6]) (by simp [h0]) (by simp)
          | false =>
            simp [h0, h3, aindex_str Tryz.underlying9 hb]
            refine goH_gives (g42 b digs (by decide)) fun m4 k4 => ?_
            by_cases e7 : b ∈ digs
            · simp [e7, h3]
              exact fin _ _ ((k2.trans k3).trans k4) (by simp [later, e7]) (by simp [h0]) (by simp)
            · simp [e7]
              refine he _ _ _ (by simp) ?_
              simp
              refine hQ _ _ _ (leave_sc (.inr rfl) at_set_eq ⟨?_, (k2.trans k3).trans k4⟩)
              have hmem : b ∈ r := by
                obtain ⟨i', rfl⟩ : ∃ i', i = i' + 1 := ⟨i - 1, by omega⟩
                rw [List.getElem?_cons_succ] at hb
                exact List.mem_of_getElem? hb
              have : r.all later = false := by
                rw [List.all_eq_false]
                exact ⟨b, hmem, by simp [later, e6, e7]⟩
              simp [Sym, e1, e2, e3, this]
        · simp
          refine he _ _ _ (by simp) ?_
          simp
          refine hQ _ _ _ (leave_sc (.inr rfl) at_set_eq ⟨?_, k2⟩)
          have hle : i = (c :: r).length := by simp at h hi ⊢; omega
          have : r.all later = true := by
            rw [List.all_eq_true]
            intro b hb
            obtain ⟨j, hj, e⟩ := List.getElem_of_mem hb
            exact hno (j + 1) b (by omega) (by simp at hle ⊢; omega) (by rw [List.getElem?_cons_succ, List.getElem?_eq_getElem hj, e])
          simp [Sym, this, e5]
          omega

theorem find_idx (l : List UInt8) (c : UInt8) : ∃ r : Int, (match (List.range (⟨⟨l⟩⟩ : ByteArray).size).find? (fun i => (⟨⟨l⟩⟩ : ByteArray)[i]! == c) with | some i => goInt i | none => goInt (-1)) = .int .i64 r ∧ (r < 0 ↔ c ∉ l) := by
  have hg : ∀ i, i < l.length → (⟨⟨l⟩⟩ : ByteArray)[i]! = l[i]! := fun i hi => by
    rw [getElem!_pos (⟨⟨l⟩⟩ : ByteArray) i (by simpa [ByteArray.size] using hi), getElem!_pos l i hi]
    rfl
  have hs : (⟨⟨l⟩⟩ : ByteArray).size = l.length := by simp [ByteArray.size]
  rw [hs]
  cases hf : (List.range l.length).find? (fun i => (⟨⟨l⟩⟩ : ByteArray)[i]! == c) with
  | some i =>
    refine ⟨i, rfl, ?_⟩
    have h1 := List.find?_some hf
    have h2 := List.mem_range.1 (List.mem_of_find?_eq_some hf)
    rw [hg i h2, getElem!_pos l i h2] at h1
    have : c ∈ l := by rw [← (by simpa using h1 : l[i] = c)]; exact List.getElem_mem h2
    simp [this]
  | none =>
    refine ⟨-1, rfl, ?_⟩
    rw [List.find?_eq_none] at hf
    have : c ∉ l := by
      intro hm
      obtain ⟨j, hj, e⟩ := List.getElem_of_mem hm
      have := hf j (List.mem_range.2 hj)
      rw [hg j hj, getElem!_pos l j hj] at this
      simp [e] at this
    simp [this]

theorem ext65 : Extern.findNext Tryz.f183 = none ∧ Extern.find Tryz.f183 = some Extern.BytealgIndexByte.indexByte := by
  constructor <;> kernel_rfl

theorem g65 (l : List UInt8) (c : UInt8) : ∃ r : Int, (r < 0 ↔ c ∉ l) ∧ Gives Tryz.prog cf 183 [.sc (.string ⟨⟨l⟩⟩), .sc (.int .u8 c.toNat)] (.sc (.int .i64 r)) := by
  obtain ⟨r, h1, h2⟩ := find_idx l c
  refine ⟨r, h2, gives_extern Tryz.func183 rfl rfl (vs := [.string ⟨⟨l⟩⟩, .int .u8 c.toNat]) rfl (r := .int .i64 r) ?_⟩
  rw [pureRun_extern Tryz.func183 rfl rfl ext65.1 ext65.2]
  have h3 : pureRun Tryz.prog (Extern.BytealgIndexByte.indexByte [.string ⟨⟨l⟩⟩, .int .u8 c.toNat].toArray) = some (.int .i64 r) := by
    show pureRun Tryz.prog (do let b ← Extern.Bytes.bytesOf (.string ⟨⟨l⟩⟩); let c ← Extern.Bytes.asByte (.int .u8 c.toNat); match (List.range b.size).find? (fun i => b[i]! == c) with | some i => pure (goInt i) | none => pure (goInt (-1))) = _
    have h4 : ((c.toNat : Int).toNat).toUInt8 = c := by simp
    rw [pureRun_bind]
    show pureRun Tryz.prog (do let c ← Extern.Bytes.asByte (.int .u8 c.toNat); match (List.range (⟨⟨l⟩⟩ : ByteArray).size).find? (fun i => (⟨⟨l⟩⟩ : ByteArray)[i]! == c) with | some i => pure (goInt i) | none => pure (goInt (-1))) = _
    rw [pureRun_bind]
    show pureRun Tryz.prog (match (List.range (⟨⟨l⟩⟩ : ByteArray).size).find? (fun i => (⟨⟨l⟩⟩ : ByteArray)[i]! == ((c.toNat : Int).toNat).toUInt8) with | some i => pure (goInt i) | none => pure (goInt (-1))) = _
    rw [h4, ← h1]
    split <;> rfl
  rw [h3]
  rfl

theorem g57 (l : List UInt8) (c : UInt8) : ∃ r : Int, (r < 0 ↔ c ∉ l) ∧ Gives Tryz.prog cf 178 [.sc (.string ⟨⟨l⟩⟩), .sc (.int .u8 c.toNat)] (.sc (.int .i64 r)) := by
  obtain ⟨r, h, hg⟩ := g65 l c
  refine ⟨r, h, ?_⟩
  refine gives_go Tryz.func178 rfl rfl rfl (by simp [Tryz.f178]) (by simp [Tryz.f178]) fun m Q hQ => ?_
  simp only [Tryz.f178, show cf.keepRes 178 = false from rfl] at hQ ⊢
  simp
  refine goH_gives hg fun m1 k1 => ?_
  simp
  exact hQ _ _ _ (leave_sc (.inr rfl) at_set_eq ⟨rfl, k1⟩)

theorem g40 (l : List UInt8) (c : UInt8) : ∃ r : Int, (r < 0 ↔ c ∉ l) ∧ Gives Tryz.prog cf 160 [.sc (.string ⟨⟨l⟩⟩), .sc (.int .u8 c.toNat)] (.sc (.int .i64 r)) := by
  obtain ⟨r, h, hg⟩ := g57 l c
  refine ⟨r, h, ?_⟩
  refine gives_go Tryz.func160 rfl rfl rfl (by simp [Tryz.f160]) (by simp [Tryz.f160]) fun m Q hQ => ?_
  simp only [Tryz.f160, show cf.keepRes 160 = false from rfl] at hQ ⊢
  simp
  refine goH_gives hg fun m1 k1 => ?_
  simp
  exact hQ _ _ _ (leave_sc (.inr rfl) at_set_eq ⟨rfl, k1⟩)

def begins : List UInt8 := [97, 98, 99, 100, 101, 102, 103, 104, 105, 106, 107, 108, 109, 110, 111, 112, 113, 114, 115, 116, 117, 118, 119, 120, 121, 122, 65, 66, 67, 68, 69, 70, 71, 72, 73, 74, 75, 76, 77, 78, 79, 80, 81, 82, 83, 84, 85, 86, 87, 88, 89, 90, 33, 36, 37, 38, 42, 47, 58, 60, 61, 62, 63, 94, 95, 126]
def goes : List UInt8 := [97, 98, 99, 100, 101, 102, 103, 104, 105, 106, 107, 108, 109, 110, 111, 112, 113, 114, 115, 116, 117, 118, 119, 120, 121, 122, 65, 66, 67, 68, 69, 70, 71, 72, 73, 74, 75, 76, 77, 78, 79, 80, 81, 82, 83, 84, 85, 86, 87, 88, 89, 90, 33, 36, 37, 38, 42, 47, 58, 60, 61, 62, 63, 94, 95, 126, 48, 49, 50, 51, 52, 53, 54, 55, 56, 57, 43, 45, 46, 64]
theorem letter_begins (c : UInt8) : letter c = decide (c ∈ begins) := by
  have h : ∀ n : Fin 256, letter (UInt8.ofNat n.val) = decide (UInt8.ofNat n.val ∈ begins) := by decide +kernel
  have := h ⟨c.toNat, c.toNat_lt⟩
  simpa using this
theorem later_goes (c : UInt8) : later c = decide (c ∈ goes) := by
  have h : ∀ n : Fin 256, later (UInt8.ofNat n.val) = decide (UInt8.ofNat n.val ∈ goes) := by decide +kernel
  have := h ⟨c.toNat, c.toNat_lt⟩
  simpa using this
theorem later_of_letter {c : UInt8} (h : letter c = true) : later c = true := by simp [later, h]

set_option maxHeartbeats 1000000 in
theorem g12 (l : List UInt8) (hl : l.length < 2 ^ 62) : Gives Tryz.prog cf 106 [.sc (.string ⟨⟨l⟩⟩)] (.sc (.bool (Sym l))) := by
  refine gives_go Tryz.func106 rfl rfl rfl (by simp [Tryz.f106]) (by simp [Tryz.f106]) fun m Q hQ => ?_
  simp only [Tryz.f106, show cf.keepRes 106 = false from rfl] at hQ ⊢
  simp
  by_cases e1 : l = [43]
  · simp [e1]
    exact hQ _ _ _ (leave_sc (.inr rfl) at_set_eq ⟨by simp [Sym, e1], .refl m⟩)
  by_cases e2 : l = [45]
  · simp [e1, e2]
    exact hQ _ _ _ (leave_sc (.inr rfl) at_set_eq ⟨by simp [Sym, e2], .refl m⟩)
  by_cases e3 : l = [46, 46, 46]
  · simp [e1, e2, e3]
    exact hQ _ _ _ (leave_sc (.inr rfl) at_set_eq ⟨by simp [Sym, e3], .refl m⟩)
  simp [e1, e2, e3]
  cases l with
  | nil =>
    simp
    exact hQ _ _ _ (leave_sc (.inr rfl) at_set_eq ⟨by simp [Sym], .refl m⟩)
  | cons c r =>
    simp
    by_cases e4 : (32 : Int) < r.length + 1
    · simp [e4]
      exact hQ _ _ _ (leave_sc (.inr rfl) at_set_eq ⟨by simp [Sym, e1, e2, e3]; omega, .refl m⟩)
    · simp [e4]
      obtain ⟨q, hq, hg⟩ := g40 begins c
      refine goH_gives hg fun m1 k1 => ?_
      by_cases e5 : q < 0
      · simp [e5]
        have : letter c = false := by rw [letter_begins]; simpa using hq.1 e5
        exact hQ _ _ _ (leave_sc (.inr rfl) at_set_eq ⟨by simp [Sym, e1, e2, e3, this], k1⟩)
      · have hc : letter c = true := by
          rw [letter_begins]
          simp only [decide_eq_true_eq]
          exact Classical.byContradiction fun h => e5 (hq.2 h)
        simp [e5]
        refine go_loop (fun n s m' => Kp m m' ∧ ∃ i : Nat, n = (c :: r).length - i ∧ s.at 0 = .sc (.string ⟨⟨c :: r⟩⟩) ∧ s.at 21 = .sc (.int .i64 ((c :: r).length : Nat)) ∧ s.at 22 = .sc (.int .i64 i) ∧ i ≤ (c :: r).length ∧ ∀ j b, j < i → (c :: r)[j]? = some b → later b = true) ((c :: r).length) ⟨k1, 0, by simp⟩ ?_
        rintro n s m2 ⟨k2, i, rfl, h0, h21, h22, hi, hno⟩ Q' hn he
        simp [h0, h21, h22]
        refine goB_split (fun h => ?_) fun h => ?_
        · have hlt : i < (c :: r).length := by simp at h ⊢; omega
          obtain ⟨b, hb⟩ : ∃ b, (c :: r)[i]? = some b := ⟨_, List.getElem?_eq_getElem hlt⟩
          obtain ⟨q2, hq2, hg2⟩ := g40 goes b
          simp [h0, h22, aindex_str Tryz.underlying9 hb]
          refine goH_gives hg2 fun m3 k3 => ?_
          by_cases e6 : q2 < 0
          · simp [e6]
            refine he _ _ _ (by simp) ?_
            simp
            refine hQ _ _ _ (leave_sc (.inr rfl) at_set_eq ⟨?_, k2.trans k3⟩)
            have hb2 : later b = false := by rw [later_goes]; simpa using hq2.1 e6
            have : (c :: r).all later = false := by
              rw [List.all_eq_false]
              exact ⟨b, List.mem_of_getElem? hb, by simp [hb2]⟩
            simp only [List.all_cons, later_of_letter hc, Bool.true_and] at this
            simp [Sym, e1, e2, e3, this]
          · have hb2 : later b = true := by
              rw [later_goes]
              simp only [decide_eq_true_eq]
              exact Classical.byContradiction fun h => e6 (hq2.2 h)
            simp [e6, h22]
            refine hn ((c :: r).length - (i + 1)) _ _ (by omega) ⟨k2.trans k3, i + 1, rfl, by simp [h0], by simp [h21], ?_, hlt, fun j b' hj hb' => ?_⟩
            · rw [at_set_eq, IntWalk.i64_in _ (by omega)]; rfl
            · rcases Nat.lt_or_ge j i with h2 | h2
              · exact hno j b' h2 hb'
              · have : j = i := by omega
                subst this
                rw [hb] at hb'
                cases hb'
                exact hb2
        · simp
          refine he _ _ _ (by simp) ?_
          simp
          refine hQ _ _ _ (leave_sc (.inr rfl) at_set_eq ⟨?_, k2⟩)
          have hle : i = (c :: r).length := by simp at h hi ⊢; omega
          have : r.all later = true := by
            rw [List.all_eq_true]
            intro b hb
            obtain ⟨j, hj, e⟩ := List.getElem_of_mem hb
            exact hno (j + 1) b (by simp at hle ⊢; omega) (by rw [List.getElem?_cons_succ, List.getElem?_eq_getElem hj, e])
          simp [Sym, this, hc]
          omega
end Go.Proofs.YtnhcmcfgemoehaaGreat
