import Derived.Test.YtjiijacibpgciaaGreatTJoin
/- Maps with numbers as keys: which numbers are in it. -/
set_option linter.unusedSimpArgs false
set_option linter.unusedVariables false
set_option linter.unusedSectionVars false
namespace Go.V
variable {P : Program}
theorem findNow_int {q : IntKind} {k : Int} : ∀ (ks : List Int) (i : Nat), Instr.findNow (.int q) (.int .i64 k) (ks.map fun x => ⟨.int .i64 x, undef, 0⟩) i = some ((ks.findIdx? fun x => decide (x = k)).map fun j => (j + i, undef))
  | [], i => rfl
  | x :: ks, i => by
    simp only [List.map_cons, Instr.findNow, List.findIdx?_cons]
    have h : Instr.sameNow (.int q) (.int .i64 k) (.int .i64 x) = some (decide (x = k)) := by
      show some _ = _
      congr 1
      rw [Bool.eq_iff_iff]
      simp only [decide_eq_true_eq]
      constructor
      · intro h; first | exact (by simpa using h : k = x).symm | exact (by simpa using h)
      · intro h; subst h; simp
    rw [h]
    by_cases e : x = k
    · simp [e]
    · simp only [e, decide_false, findNow_int ks (i + 1)]
      cases ks.findIdx? fun x => decide (x = k) with
      | none => simp
      | some j => simp; omega
theorem afind_int {T : TypeId} {q : IntKind} (hT : P.underlying T = some (.int q)) (k : Int) (ks : List Int) : afind P T (.int .i64 k) (ks.map fun x => .int .i64 x) = some (ks.findIdx? fun x => decide (x = k)) := by
  have e : (ks.map fun x => Value.int .i64 x).map (fun x => (⟨x, undef, 0⟩ : MapEntry)) = ks.map fun x => ⟨.int .i64 x, undef, 0⟩ := by rw [List.map_map]; rfl
  unfold afind
  rw [hT]
  dsimp only
  rw [e, findNow_int]
  cases ks.findIdx? fun x => decide (x = k) <;> simp
theorem akey_int {T : TypeId} {q : IntKind} (hT : P.underlying T = some (.int q)) (e : Bool) (k : Int) : akey P T e (.sc (.int .i64 k)) = some (.int .i64 k) := by
  have h : pureRun P (Instr.checkKey e 10000 T (.int .i64 k)) = some () := by
    rw [show (10000 : Nat) = 9999 + 1 from rfl]
    unfold Instr.checkKey
    rw [pureRun_bind, pureRun_underlying hT]
    rfl
  unfold akey
  simp [plain, h]
/-- A set of numbers. -/
def SetOk (m : Mem) (id : Nat) (ks : List Int) : Prop := ∃ M, m.map id = some M ∧ M.es.map (·.1) = ks.map (fun x => Value.int .i64 x) ∧ ∀ e ∈ M.es, e.2.1 = .sc (.bool true)
theorem SetOk.keep {m m' : Mem} {id : Nat} {ks : List Int} (h : SetOk m id ks) (e : m'.map id = m.map id) : SetOk m' id ks := by
  obtain ⟨M, h1, h2⟩ := h
  exact ⟨M, by rw [e]; exact h1, h2⟩
section
variable {t kt et : TypeId} {q : IntKind}
theorem SetOk.look (h : tmap P t = some (kt, et)) (hk : P.underlying kt = some (.int q)) (hz : tzero P et = some (.sc (.bool false))) {m : Mem} {id : Nat} {ks : List Int} (hs : SetOk m id ks) (k : Int) :
    alookup P t (.mp id) (.sc (.int .i64 k)) false m = some (.sc (.bool (decide (k ∈ ks)))) := by
  obtain ⟨M, h1, h2, h3⟩ := hs
  unfold alookup amapOf
  simp only [h, h1, Option.map_some, akey_int hk, h2, afind_int hk]
  cases hf : ks.findIdx? fun x => decide (x = k) with
  | none =>
    rw [List.findIdx?_eq_none_iff] at hf
    have : ¬ k ∈ ks := fun hm => by have := hf k hm; simp at this
    simp [hz, this]
  | some i =>
    rw [List.findIdx?_eq_some_iff_getElem] at hf
    obtain ⟨hi, e1, _⟩ := hf
    have e1 : ks[i] = k := by simpa using e1
    have hl : M.es.length = ks.length := by have := congrArg List.length h2; simpa using this
    obtain ⟨e, he⟩ : ∃ e, M.es[i]? = some e := ⟨_, List.getElem?_eq_getElem (by omega)⟩
    have hm : k ∈ ks := by rw [← e1]; exact List.getElem_mem hi
    have := h3 e (List.mem_of_getElem? he)
    obtain ⟨a, b, c⟩ := e
    simp only at this
    simp [he, this, hm]
theorem SetOk.put (h : tmap P t = some (kt, et)) (hk : P.underlying kt = some (.int q)) {m : Mem} {id : Nat} {ks : List Int} (hs : SetOk m id ks) (k : Int) :
    ∃ es ck, amapUpdate P t (.mp id) (.sc (.int .i64 k)) (.sc (.bool true)) m = some (m.setMap id es ck) ∧ ∃ ks', SetOk (m.setMap id es ck) id ks' ∧ ∀ x, x ∈ ks' ↔ x = k ∨ x ∈ ks := by
  obtain ⟨M, h1, h2, h3⟩ := hs
  unfold amapUpdate
  simp only [h, h1, akey_int hk, h2, afind_int hk]
  have hl : M.es.length = ks.length := by have := congrArg List.length h2; simpa using this
  cases hf : ks.findIdx? fun x => decide (x = k) with
  | none =>
    refine ⟨_, _, rfl, ks ++ [k], ⟨_, by simp; rfl, by simp [h2], ?_⟩, fun x => by simp [or_comm]⟩
    intro e he
    simp at he
    rcases he with he | rfl
    · exact h3 _ he
    · rfl
  | some i =>
    rw [List.findIdx?_eq_some_iff_getElem] at hf
    obtain ⟨hi, e1, _⟩ := hf
    have e1 : ks[i] = k := by simpa using e1
    obtain ⟨e, he⟩ : ∃ e, M.es[i]? = some e := ⟨_, List.getElem?_eq_getElem (by omega)⟩
    have hm : k ∈ ks := by rw [← e1]; exact List.getElem_mem hi
    have hk0 : e.1 = .int .i64 k := by
      have := congrArg (fun l => l[i]?) h2
      simp [he, hi, e1] at this
      exact this
    obtain ⟨a, b, c⟩ := e
    simp only at hk0
    subst hk0
    have hb : Instr.sameBits 10000 (.int .i64 k) (.int .i64 k) = true := by
      rw [show (10000 : Nat) = 9999 + 1 from rfl]
      unfold Instr.sameBits
      simp
    simp only [he, hb, if_true]
    refine ⟨_, _, rfl, ks, ⟨_, by simp; rfl, ?_, ?_⟩, fun x => ⟨fun h => .inr h, fun h => h.elim (fun h => h ▸ hm) fun h => h⟩⟩
    · have hi2 : i < M.es.length := by omega
      rw [List.map_set, h2]
      simp only
      apply List.ext_getElem?
      intro j
      rw [List.getElem?_set]
      by_cases hji : i = j
      · subst hji; simp [hi, e1]
      · simp [hji]
    · intro e he'
      rcases List.mem_or_eq_of_mem_set he' with he' | rfl
      · exact h3 _ he'
      · rfl
end
end Go.V
namespace Go.Proofs.YtjiijacibpgciaaGreat
end Go.Proofs.YtjiijacibpgciaaGreat
