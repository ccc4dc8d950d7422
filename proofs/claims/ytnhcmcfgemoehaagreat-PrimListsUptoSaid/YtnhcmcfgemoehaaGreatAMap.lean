import Derived.Test.YtnhcmcfgemoehaaGreatAAlloc
/- Going through a list from its end. -/
set_option linter.unusedSimpArgs false
set_option linter.unusedVariables false
set_option linter.unusedSectionVars false
namespace Go.Proofs.YtnhcmcfgemoehaaGreat
set_option maxRecDepth 4000
open Go.V
attribute [local simp] Nat.add_assoc

set_option maxHeartbeats 4000000 in
theorem back108 {J : Nat → Mem → Prop} {lo db : Nat} (l : List Dat) (hl : l.length < 2 ^ 21)
    (hJ : ∀ k x m, l[k]? = some x → J (k + 1) m → wph Tryz.prog ca (.yield lo) [int k, enc x] m fun v m' => v = .sc (.bool true) ∧ J k m')
    (hb : ∀ k m, J k m → has m db [.lst (encs l)]) (m : Mem) (h : J l.length m) : wph Tryz.prog ca (.func 108) [.yl lo, .ptr db 0] m fun v m' => v = .tup [] ∧ J 0 m' := by
  refine wph_go Tryz.func108 rfl rfl (by simp [Tryz.f108]) (by simp [Tryz.f108]) fun Q hQ => ?_
  simp only [Tryz.f108, show ca.keepRes 108 = false from rfl, show ca.keepArgs 108 = false from rfl] at hQ ⊢
  obtain ⟨bl, bv, be⟩ := hb _ _ h
  have w0 : IntKind.i64.wrap ((l.length : Int) - 1) = (l.length : Int) - 1 := IntWalk.i64_in _ (by omega)
  simp [be, w0]
  refine go_loop (fun k s m' => k ≤ l.length ∧ s.at 3 = int ((k : Int) - 1) ∧ s.at 0 = .yl lo ∧ s.at 1 = .ptr db 0 ∧ J k m') l.length ⟨Nat.le_refl _, by simp, by simp, by simp, h⟩ ?_
  rintro k s m' ⟨hk, e3, e0, e1, hJk⟩ Q' hn he
  obtain ⟨bl, bv, be⟩ := hb _ _ hJk
  simp [e3]
  cases k with
  | zero =>
    simp
    refine he _ _ _ (by simp) ?_
    simp
    exact hQ _ _ _ (by rw [leave_none (.inl rfl)]; exact ⟨rfl, hJk⟩)
  | succ k =>
    obtain ⟨x, hx⟩ : ∃ x, l[k]? = some x := ⟨_, List.getElem?_eq_getElem (by omega)⟩
    have hx' : (encs l)[k]? = some (enc x) := by rw [encs_get, hx]; rfl
    have e3' : s.at 3 = int (k : Int) := by rw [e3]; congr 3; omega
    have ek : ((k : Int) + 1 - 1) = (k : Int) := by omega
    have hix := aindexAddr_lst (P := Tryz.prog) (q := .i64) Tryz.underlying43 tsize56 hx' (enc_cells_length x)
    have h0 : (0 : Int) ≤ k := by omega
    have w1 : IntKind.i64.wrap ((k : Int) - 1) = (k : Int) - 1 := IntWalk.i64_in _ (by omega)
    have h1 : (1 : Int) ≤ (k : Int) + 1 := by omega
    simp [e0, e1, e3', be, hix, ek, h1]
    refine goH_of (hJ k x m' hx hJk) ?_
    rintro v m2 ⟨rfl, hJ2⟩
    simp [e3', w1]
    refine hn k _ _ (by omega) ⟨by omega, by simp, by simp [e0], by simp [e1], hJ2⟩
end Go.Proofs.YtnhcmcfgemoehaaGreat

/- Maps with numbers as keys. -/
namespace Go.V
variable {P : Program}
theorem findNow_int {q : IntKind} {k : Int} : ∀ (ks : List Int) (i : Nat), Instr.findNow (.int q) (.int .i64 k) (ks.map fun x => ⟨.int .i64 x, undef, 0⟩) i = some ((ks.findIdx? fun x => decide (x = k)).map fun j => (j + i, undef))
  | [], i => rfl
  | x :: ks, i => by
    simp only [List.map_cons, Instr.findNow, List.findIdx?_cons]
    have h : Instr.sameNow (.int q) (.int .i64 k) (.int .i64 x) = some (decide (x = k)) := by
      show some _ = _
      congr 1
      rw [Bool.eq_iff_iff]
      simp only [decide_eq_true_eq]
      constructor
      · intro h; first | exact (by simpa using h : k = x).symm | exact (by simpa using h)
      · intro h; subst h; simp
    rw [h]
    by_cases e : x = k
    · simp [e]
    · simp only [e, decide_false, findNow_int ks (i + 1)]
      cases ks.findIdx? fun x => decide (x = k) with
      | none => simp
      | some j => simp; omega
theorem afind_int {T : TypeId} {q : IntKind} (hT : P.underlying T = some (.int q)) (k : Int) (ks : List Int) : afind P T (.int .i64 k) (ks.map fun x => .int .i64 x) = some (ks.findIdx? fun x => decide (x = k)) := by
  have e : (ks.map fun x => Value.int .i64 x).map (fun x => (⟨x, undef, 0⟩ : MapEntry)) = ks.map fun x => ⟨.int .i64 x, undef, 0⟩ := by rw [List.map_map]; rfl
  unfold afind
  rw [hT]
  dsimp only
  rw [e, findNow_int]
  cases ks.findIdx? fun x => decide (x = k) <;> simp
theorem akey_int {T : TypeId} {q : IntKind} (hT : P.underlying T = some (.int q)) (e : Bool) (k : Int) : akey P T e (.sc (.int .i64 k)) = some (.int .i64 k) := by
  have h : pureRun P (Instr.checkKey e 10000 T (.int .i64 k)) = some () := by
    rw [show (10000 : Nat) = 9999 + 1 from rfl]
    unfold Instr.checkKey
    rw [pureRun_bind, pureRun_underlying hT]
    rfl
  unfold akey
  simp [plain, h]
theorem alookup_int {t kt et : TypeId} {q : IntKind} (h : tmap P t = some (kt, et)) (hk : P.underlying kt = some (.int q)) {m : Mem} {id : Nat} {M : AMap} (hM : m.map id = some M) {ks : List Int} (hs : M.es.map (·.1) = ks.map fun x => .int .i64 x) (k : Int) (ok : Bool) :
    alookup P t (.mp id) (.sc (.int .i64 k)) ok m = (match ks.findIdx? fun x => decide (x = k) with
      | some i => (match M.es[i]? with | some (_, v, _) => some (if ok then .tup [v, .sc (.bool true)] else v) | Option.none => Option.none)
      | Option.none => (tzero P et).map fun z => if ok then .tup [z, .sc (.bool false)] else z) := by
  unfold alookup amapOf
  simp only [h, hM, Option.map_some, akey_int hk, hs, afind_int hk]
  cases ks.findIdx? fun x => decide (x = k) <;> rfl
theorem amapUpdate_newI {t kt et : TypeId} {q : IntKind} (h : tmap P t = some (kt, et)) (hk : P.underlying kt = some (.int q)) {m : Mem} {id : Nat} {M : AMap} (hM : m.map id = some M) {ks : List Int} (hs : M.es.map (·.1) = ks.map fun x => .int .i64 x) {k : Int} (hn : (ks.findIdx? fun x => decide (x = k)) = none) (v : AV) :
    amapUpdate P t (.mp id) (.sc (.int .i64 k)) v m = some (m.setMap id (M.es ++ [(.int .i64 k, v, M.ck)]) (M.ck + 1)) := by
  unfold amapUpdate
  simp only [h, hM, akey_int hk, hs, afind_int hk, hn]
end Go.V
