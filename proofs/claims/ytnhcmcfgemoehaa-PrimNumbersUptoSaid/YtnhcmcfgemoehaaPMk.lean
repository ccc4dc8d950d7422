import Derived.Test.YtnhcmcfgemoehaaPDo3
/- What the procedures of numbers make. -/
set_option linter.unusedSimpArgs false
set_option linter.unusedVariables false
set_option linter.unusedSectionVars false
namespace Go.Proofs.Ytnhcmcfgemoehaa
open Go.V
attribute [local simp] Nat.add_assoc
theorem val_agg (n e : Int) : valOf n e = .agg [int (if e = 0 then 1 else 0), int (if e = 0 then n else 0)] := by
  unfold valOf
  split <;> rfl
theorem mk3 (x y : Int) : Mk 30 3 [x, y] (if (quoR x y).2 = 0 then 1 else 0) (if (quoR x y).2 = 0 then (quoR x y).1 else 0) (kdOf (quoR x y).2) := fun C A m h => by
  rw [← val_agg]; exact e30q h
theorem mk4 (x y : Int) : Mk 30 4 [x, y] (if (remR x y).2 = 0 then 1 else 0) (if (remR x y).2 = 0 then (remR x y).1 else 0) (kdOf (remR x y).2) := fun C A m h => by
  rw [← val_agg]; exact e30r h
theorem in_one : isIn 1 = true := rfl
theorem in_zero : isIn 0 = true := rfl
theorem mk2 {x y : Int} (hx : isIn x = true) (hy : isIn y = true) (hxy : isIn (x * y) = true) : Mk 30 2 [x, y] 1 (x * y) 0 := fun C A m h => by
  have q := e30m (x := x) (y := y) (C := C) (A := A) (m := m) (fun i => match i with | 0 => 1 | 1 => x | _ => x * y) rfl (fun i n hi => ?_) h
  · exact q
  · rcases i with _ | _ | i
    · simp at hi; subst hi
      have := a48 in_one hx (by rw [Int.one_mul]; exact hx)
      rwa [Int.one_mul] at this
    · simp at hi; subst hi
      exact a48 hx hy hxy
    · simp at hi
theorem mk0 {x y : Int} (hx : isIn x = true) (hy : isIn y = true) (hxy : isIn (x + y) = true) : Mk 30 0 [x, y] 1 (x + y) 0 := fun C A m h => by
  have q := e30a (x := x) (y := y) (C := C) (A := A) (m := m) (fun i => match i with | 0 => 0 | 1 => x | _ => x + y) rfl (fun i n hi => ?_) h
  · exact q
  · rcases i with _ | _ | i
    · simp at hi; subst hi
      have := a47 in_zero hx (by rw [Int.zero_add]; exact hx)
      rwa [Int.zero_add] at this
    · simp at hi; subst hi
      exact a47 hx hy hxy
    · simp at hi
/-- Least, and greatest. -/
def lst (f : Int → Int → Int) (x : Int) (r : List Int) (i : Nat) : Int := (r.take i).foldl f x
theorem lst_succ {f : Int → Int → Int} {x n : Int} {r : List Int} {i : Nat} (h : r[i]? = some n) : lst f x r (i + 1) = f (lst f x r i) n := by
  obtain ⟨h1, h2⟩ := List.getElem?_eq_some_iff.1 h
  unfold lst
  rw [List.take_succ_eq_append_getElem h1, h2, List.foldl_append]
  rfl
theorem lst_all {f : Int → Int → Int} {x : Int} {r : List Int} : lst f x r r.length = r.foldl f x := by unfold lst; rw [List.take_length]
theorem mk51 {x : Int} {r : List Int} (hl : r.length ≤ 999) : Mk 30 51 (x :: r) 1 (r.foldl min x) 0 := fun C A m h => by
  cases r with
  | nil => exact e30mn1 (fun _ => x) rfl (fun i n hi => by simp at hi) h
  | cons y r =>
    have q := e30mn2 (x := x) (y := y) (r := r) (C := C) (A := A) (m := m) (by simp at hl; omega) (lst min x (y :: r)) rfl (fun i n hi => by rw [lst_succ hi]; exact a53 _ _) h
    rw [lst_all] at q
    exact q
theorem mk52 {x : Int} {r : List Int} (hl : r.length ≤ 999) : Mk 30 52 (x :: r) 1 (r.foldl max x) 0 := fun C A m h => by
  cases r with
  | nil => exact e30mx1 (fun _ => x) rfl (fun i n hi => by simp at hi) h
  | cons y r =>
    have q := e30mx2 (x := x) (y := y) (r := r) (C := C) (A := A) (m := m) (by simp at hl; omega) (lst max x (y :: r)) rfl (fun i n hi => by rw [lst_succ hi]; exact a54 _ _) h
    rw [lst_all] at q
    exact q
theorem min_mem : ∀ (r : List Int) (x : Int), r.foldl min x ∈ x :: r
  | [], x => by simp
  | y :: r, x => by
    rw [List.foldl_cons]
    have := min_mem r (min x y)
    rw [List.mem_cons] at this ⊢
    rcases this with h | h
    · rw [h, Int.min_def]
      split
      · exact .inl rfl
      · exact .inr (by simp)
    · exact .inr (by simp [h])
theorem max_mem : ∀ (r : List Int) (x : Int), r.foldl max x ∈ x :: r
  | [], x => by simp
  | y :: r, x => by
    rw [List.foldl_cons]
    have := max_mem r (max x y)
    rw [List.mem_cons] at this ⊢
    rcases this with h | h
    · rw [h, Int.max_def]
      split
      · exact .inr (by simp)
      · exact .inl rfl
    · exact .inr (by simp [h])
theorem row0 : rowOf 0 = ([43], 0, -1) := by kernel_rfl
theorem row2 : rowOf 2 = ([42], 0, -1) := by kernel_rfl
theorem row3 : rowOf 3 = ([113, 117, 111, 116, 105, 101, 110, 116], 2, 2) := by kernel_rfl
theorem row4 : rowOf 4 = ([114, 101, 109, 97, 105, 110, 100, 101, 114], 2, 2) := by kernel_rfl
theorem row51 : rowOf 51 = ([109, 105, 110], 1, -1) := by kernel_rfl
theorem row52 : rowOf 52 = ([109, 97, 120], 1, -1) := by kernel_rfl

set_option maxRecDepth 20000 in
set_option maxHeartbeats 8000000 in
/-- With too few values. -/
theorem e7z {A M : Nat} {p mo : Int} {nm : List UInt8} {args0 : List AV} {m0 m : Mem} (hz : fzvs m0 args0 = ([.ptr A 0, int p, .lst []], m)) (hp : numP p) (hr : rowOf p = (nm, 1, mo)) (hnm : nm ≠ []) (hA : Ar A M m) : EH Try.prog cp (.func 7) args0 m0 (.tup [.agg [int 0, int 0], int 2]) m := by
  have hA0 := hA.a
  have hp64 : ¬ (64 : Int) ≤ p := by rcases hp with rfl | rfl | rfl | rfl | rfl | rfl <;> decide
  have h15 := g15 p
  rw [hr] at h15
  simp [hnm, rowC] at h15
  refine eh_run Try.func7 rfl rfl rfl rfl hz (by simp) (by simp [Try.f7]) (by have := fzvs_length args0 m0; rw [hz] at this; simp at this; simp [Try.f7]; omega) ?_
  simp only [Try.f7, show cp.keepRes 7 = false from rfl]
  simp [h15.go, hp64]
  refine goH_of (e16 (hA.kp (by simp))) ?_
  rintro u m2 ⟨⟨ci, rfl⟩, kp2⟩
  have kpm : Kp m m2 := Kp.trans (by simp) kp2
  have hn2 := kp2.next
  simp at hn2
  obtain ⟨w1, hw1⟩ : ∃ v, m2.get m.next = some (.cells [int 0, int 0] false v) := ⟨_, by rw [kp2.get m.next (by simp)]; first | (simp; done) | (simp; rfl)⟩
  obtain ⟨w2, hw2⟩ : ∃ v, m2.get (m.next + 1) = some (.cells [.sc (.string ⟨⟨nm⟩⟩), int 1, int mo] false v) := ⟨_, by rw [kp2.get (m.next + 1) (by simp)]; first | (simp; done) | (simp; rfl)⟩
  simp [ptr_nil, hw1, hw2, abuild, placesOf, fillAt, undefV, undef]
  exact kpm
/-- Where a number is. -/
def idx (l : List Int) (v : Int) : Int := match l.findIdx? fun x => decide (v = x) with | some k => k | none => -1
theorem idx_mem {l : List Int} {v : Int} (h : v ∈ l) : 0 ≤ idx l v := by
  unfold idx
  cases hf : l.findIdx? fun x => decide (v = x) with
  | some k => simp
  | none =>
    have := List.findIdx?_eq_none_iff.1 hf v h
    simp at this
set_option maxHeartbeats 4000000 in
theorem e20 (l : List Int) (v : Int) (hl : l.length ≤ 1000) : Gives Try.prog cp 20 [.lst (l.map numA), numA v] (int (idx l v)) := by
  refine gives_run Try.func20 rfl rfl rfl rfl (by simp) (by simp [Try.f20]) (by simp [Try.f20]) fun m => ?_
  simp [Try.f20, show cp.keepRes 20 = false from rfl, numA]
  refine go_count 8 l.length (fun i s' m' => Kp m m' ∧ m.next < m'.next ∧ (∃ w, m'.get m.next = some (.cells [int 1, int v] false w)) ∧ ∀ j n, j < i → l[j]? = some n → decide (v = n) = false) (by simp) (by omega) ⟨by simp, by simp, ⟨_, by simp; rfl⟩, fun j n hj => absurd hj (Nat.not_lt_zero j)⟩ ?_
  rintro i s' m' hi e8 ⟨hkp, hlt, ⟨w, hget⟩, hno⟩ hsame hw Q' hn he
  have e0 : s'.at 0 = .lst (l.map numA) := (hsame 0 (by kernel_rfl)).trans (by simp [numA])
  have e3 : s'.at 3 = .ptr m.next 0 := (hsame 3 (by kernel_rfl)).trans (by simp)
  have e7 : s'.at 7 = int l.length := (hsame 7 (by kernel_rfl)).trans (by simp)
  clear hsame
  simp [e8, e7]
  refine goB_split (fun h => ?_) fun h => ?_
  · have hlt2 : i < l.length := by have := of_decide_eq_true h; omega
    obtain ⟨n, hp⟩ : ∃ n, l[i]? = some n := ⟨_, List.getElem?_eq_getElem hlt2⟩
    have hx := aindexAddr_lst (q := .i64) (x := numA n) (l := l.map numA) (i := i) Try.underlying33 tsize29 (by rw [List.getElem?_map, hp]; rfl) (by simp [numA])
    simp
    refine go_draw0 (by kernel_rfl) (by kernel_rfl) ?_
    simp [e0, e3, e8, hx, hget]
    simp only [numA]
    simp [e0, e3, e8, hget, num_eq]
    refine goB_split (fun h' => ?_) fun h' => ?_
    · have hi2 : idx l v = (i : Int) := by
        unfold idx
        rw [findIdx_first hp h' hno]
      simp
      refine he _ _ _ (by simp) ?_
      simp [hi2]
      exact hkp
    · simp [e8, hw]
      refine hn _ _ hlt2 (by simp) ⟨hkp, hlt, ⟨w, hget⟩, fun j n' hj hj' => ?_⟩
      by_cases ej : j = i
      · subst ej; rw [hp] at hj'; cases hj'; exact h'
      · exact hno j n' (by omega) hj'
  · have hge : i = l.length := by have := of_decide_eq_false h; omega
    subst hge
    have hi2 : idx l v = -1 := by
      unfold idx
      rw [List.findIdx?_eq_none_iff.2 fun x hx => by
        obtain ⟨j, hj, rfl⟩ := List.mem_iff_getElem.1 hx
        exact hno j _ hj (List.getElem?_eq_getElem hj)]
    simp
    refine he _ _ _ (by simp) ?_
    simp [hi2]
    exact hkp
theorem e9 {l : List Int} {v : Int} (hl : l.length ≤ 1000) (hv : v ∈ l) : Gives Try.prog cp 9 [.lst (l.map numA), numA v] (.sc (.bool true)) := by
  refine gives_run Try.func9 rfl rfl rfl rfl (by simp) (by simp [Try.f9]) (by simp [Try.f9]) fun m => ?_
  have q := e20 l v hl
  have hi := idx_mem hv
  simp [numA] at q
  simp [Try.f9, show cp.keepRes 9 = false from rfl, numA]
  rw [Gives.goF q (m1 := m.new [int 1, int v] false) (by simp [fzvs, numA])]
  simp [hi]
end Go.Proofs.Ytnhcmcfgemoehaa
