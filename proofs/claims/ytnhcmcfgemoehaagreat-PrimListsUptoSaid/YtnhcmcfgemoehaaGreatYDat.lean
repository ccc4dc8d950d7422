import Derived.Test.YtnhcmcfgemoehaaGreatYBase
/- A datum's size, and what fits; memory that stays. -/
set_option linter.unusedSimpArgs false
set_option linter.unusedVariables false
set_option linter.unusedSectionVars false
namespace Go.Proofs.YtnhcmcfgemoehaaGreat
set_option maxRecDepth 4000
open Go.V

/-- A datum as it may be read: nothing is too long. -/
structure Fits (K N : Int) (S : List UInt8) (M : List Int) (L T : List Dat) : Prop where
  n : -9223372036854775808 ≤ N ∧ N ≤ 9223372036854775807
  s : S.length < 2 ^ 21
  m : M.length < 2 ^ 21
  l : L.length < 2 ^ 21
  t : T.length < 2 ^ 21

mutual
def Dat.size : Dat → Nat
  | .mk _ _ _ _ L T => 1 + (sizes L + sizes T)
def sizes : List Dat → Nat
  | [] => 0
  | d :: l => d.size + sizes l
end
theorem size_mem : ∀ {l : List Dat} {d : Dat}, d ∈ l → d.size ≤ sizes l
  | x :: l, d, h => by
    rw [sizes]
    rcases List.mem_cons.1 h with rfl | h
    · omega
    · have := size_mem h; omega

mutual
/-- Nothing in it is too long. -/
def Dat.fits : Dat → Prop
  | .mk K N S M L T => Fits K N S M L T ∧ fitss L ∧ fitss T
def fitss : List Dat → Prop
  | [] => True
  | d :: l => d.fits ∧ fitss l
end
theorem fits_mem : ∀ {l : List Dat}, fitss l → ∀ {d : Dat}, d ∈ l → d.fits
  | x :: l, h, d, hd => by
    rw [fitss] at h
    rcases List.mem_cons.1 hd with rfl | hd
    · exact h.1
    · exact fits_mem h.2 hd

theorem alone_fits {K N : Int} {S : List UInt8} {M : List Int} {L T : List Dat} (h : (Dat.mk K N S M L T).fits) : Fits K N S M L T := by rw [Dat.fits] at h; exact h.1

/-- An object's cells. -/
def has (m : Mem) (id : Nat) (cs : List AV) : Prop := id < m.next ∧ ∃ v, m.get id = some (.cells cs false v)

/-- What stays but for two objects. -/
structure KpX (X : Nat → Prop) (m m' : Mem) : Prop where
  next : m.next ≤ m'.next
  get : ∀ id, id < m.next → ¬ X id → m'.get id = m.get id
  x : XK m m'
theorem KpX.refl (X : Nat → Prop) (m : Mem) : KpX X m m := ⟨Nat.le_refl _, fun _ _ _ => rfl, .refl m⟩
theorem KpX.trans {X : Nat → Prop} {a b c : Mem} (h : KpX X a b) (k : KpX X b c) : KpX X a c := ⟨Nat.le_trans h.next k.next, fun id hi hx => (k.get id (Nat.lt_of_lt_of_le hi h.next) hx).trans (h.get id hi hx), h.x.trans h.next k.x⟩
theorem KpX.of {X : Nat → Prop} {a b : Mem} (h : Kp a b) : KpX X a b := ⟨h.next, fun id hi _ => h.get id hi, h.x⟩
theorem KpX.set {X : Nat → Prop} {a b : Mem} (h : KpX X a b) {id : Nat} (hx : X id) (cs : List AV) : KpX X a (b.set id cs) := ⟨h.next, fun j hj hn => by rw [Mem.get_set, if_neg (by rintro rfl; exact hn hx)]; exact h.get j hj hn, h.x.same rfl rfl⟩
theorem KpX.setn {X : Nat → Prop} {a b : Mem} (h : KpX X a b) {id : Nat} (hx : a.next ≤ id) (cs : List AV) : KpX X a (b.set id cs) := ⟨h.next, fun j hj hn => by rw [Mem.get_set, if_neg (by omega)]; exact h.get j hj hn, h.x.same rfl rfl⟩
theorem KpX.new {X : Nat → Prop} {a b : Mem} (h : KpX X a b) (cs : List AV) (f : Bool) : KpX X a (b.new cs f) := h.trans (.of (.new _ _ _))
theorem has.kept {X : Nat → Prop} {m m' : Mem} {id : Nat} {cs : List AV} (h : has m id cs) (k : KpX X m m') (hx : ¬ X id) : has m' id cs := ⟨Nat.lt_of_lt_of_le h.1 k.next, by rw [k.get id h.1 hx]; exact h.2⟩
theorem has.kp {m m' : Mem} {id : Nat} {cs : List AV} (h : has m id cs) (k : Kp m m') : has m' id cs := ⟨Nat.lt_of_lt_of_le h.1 k.next, by rw [k.get id h.1]; exact h.2⟩

theorem KpX.kp {X : Nat → Prop} {a b c : Mem} (h : KpX X b c) (k : Kp a b) (hx : ∀ id, id < a.next → ¬ X id) : Kp a c := ⟨Nat.le_trans k.next h.next, fun id hi => (h.get id (Nat.lt_of_lt_of_le hi k.next) (hx id hi)).trans (k.get id hi), k.x.trans k.next h.x⟩

end Go.Proofs.YtnhcmcfgemoehaaGreat
