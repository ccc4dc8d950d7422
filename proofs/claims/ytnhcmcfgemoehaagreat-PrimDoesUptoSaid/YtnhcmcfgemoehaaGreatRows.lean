/-
  NARROWER THAN 'FOR EVERY INPUT', by the rows' own cells (each row's printed sentence says how): PrimLists: loops · PrimDoes: loops · PrimKeeps: loops.
  DERIVED. THE GIVEN ROWS OF THIS SEAT. 4 by the template 'for every input the law returns true; each argument reads behind the call as it read before'; 0 by the template 'total and deterministic' (their statements: YtnhcmcfgemoehaaGreatTotals.lean).
  GIVEN WITH THE SEED: the statements are not yours to turn. If you find one false, say at which input.
  Laid BY PROGRAM, IN A SANDBOX (cutbox-rows.mjs): the forced cells as the released guide's own fill.sh prints them over the translation 95329837d488225c… (all of the seat's roots in one cut). By AI agents, Wed Nov 11 2026. No macro, syntax, notation, axiom, sorry.
-/
import Derived.Test.YtnhcmcfgemoehaaGreatChecked
import GoSem.Claim
import GoSem.ClaimJoined
import GoSem.ClaimMapViews
import Derived.JoinedTies
import Derived.KernelRfl
namespace Go.Proofs.YtnhcmcfgemoehaaGreat
/- THE CELL 'sum', in the pinned program and in every row, IS THE sha256 OF THE DUMP (.gsa) THAT YtnhcmcfgemoehaaGreatProg.lean LOADS. Nothing in Lean hashes anything: it is a label: what it is worth is what the hold of that sum in a sandbox is worth. -/
noncomputable def Tryz.pinned : Pinned := { name := "ytnhcmcfgemoehaagreat", sum := "95329837d488225c14e968cdf7715d5d84f991619b45e88cc5cdc8e1964d7b71", checked := Tryz.checked }
namespace Rows
def none {H : Type} : Left H := { results := [], args := [] }

/-- 'shuttlelaw12.PrimNames': WHATEVER THE INPUT: true; the input reads as it did. -/
def primNamesSpec : ChangeSpec := { name := "primNames", fn := fun _ => fun
  | [d1, d2, d3, d4] => { results := [.lit (.bool true)], args := [d1, d2, d3, d4] }
  | _ => none }
def primNamesRow : OpenClaim := { program := "ytnhcmcfgemoehaagreat", sum := "95329837d488225c14e968cdf7715d5d84f991619b45e88cc5cdc8e1964d7b71", func := "shuttle/shuttlelaw12.PrimNames", spec := "primNames", inPlace := ["maps.clone", "internal/bytealg.IndexByteString"], unfollowed := true, recurses := true, apart := false }
def PrimNamesSaid : Prop := primNamesRow.holds Tryz.pinned (OpenSpec.ofChange primNamesSpec)

/-- ITS FALSE NEIGHBOUR: 'it returns false'. Refute it at one input. -/
def primNamesWrong : ChangeSpec := { name := "primNames", fn := fun _ => fun
  | [d1, d2, d3, d4] => { results := [.lit (.bool false)], args := [d1, d2, d3, d4] }
  | _ => none }
def PrimNamesWrongFalsely : Prop := primNamesRow.holds Tryz.pinned (OpenSpec.ofChange primNamesWrong)

/-- 'shuttlelaw12.PrimLists': WHATEVER THE INPUT: true; the input reads as it did. -/
def primListsSpec : ChangeSpec := { name := "primLists", fn := fun _ => fun
  | [d1, d2, d3, d4] => { results := [.lit (.bool true)], args := [d1, d2, d3, d4] }
  | _ => none }
def primListsRow : OpenClaim := { program := "ytnhcmcfgemoehaagreat", sum := "95329837d488225c14e968cdf7715d5d84f991619b45e88cc5cdc8e1964d7b71", func := "shuttle/shuttlelaw12.PrimLists", spec := "primLists", inPlace := ["maps.clone", "internal/bytealg.IndexByteString"], unfollowed := true, recurses := true, loops := true, apart := false }
def PrimListsSaid : Prop := primListsRow.holds Tryz.pinned (OpenSpec.ofChange primListsSpec)

/-- ITS FALSE NEIGHBOUR: 'it returns false'. Refute it at one input. -/
def primListsWrong : ChangeSpec := { name := "primLists", fn := fun _ => fun
  | [d1, d2, d3, d4] => { results := [.lit (.bool false)], args := [d1, d2, d3, d4] }
  | _ => none }
def PrimListsWrongFalsely : Prop := primListsRow.holds Tryz.pinned (OpenSpec.ofChange primListsWrong)

/-- 'shuttlelaw12.PrimDoes': WHATEVER THE INPUT: true; the input reads as it did. -/
def primDoesSpec : ChangeSpec := { name := "primDoes", fn := fun _ => fun
  | [d1, d2, d3] => { results := [.lit (.bool true)], args := [d1, d2, d3] }
  | _ => none }
def primDoesRow : OpenClaim := { program := "ytnhcmcfgemoehaagreat", sum := "95329837d488225c14e968cdf7715d5d84f991619b45e88cc5cdc8e1964d7b71", func := "shuttle/shuttlelaw12.PrimDoes", spec := "primDoes", inPlace := ["maps.clone", "internal/bytealg.IndexByteString"], unfollowed := true, recurses := true, loops := true, apart := false }
def PrimDoesSaid : Prop := primDoesRow.holds Tryz.pinned (OpenSpec.ofChange primDoesSpec)

/-- ITS FALSE NEIGHBOUR: 'it returns false'. Refute it at one input. -/
def primDoesWrong : ChangeSpec := { name := "primDoes", fn := fun _ => fun
  | [d1, d2, d3] => { results := [.lit (.bool false)], args := [d1, d2, d3] }
  | _ => none }
def PrimDoesWrongFalsely : Prop := primDoesRow.holds Tryz.pinned (OpenSpec.ofChange primDoesWrong)

/-- 'shuttlelaw12.PrimKeeps': WHATEVER THE INPUT: true; the input reads as it did. -/
def primKeepsSpec : ChangeSpec := { name := "primKeeps", fn := fun _ => fun
  | [d1, d2] => { results := [.lit (.bool true)], args := [d1, d2] }
  | _ => none }
def primKeepsRow : OpenClaim := { program := "ytnhcmcfgemoehaagreat", sum := "95329837d488225c14e968cdf7715d5d84f991619b45e88cc5cdc8e1964d7b71", func := "shuttle/shuttlelaw12.PrimKeeps", spec := "primKeeps", inPlace := ["maps.clone", "internal/bytealg.IndexByteString"], unfollowed := true, recurses := true, loops := true, apart := false }
def PrimKeepsSaid : Prop := primKeepsRow.holds Tryz.pinned (OpenSpec.ofChange primKeepsSpec)

/-- ITS FALSE NEIGHBOUR: 'it returns false'. Refute it at one input. -/
def primKeepsWrong : ChangeSpec := { name := "primKeeps", fn := fun _ => fun
  | [d1, d2] => { results := [.lit (.bool false)], args := [d1, d2] }
  | _ => none }
def PrimKeepsWrongFalsely : Prop := primKeepsRow.holds Tryz.pinned (OpenSpec.ofChange primKeepsWrong)

/- THE SECOND FORM. 'bulk': how many values and letters a reading holds, each counted each time it is reached (what is shared counts as often as it is met; a slice's spare places count too). A statement '..UptoSaid' is the law's where the arguments, and the package variables that the reading takes, are together of bulk at most 1048576: NARROWER than '..Said'. Prove '..Said' where nothing that the law and all that it calls make is longer than what came in: it says more and counts as full. Else prove '..UptoSaid'. A law counts once. -/
mutual
def uptoBulk {H : Type} : DataW H → Nat
  | .lit (.string bytes) => bytes.length + 1
  | .lit _ => 1
  | .nil => 1
  | .ptr d => uptoBulk d + 1
  | .slice elems spare => uptoBulkAll elems + uptoBulkAll spare + 1
  | .agg parts => uptoBulkAll parts + 1
  | .iface _ d => uptoBulk d + 1
  | .map entries => uptoBulkEntries entries + 1
  | .held _ => 1
def uptoBulkAll {H : Type} : List (DataW H) → Nat
  | [] => 0
  | d :: r => uptoBulk d + uptoBulkAll r
def uptoBulkEntries {H : Type} : List (Lit × DataW H) → Nat
  | [] => 0
  | x :: r => uptoBulkEntry x + uptoBulkEntries r
def uptoBulkEntry {H : Type} : Lit × DataW H → Nat
  | (.string bytes, d) => bytes.length + uptoBulk d + 1
  | (_, d) => uptoBulk d + 1
 end
def uptoSmall : (H : Type) → List (DataW H) → Bool := fun _ ds => decide (uptoBulkAll ds ≤ 1048576)
def OpenSpec.upto (s : _root_.Go.ChangeSpec) : _root_.Go.OpenSpec := { _root_.Go.OpenSpec.ofChange s with cond := some uptoSmall }

/-- 'shuttlelaw12.PrimNames', WHERE WHAT IT READS IS OF BULK AT MOST 1048576: true; the input reads as it did. -/
def primNamesUptoRow : OpenClaim := { program := "ytnhcmcfgemoehaagreat", sum := "95329837d488225c14e968cdf7715d5d84f991619b45e88cc5cdc8e1964d7b71", func := "shuttle/shuttlelaw12.PrimNames", spec := "primNames", inPlace := ["maps.clone", "internal/bytealg.IndexByteString"], unfollowed := true, recurses := true, apart := false, narrowed := true }
def PrimNamesUptoSaid : Prop := primNamesUptoRow.holds Tryz.pinned (OpenSpec.upto primNamesSpec)

/-- 'shuttlelaw12.PrimLists', WHERE WHAT IT READS IS OF BULK AT MOST 1048576: true; the input reads as it did. -/
def primListsUptoRow : OpenClaim := { program := "ytnhcmcfgemoehaagreat", sum := "95329837d488225c14e968cdf7715d5d84f991619b45e88cc5cdc8e1964d7b71", func := "shuttle/shuttlelaw12.PrimLists", spec := "primLists", inPlace := ["maps.clone", "internal/bytealg.IndexByteString"], unfollowed := true, recurses := true, loops := true, apart := false, narrowed := true }
def PrimListsUptoSaid : Prop := primListsUptoRow.holds Tryz.pinned (OpenSpec.upto primListsSpec)

/-- 'shuttlelaw12.PrimDoes', WHERE WHAT IT READS IS OF BULK AT MOST 1048576: true; the input reads as it did. -/
def primDoesUptoRow : OpenClaim := { program := "ytnhcmcfgemoehaagreat", sum := "95329837d488225c14e968cdf7715d5d84f991619b45e88cc5cdc8e1964d7b71", func := "shuttle/shuttlelaw12.PrimDoes", spec := "primDoes", inPlace := ["maps.clone", "internal/bytealg.IndexByteString"], unfollowed := true, recurses := true, loops := true, apart := false, narrowed := true }
def PrimDoesUptoSaid : Prop := primDoesUptoRow.holds Tryz.pinned (OpenSpec.upto primDoesSpec)

/-- 'shuttlelaw12.PrimKeeps', WHERE WHAT IT READS IS OF BULK AT MOST 1048576: true; the input reads as it did. -/
def primKeepsUptoRow : OpenClaim := { program := "ytnhcmcfgemoehaagreat", sum := "95329837d488225c14e968cdf7715d5d84f991619b45e88cc5cdc8e1964d7b71", func := "shuttle/shuttlelaw12.PrimKeeps", spec := "primKeeps", inPlace := ["maps.clone", "internal/bytealg.IndexByteString"], unfollowed := true, recurses := true, loops := true, apart := false, narrowed := true }
def PrimKeepsUptoSaid : Prop := primKeepsUptoRow.holds Tryz.pinned (OpenSpec.upto primKeepsSpec)

end Rows
end Go.Proofs.YtnhcmcfgemoehaaGreat
