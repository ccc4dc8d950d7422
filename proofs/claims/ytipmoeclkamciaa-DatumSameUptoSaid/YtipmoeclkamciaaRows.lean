/-
  NARROWER THAN 'FOR EVERY INPUT', by the rows' own cells (each row's printed sentence says how): DatumMay: loops · DatumParts: loops · DatumPairs: loops · DatumWalks: loops · DatumHalves: loops · DatumSame: loops · DatumCounts: loops.
  DERIVED. THE GIVEN ROWS OF THIS SEAT. 7 by the template 'for every input the law returns true; each argument reads behind the call as it read before'; 0 by the template 'total and deterministic' (their statements: YtipmoeclkamciaaTotals.lean).
  GIVEN WITH THE SEED: the statements are not yours to turn. If you find one false, say at which input.
  Laid BY PROGRAM, IN A SANDBOX (cutbox-rows.mjs): the forced cells as the released guide's own fill.sh prints them over the translation 877f1e9e1713a770… (all of the seat's roots in one cut). By AI agents, Wed Nov 11 2026. No macro, syntax, notation, axiom, sorry.
-/
import Derived.Test.YtipmoeclkamciaaChecked
import GoSem.Claim
import GoSem.ClaimJoined
import GoSem.ClaimMapViews
import Derived.JoinedTies
import Derived.KernelRfl
namespace Go.Proofs.Ytipmoeclkamciaa
/- THE CELL 'sum', in the pinned program and in every row, IS THE sha256 OF THE DUMP (.gsa) THAT YtipmoeclkamciaaProg.lean LOADS. Nothing in Lean hashes anything: it is a label: what it is worth is what the hold of that sum in a sandbox is worth. -/
noncomputable def Try.pinned : Pinned := { name := "ytipmoeclkamciaa", sum := "877f1e9e1713a770d972c0b45891ceac163ab54441e5e1b91a0423d49f2f7dba", checked := Try.checked }
namespace Rows
def none {H : Type} : Left H := { results := [], args := [] }

/-- 'shuttlelaw02.DatumMay': WHATEVER THE INPUT: true; the input reads as it did. -/
def datumMaySpec : ChangeSpec := { name := "datumMay", fn := fun _ => fun
  | [d1, d2] => { results := [.lit (.bool true)], args := [d1, d2] }
  | _ => none }
def datumMayRow : OpenClaim := { program := "ytipmoeclkamciaa", sum := "877f1e9e1713a770d972c0b45891ceac163ab54441e5e1b91a0423d49f2f7dba", func := "shuttle/shuttlelaw02.DatumMay", spec := "datumMay", inPlace := ["internal/bytealg.IndexByteString"], unfollowed := true, recurses := true, loops := true, apart := false }
def DatumMaySaid : Prop := datumMayRow.holds Try.pinned (OpenSpec.ofChange datumMaySpec)

/-- ITS FALSE NEIGHBOUR: 'it returns false'. Refute it at one input. -/
def datumMayWrong : ChangeSpec := { name := "datumMay", fn := fun _ => fun
  | [d1, d2] => { results := [.lit (.bool false)], args := [d1, d2] }
  | _ => none }
def DatumMayWrongFalsely : Prop := datumMayRow.holds Try.pinned (OpenSpec.ofChange datumMayWrong)

/-- 'shuttlelaw02.DatumParts': WHATEVER THE INPUT: true; the input reads as it did. -/
def datumPartsSpec : ChangeSpec := { name := "datumParts", fn := fun _ => fun
  | [d] => { results := [.lit (.bool true)], args := [d] }
  | _ => none }
def datumPartsRow : OpenClaim := { program := "ytipmoeclkamciaa", sum := "877f1e9e1713a770d972c0b45891ceac163ab54441e5e1b91a0423d49f2f7dba", func := "shuttle/shuttlelaw02.DatumParts", spec := "datumParts", inPlace := ["internal/bytealg.IndexByteString"], unfollowed := true, recurses := true, loops := true, apart := false }
def DatumPartsSaid : Prop := datumPartsRow.holds Try.pinned (OpenSpec.ofChange datumPartsSpec)

/-- ITS FALSE NEIGHBOUR: 'it returns false'. Refute it at one input. -/
def datumPartsWrong : ChangeSpec := { name := "datumParts", fn := fun _ => fun
  | [d] => { results := [.lit (.bool false)], args := [d] }
  | _ => none }
def DatumPartsWrongFalsely : Prop := datumPartsRow.holds Try.pinned (OpenSpec.ofChange datumPartsWrong)

/-- 'shuttlelaw02.DatumPairs': WHATEVER THE INPUT: true; the input reads as it did. -/
def datumPairsSpec : ChangeSpec := { name := "datumPairs", fn := fun _ => fun
  | [d1, d2, d3] => { results := [.lit (.bool true)], args := [d1, d2, d3] }
  | _ => none }
def datumPairsRow : OpenClaim := { program := "ytipmoeclkamciaa", sum := "877f1e9e1713a770d972c0b45891ceac163ab54441e5e1b91a0423d49f2f7dba", func := "shuttle/shuttlelaw02.DatumPairs", spec := "datumPairs", inPlace := ["internal/bytealg.IndexByteString"], unfollowed := true, recurses := true, loops := true, apart := false }
def DatumPairsSaid : Prop := datumPairsRow.holds Try.pinned (OpenSpec.ofChange datumPairsSpec)

/-- ITS FALSE NEIGHBOUR: 'it returns false'. Refute it at one input. -/
def datumPairsWrong : ChangeSpec := { name := "datumPairs", fn := fun _ => fun
  | [d1, d2, d3] => { results := [.lit (.bool false)], args := [d1, d2, d3] }
  | _ => none }
def DatumPairsWrongFalsely : Prop := datumPairsRow.holds Try.pinned (OpenSpec.ofChange datumPairsWrong)

/-- 'shuttlelaw02.DatumWalks': WHATEVER THE INPUT: true; the input reads as it did. -/
def datumWalksSpec : ChangeSpec := { name := "datumWalks", fn := fun _ => fun
  | [d1, d2] => { results := [.lit (.bool true)], args := [d1, d2] }
  | _ => none }
def datumWalksRow : OpenClaim := { program := "ytipmoeclkamciaa", sum := "877f1e9e1713a770d972c0b45891ceac163ab54441e5e1b91a0423d49f2f7dba", func := "shuttle/shuttlelaw02.DatumWalks", spec := "datumWalks", inPlace := ["internal/bytealg.IndexByteString"], unfollowed := true, recurses := true, loops := true, apart := false }
def DatumWalksSaid : Prop := datumWalksRow.holds Try.pinned (OpenSpec.ofChange datumWalksSpec)

/-- ITS FALSE NEIGHBOUR: 'it returns false'. Refute it at one input. -/
def datumWalksWrong : ChangeSpec := { name := "datumWalks", fn := fun _ => fun
  | [d1, d2] => { results := [.lit (.bool false)], args := [d1, d2] }
  | _ => none }
def DatumWalksWrongFalsely : Prop := datumWalksRow.holds Try.pinned (OpenSpec.ofChange datumWalksWrong)

/-- 'shuttlelaw02.DatumHalves': WHATEVER THE INPUT: true; the input reads as it did. -/
def datumHalvesSpec : ChangeSpec := { name := "datumHalves", fn := fun _ => fun
  | [d1, d2] => { results := [.lit (.bool true)], args := [d1, d2] }
  | _ => none }
def datumHalvesRow : OpenClaim := { program := "ytipmoeclkamciaa", sum := "877f1e9e1713a770d972c0b45891ceac163ab54441e5e1b91a0423d49f2f7dba", func := "shuttle/shuttlelaw02.DatumHalves", spec := "datumHalves", inPlace := ["internal/bytealg.IndexByteString"], unfollowed := true, recurses := true, loops := true, apart := false }
def DatumHalvesSaid : Prop := datumHalvesRow.holds Try.pinned (OpenSpec.ofChange datumHalvesSpec)

/-- ITS FALSE NEIGHBOUR: 'it returns false'. Refute it at one input. -/
def datumHalvesWrong : ChangeSpec := { name := "datumHalves", fn := fun _ => fun
  | [d1, d2] => { results := [.lit (.bool false)], args := [d1, d2] }
  | _ => none }
def DatumHalvesWrongFalsely : Prop := datumHalvesRow.holds Try.pinned (OpenSpec.ofChange datumHalvesWrong)

/-- 'shuttlelaw02.DatumSame': WHATEVER THE INPUT: true; the input reads as it did. -/
def datumSameSpec : ChangeSpec := { name := "datumSame", fn := fun _ => fun
  | [d1, d2] => { results := [.lit (.bool true)], args := [d1, d2] }
  | _ => none }
def datumSameRow : OpenClaim := { program := "ytipmoeclkamciaa", sum := "877f1e9e1713a770d972c0b45891ceac163ab54441e5e1b91a0423d49f2f7dba", func := "shuttle/shuttlelaw02.DatumSame", spec := "datumSame", inPlace := ["internal/bytealg.IndexByteString"], unfollowed := true, recurses := true, loops := true, apart := false }
def DatumSameSaid : Prop := datumSameRow.holds Try.pinned (OpenSpec.ofChange datumSameSpec)

/-- ITS FALSE NEIGHBOUR: 'it returns false'. Refute it at one input. -/
def datumSameWrong : ChangeSpec := { name := "datumSame", fn := fun _ => fun
  | [d1, d2] => { results := [.lit (.bool false)], args := [d1, d2] }
  | _ => none }
def DatumSameWrongFalsely : Prop := datumSameRow.holds Try.pinned (OpenSpec.ofChange datumSameWrong)

/-- 'shuttlelaw02.DatumCounts': WHATEVER THE INPUT: true; the input reads as it did. -/
def datumCountsSpec : ChangeSpec := { name := "datumCounts", fn := fun _ => fun
  | [d] => { results := [.lit (.bool true)], args := [d] }
  | _ => none }
def datumCountsRow : OpenClaim := { program := "ytipmoeclkamciaa", sum := "877f1e9e1713a770d972c0b45891ceac163ab54441e5e1b91a0423d49f2f7dba", func := "shuttle/shuttlelaw02.DatumCounts", spec := "datumCounts", inPlace := ["internal/bytealg.IndexByteString"], unfollowed := true, recurses := true, loops := true, apart := false }
def DatumCountsSaid : Prop := datumCountsRow.holds Try.pinned (OpenSpec.ofChange datumCountsSpec)

/-- ITS FALSE NEIGHBOUR: 'it returns false'. Refute it at one input. -/
def datumCountsWrong : ChangeSpec := { name := "datumCounts", fn := fun _ => fun
  | [d] => { results := [.lit (.bool false)], args := [d] }
  | _ => none }
def DatumCountsWrongFalsely : Prop := datumCountsRow.holds Try.pinned (OpenSpec.ofChange datumCountsWrong)

/- THE SECOND FORM. 'bulk': how many values and letters a reading holds, each counted each time it is reached (what is shared counts as often as it is met; a slice's spare places count too). A statement '..UptoSaid' is the law's where the arguments, and the package variables that the reading takes, are together of bulk at most 1048576: NARROWER than '..Said'. Prove '..Said' where nothing that the law and all that it calls make is longer than what came in: it says more and counts as full. Else prove '..UptoSaid'. A law counts once. -/
mutual
def uptoBulk {H : Type} : DataW H → Nat
  | .lit (.string bytes) => bytes.length + 1
  | .lit _ => 1
  | .nil => 1
  | .ptr d => uptoBulk d + 1
  | .slice elems spare => uptoBulkAll elems + uptoBulkAll spare + 1
  | .agg parts => uptoBulkAll parts + 1
  | .iface _ d => uptoBulk d + 1
  | .map entries => uptoBulkEntries entries + 1
  | .held _ => 1
def uptoBulkAll {H : Type} : List (DataW H) → Nat
  | [] => 0
  | d :: r => uptoBulk d + uptoBulkAll r
def uptoBulkEntries {H : Type} : List (Lit × DataW H) → Nat
  | [] => 0
  | x :: r => uptoBulkEntry x + uptoBulkEntries r
def uptoBulkEntry {H : Type} : Lit × DataW H → Nat
  | (.string bytes, d) => bytes.length + uptoBulk d + 1
  | (_, d) => uptoBulk d + 1
 end
def uptoSmall : (H : Type) → List (DataW H) → Bool := fun _ ds => decide (uptoBulkAll ds ≤ 1048576)
def OpenSpec.upto (s : _root_.Go.ChangeSpec) : _root_.Go.OpenSpec := { _root_.Go.OpenSpec.ofChange s with cond := some uptoSmall }

/-- 'shuttlelaw02.DatumMay', WHERE WHAT IT READS IS OF BULK AT MOST 1048576: true; the input reads as it did. -/
def datumMayUptoRow : OpenClaim := { program := "ytipmoeclkamciaa", sum := "877f1e9e1713a770d972c0b45891ceac163ab54441e5e1b91a0423d49f2f7dba", func := "shuttle/shuttlelaw02.DatumMay", spec := "datumMay", inPlace := ["internal/bytealg.IndexByteString"], unfollowed := true, recurses := true, loops := true, apart := false, narrowed := true }
def DatumMayUptoSaid : Prop := datumMayUptoRow.holds Try.pinned (OpenSpec.upto datumMaySpec)

/-- 'shuttlelaw02.DatumParts', WHERE WHAT IT READS IS OF BULK AT MOST 1048576: true; the input reads as it did. -/
def datumPartsUptoRow : OpenClaim := { program := "ytipmoeclkamciaa", sum := "877f1e9e1713a770d972c0b45891ceac163ab54441e5e1b91a0423d49f2f7dba", func := "shuttle/shuttlelaw02.DatumParts", spec := "datumParts", inPlace := ["internal/bytealg.IndexByteString"], unfollowed := true, recurses := true, loops := true, apart := false, narrowed := true }
def DatumPartsUptoSaid : Prop := datumPartsUptoRow.holds Try.pinned (OpenSpec.upto datumPartsSpec)

/-- 'shuttlelaw02.DatumPairs', WHERE WHAT IT READS IS OF BULK AT MOST 1048576: true; the input reads as it did. -/
def datumPairsUptoRow : OpenClaim := { program := "ytipmoeclkamciaa", sum := "877f1e9e1713a770d972c0b45891ceac163ab54441e5e1b91a0423d49f2f7dba", func := "shuttle/shuttlelaw02.DatumPairs", spec := "datumPairs", inPlace := ["internal/bytealg.IndexByteString"], unfollowed := true, recurses := true, loops := true, apart := false, narrowed := true }
def DatumPairsUptoSaid : Prop := datumPairsUptoRow.holds Try.pinned (OpenSpec.upto datumPairsSpec)

/-- 'shuttlelaw02.DatumWalks', WHERE WHAT IT READS IS OF BULK AT MOST 1048576: true; the input reads as it did. -/
def datumWalksUptoRow : OpenClaim := { program := "ytipmoeclkamciaa", sum := "877f1e9e1713a770d972c0b45891ceac163ab54441e5e1b91a0423d49f2f7dba", func := "shuttle/shuttlelaw02.DatumWalks", spec := "datumWalks", inPlace := ["internal/bytealg.IndexByteString"], unfollowed := true, recurses := true, loops := true, apart := false, narrowed := true }
def DatumWalksUptoSaid : Prop := datumWalksUptoRow.holds Try.pinned (OpenSpec.upto datumWalksSpec)

/-- 'shuttlelaw02.DatumHalves', WHERE WHAT IT READS IS OF BULK AT MOST 1048576: true; the input reads as it did. -/
def datumHalvesUptoRow : OpenClaim := { program := "ytipmoeclkamciaa", sum := "877f1e9e1713a770d972c0b45891ceac163ab54441e5e1b91a0423d49f2f7dba", func := "shuttle/shuttlelaw02.DatumHalves", spec := "datumHalves", inPlace := ["internal/bytealg.IndexByteString"], unfollowed := true, recurses := true, loops := true, apart := false, narrowed := true }
def DatumHalvesUptoSaid : Prop := datumHalvesUptoRow.holds Try.pinned (OpenSpec.upto datumHalvesSpec)

/-- 'shuttlelaw02.DatumSame', WHERE WHAT IT READS IS OF BULK AT MOST 1048576: true; the input reads as it did. -/
def datumSameUptoRow : OpenClaim := { program := "ytipmoeclkamciaa", sum := "877f1e9e1713a770d972c0b45891ceac163ab54441e5e1b91a0423d49f2f7dba", func := "shuttle/shuttlelaw02.DatumSame", spec := "datumSame", inPlace := ["internal/bytealg.IndexByteString"], unfollowed := true, recurses := true, loops := true, apart := false, narrowed := true }
def DatumSameUptoSaid : Prop := datumSameUptoRow.holds Try.pinned (OpenSpec.upto datumSameSpec)

/-- 'shuttlelaw02.DatumCounts', WHERE WHAT IT READS IS OF BULK AT MOST 1048576: true; the input reads as it did. -/
def datumCountsUptoRow : OpenClaim := { program := "ytipmoeclkamciaa", sum := "877f1e9e1713a770d972c0b45891ceac163ab54441e5e1b91a0423d49f2f7dba", func := "shuttle/shuttlelaw02.DatumCounts", spec := "datumCounts", inPlace := ["internal/bytealg.IndexByteString"], unfollowed := true, recurses := true, loops := true, apart := false, narrowed := true }
def DatumCountsUptoSaid : Prop := datumCountsUptoRow.holds Try.pinned (OpenSpec.upto datumCountsSpec)

end Rows
end Go.Proofs.Ytipmoeclkamciaa
