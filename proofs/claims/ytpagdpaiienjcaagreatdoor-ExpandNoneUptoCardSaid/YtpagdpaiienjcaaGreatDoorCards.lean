/-
  DERIVED. GIVEN WITH THE SEED: THE CARDS: each row of YtpagdpaiienjcaaGreatDoorRows.lean that lists a variable, with what it lists TIED to the program's text (the seventh form; the later family's looks); each row that meets fmt, with fmt's text TOLD by the authors' own Lean function (tested against real Go, not proved from fmt's source: count such statements apart). THE CARD IS WHAT COUNTS. Prove the row's statement (the work); the ties are given (YtpagdpaiienjcaaGreatDoorTie.lean); close each card by the builder's one call (the guide's Derived/Test/ToyasCard.lean, 'card_holds'). Laid BY PROGRAM, IN A SANDBOX (cutbox-door.mjs). By AI agents, Wed Nov 11 2026. No macro, syntax, notation, axiom, sorry.
-/
import Derived.Test.YtpagdpaiienjcaaGreatDoorRows
import GoSem.ClaimSeven
namespace Go.Proofs.YtpagdpaiienjcaaGreatDoor
namespace Rows

/-- THE TIED CARD OF 'shuttlelaw08.ExpandNone'. -/
def expandNoneCard : Claim7 := { stood := { row := expandNoneRow, standIns := [], harness := (true, "0ab2a85c11a86170d02aa52479048b03a2d340a1c52aa344c751cfc8e1098567"), looks := true }, kinds := [], alts := [], laidByText := true, laidKinds := [.data, .data, .data], laidTests := true, laidLooks := .later }
def ExpandNoneCardSaid : Prop := Claim7.holds Tryz.pinned (.plain (OpenSpec.ofChange expandNoneSpec)) expandNoneCard

/-- THE SECOND FORM's CARD OF 'shuttlelaw08.ExpandNone'. -/
def expandNoneUptoCard : Claim7 := { stood := { row := expandNoneUptoRow, standIns := [], harness := (true, "0ab2a85c11a86170d02aa52479048b03a2d340a1c52aa344c751cfc8e1098567"), looks := true }, kinds := [], alts := [], laidByText := true, laidKinds := [.data, .data, .data], laidTests := true, laidLooks := .later }
def ExpandNoneUptoCardSaid : Prop := Claim7.holds Tryz.pinned (.plain (OpenSpec.upto expandNoneSpec)) expandNoneUptoCard
end Rows
end Go.Proofs.YtpagdpaiienjcaaGreatDoor
