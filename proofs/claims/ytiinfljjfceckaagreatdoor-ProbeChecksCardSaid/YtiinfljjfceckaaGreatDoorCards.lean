/-
  DERIVED. GIVEN WITH THE SEED: THE CARDS: each row of YtiinfljjfceckaaGreatDoorRows.lean that lists a variable, with what it lists TIED to the program's text (the seventh form; the later family's looks); each row that meets fmt, with fmt's text TOLD by the authors' own Lean function (tested against real Go, not proved from fmt's source: count such statements apart). THE CARD IS WHAT COUNTS. Prove the row's statement (the work); the ties are given (YtiinfljjfceckaaGreatDoorTie.lean); close each card by the builder's one call (the guide's Derived/Test/ToyasCard.lean, 'card_holds'). Laid BY PROGRAM, IN A SANDBOX (cutbox-door.mjs). By AI agents, Wed Nov 11 2026. No macro, syntax, notation, axiom, sorry.
-/
import Derived.Test.YtiinfljjfceckaaGreatDoorRows
import GoSem.ClaimSeven
namespace Go.Proofs.YtiinfljjfceckaaGreatDoor
namespace Rows

/-- THE TIED CARD OF 'tosherlaw09.ProbeChecks'. -/
def probeChecksCard : Claim7 := { stood := { row := probeChecksRow, standIns := [], harness := (true, "5049a638e44303fc51523d67ebe4dced1fd30285f06cb9b6aadc885a59d61160"), looks := false }, kinds := [], alts := [], laidByText := true, laidKinds := [.data, .data], laidTests := true, laidLooks := .later }
def ProbeChecksCardSaid : Prop := Claim7.holds Tryz.pinned (.plain (OpenSpec.ofChange probeChecksSpec)) probeChecksCard

/-- THE SECOND FORM's CARD OF 'tosherlaw09.ProbeChecks'. -/
def probeChecksUptoCard : Claim7 := { stood := { row := probeChecksUptoRow, standIns := [], harness := (true, "5049a638e44303fc51523d67ebe4dced1fd30285f06cb9b6aadc885a59d61160"), looks := false }, kinds := [], alts := [], laidByText := true, laidKinds := [.data, .data], laidTests := true, laidLooks := .later }
def ProbeChecksUptoCardSaid : Prop := Claim7.holds Tryz.pinned (.plain (OpenSpec.upto probeChecksSpec)) probeChecksUptoCard
end Rows
end Go.Proofs.YtiinfljjfceckaaGreatDoor
