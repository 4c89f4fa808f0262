/-
  DERIVED. GIVEN WITH THE SEED: THE CARDS: each row of YtcfhdpbebiibjaaDoorRows.lean that lists a variable, with what it lists TIED to the program's text (the seventh form; the later family's looks); each row that meets fmt, with fmt's text TOLD by the authors' own Lean function (tested against real Go, not proved from fmt's source: count such statements apart). THE CARD IS WHAT COUNTS. Prove the row's statement (the work); the ties are given (YtcfhdpbebiibjaaDoorTie.lean); close each card by the builder's one call (the guide's Derived/Test/ToyasCard.lean, 'card_holds'). Laid BY PROGRAM, IN A SANDBOX (cutbox-door.mjs). By AI agents, Wed Nov 11 2026. No macro, syntax, notation, axiom, sorry.
-/
import Derived.Test.YtcfhdpbebiibjaaDoorRows
import GoSem.ClaimSeven
namespace Go.Proofs.YtcfhdpbebiibjaaDoor
namespace Rows

/-- THE TIED CARD OF 'tosherlaw05.AutoRounds'. -/
def autoRoundsCard : Claim7 := { stood := { row := autoRoundsRow, standIns := [], harness := (true, "6cac55f6fb1914d51d5ce4e821c63e2b1632a37529ed28f8f84c63cc8fed490a"), looks := false }, kinds := [], alts := [], laidByText := true, laidKinds := [.data], laidTests := true, laidLooks := .later }
def AutoRoundsCardSaid : Prop := Claim7.holds Tryd.pinned (.plain (OpenSpec.ofChange autoRoundsSpec)) autoRoundsCard

/-- THE TIED CARD OF 'tosherlaw05.AutoEvers'. -/
def autoEversCard : Claim7 := { stood := { row := autoEversRow, standIns := [], harness := (true, "6cac55f6fb1914d51d5ce4e821c63e2b1632a37529ed28f8f84c63cc8fed490a"), looks := false }, kinds := [], alts := [], laidByText := true, laidKinds := [.data], laidTests := true, laidLooks := .later }
def AutoEversCardSaid : Prop := Claim7.holds Tryd.pinned (.plain (OpenSpec.ofChange autoEversSpec)) autoEversCard

/-- THE TIED CARD OF 'tosherlaw05.AutoOwn'. -/
def autoOwnCard : Claim7 := { stood := { row := autoOwnRow, standIns := [], harness := (true, "6cac55f6fb1914d51d5ce4e821c63e2b1632a37529ed28f8f84c63cc8fed490a"), looks := false }, kinds := [], alts := [], laidByText := true, laidKinds := [.data], laidTests := true, laidLooks := .later }
def AutoOwnCardSaid : Prop := Claim7.holds Tryd.pinned (.plain (OpenSpec.ofChange autoOwnSpec)) autoOwnCard

/-- THE TIED CARD OF 'tosherlaw05.AutoAts'. -/
def autoAtsCard : Claim7 := { stood := { row := autoAtsRow, standIns := [], harness := (true, "6cac55f6fb1914d51d5ce4e821c63e2b1632a37529ed28f8f84c63cc8fed490a"), looks := false }, kinds := [], alts := [], laidByText := true, laidKinds := [.data], laidTests := true, laidLooks := .later }
def AutoAtsCardSaid : Prop := Claim7.holds Tryd.pinned (.plain (OpenSpec.ofChange autoAtsSpec)) autoAtsCard

/-- THE TIED CARD OF 'tosherlaw05.AutoEveries'. -/
def autoEveriesCard : Claim7 := { stood := { row := autoEveriesRow, standIns := [], harness := (true, "6cac55f6fb1914d51d5ce4e821c63e2b1632a37529ed28f8f84c63cc8fed490a"), looks := false }, kinds := [], alts := [], laidByText := true, laidKinds := [.data], laidTests := true, laidLooks := .later }
def AutoEveriesCardSaid : Prop := Claim7.holds Tryd.pinned (.plain (OpenSpec.ofChange autoEveriesSpec)) autoEveriesCard

/-- THE TIED CARD OF 'tosherlaw05.AutoIsRound'. -/
def autoIsRoundCard : Claim7 := { stood := { row := autoIsRoundRow, standIns := [], harness := (true, "6cac55f6fb1914d51d5ce4e821c63e2b1632a37529ed28f8f84c63cc8fed490a"), looks := false }, kinds := [], alts := [], laidByText := true, laidKinds := [.data], laidTests := true, laidLooks := .later }
def AutoIsRoundCardSaid : Prop := Claim7.holds Tryd.pinned (.plain (OpenSpec.ofChange autoIsRoundSpec)) autoIsRoundCard

/-- THE TIED CARD OF 'tosherlaw05.AutoThue'. -/
def autoThueCard : Claim7 := { stood := { row := autoThueRow, standIns := [], harness := (true, "6cac55f6fb1914d51d5ce4e821c63e2b1632a37529ed28f8f84c63cc8fed490a"), looks := false }, kinds := [], alts := [], laidByText := true, laidKinds := [.data], laidTests := true, laidLooks := .later }
def AutoThueCardSaid : Prop := Claim7.holds Tryd.pinned (.plain (OpenSpec.ofChange autoThueSpec)) autoThueCard

/-- THE TIED CARD OF 'tosherlaw05.AutoSquares'. -/
def autoSquaresCard : Claim7 := { stood := { row := autoSquaresRow, standIns := [], harness := (true, "6cac55f6fb1914d51d5ce4e821c63e2b1632a37529ed28f8f84c63cc8fed490a"), looks := false }, kinds := [], alts := [], laidByText := true, laidKinds := [.data], laidTests := true, laidLooks := .later }
def AutoSquaresCardSaid : Prop := Claim7.holds Tryd.pinned (.plain (OpenSpec.ofChange autoSquaresSpec)) autoSquaresCard

/-- THE TIED CARD OF 'tosherlaw05.AutoForms'. -/
def autoFormsCard : Claim7 := { stood := { row := autoFormsRow, standIns := [], harness := (true, "6cac55f6fb1914d51d5ce4e821c63e2b1632a37529ed28f8f84c63cc8fed490a"), looks := false }, kinds := [], alts := [], laidByText := true, laidKinds := [.data], laidTests := true, laidLooks := .later }
def AutoFormsCardSaid : Prop := Claim7.holds Tryd.pinned (.plain (OpenSpec.ofChange autoFormsSpec)) autoFormsCard

/-- THE TIED CARD OF 'tosherlaw05.AutoSame'. -/
def autoSameCard : Claim7 := { stood := { row := autoSameRow, standIns := [], harness := (true, "6cac55f6fb1914d51d5ce4e821c63e2b1632a37529ed28f8f84c63cc8fed490a"), looks := false }, kinds := [], alts := [], laidByText := true, laidKinds := [.data], laidTests := true, laidLooks := .later }
def AutoSameCardSaid : Prop := Claim7.holds Tryd.pinned (.plain (OpenSpec.ofChange autoSameSpec)) autoSameCard

/-- THE TIED CARD OF 'tosherlaw05.AutoLaters'. -/
def autoLatersCard : Claim7 := { stood := { row := autoLatersRow, standIns := [], harness := (true, "6cac55f6fb1914d51d5ce4e821c63e2b1632a37529ed28f8f84c63cc8fed490a"), looks := false }, kinds := [], alts := [], laidByText := true, laidKinds := [.data], laidTests := true, laidLooks := .later }
def AutoLatersCardSaid : Prop := Claim7.holds Tryd.pinned (.plain (OpenSpec.ofChange autoLatersSpec)) autoLatersCard

/-- THE TIED CARD OF 'tosherlaw05.AutoMaps'. -/
def autoMapsCard : Claim7 := { stood := { row := autoMapsRow, standIns := [], harness := (true, "6cac55f6fb1914d51d5ce4e821c63e2b1632a37529ed28f8f84c63cc8fed490a"), looks := false }, kinds := [], alts := [], laidByText := true, laidKinds := [.data], laidTests := true, laidLooks := .later }
def AutoMapsCardSaid : Prop := Claim7.holds Tryd.pinned (.plain (OpenSpec.ofChange autoMapsSpec)) autoMapsCard

/-- THE TIED CARD OF 'tosherlaw05.AutoKernels'. -/
def autoKernelsCard : Claim7 := { stood := { row := autoKernelsRow, standIns := [], harness := (true, "6cac55f6fb1914d51d5ce4e821c63e2b1632a37529ed28f8f84c63cc8fed490a"), looks := false }, kinds := [], alts := [], laidByText := true, laidKinds := [.data], laidTests := true, laidLooks := .later }
def AutoKernelsCardSaid : Prop := Claim7.holds Tryd.pinned (.plain (OpenSpec.ofChange autoKernelsSpec)) autoKernelsCard

/-- THE TIED CARD OF 'tosherlaw05.AutoChecks'. -/
def autoChecksCard : Claim7 := { stood := { row := autoChecksRow, standIns := [], harness := (true, "6cac55f6fb1914d51d5ce4e821c63e2b1632a37529ed28f8f84c63cc8fed490a"), looks := false }, kinds := [], alts := [], laidByText := true, laidKinds := [.data], laidTests := true, laidLooks := .later }
def AutoChecksCardSaid : Prop := Claim7.holds Tryd.pinned (.plain (OpenSpec.ofChange autoChecksSpec)) autoChecksCard

/-- THE SECOND FORM's CARD OF 'tosherlaw05.AutoRounds'. -/
def autoRoundsUptoCard : Claim7 := { stood := { row := autoRoundsUptoRow, standIns := [], harness := (true, "6cac55f6fb1914d51d5ce4e821c63e2b1632a37529ed28f8f84c63cc8fed490a"), looks := false }, kinds := [], alts := [], laidByText := true, laidKinds := [.data], laidTests := true, laidLooks := .later }
def AutoRoundsUptoCardSaid : Prop := Claim7.holds Tryd.pinned (.plain (OpenSpec.upto autoRoundsSpec)) autoRoundsUptoCard

/-- THE SECOND FORM's CARD OF 'tosherlaw05.AutoEvers'. -/
def autoEversUptoCard : Claim7 := { stood := { row := autoEversUptoRow, standIns := [], harness := (true, "6cac55f6fb1914d51d5ce4e821c63e2b1632a37529ed28f8f84c63cc8fed490a"), looks := false }, kinds := [], alts := [], laidByText := true, laidKinds := [.data], laidTests := true, laidLooks := .later }
def AutoEversUptoCardSaid : Prop := Claim7.holds Tryd.pinned (.plain (OpenSpec.upto autoEversSpec)) autoEversUptoCard

/-- THE SECOND FORM's CARD OF 'tosherlaw05.AutoOwn'. -/
def autoOwnUptoCard : Claim7 := { stood := { row := autoOwnUptoRow, standIns := [], harness := (true, "6cac55f6fb1914d51d5ce4e821c63e2b1632a37529ed28f8f84c63cc8fed490a"), looks := false }, kinds := [], alts := [], laidByText := true, laidKinds := [.data], laidTests := true, laidLooks := .later }
def AutoOwnUptoCardSaid : Prop := Claim7.holds Tryd.pinned (.plain (OpenSpec.upto autoOwnSpec)) autoOwnUptoCard

/-- THE SECOND FORM's CARD OF 'tosherlaw05.AutoAts'. -/
def autoAtsUptoCard : Claim7 := { stood := { row := autoAtsUptoRow, standIns := [], harness := (true, "6cac55f6fb1914d51d5ce4e821c63e2b1632a37529ed28f8f84c63cc8fed490a"), looks := false }, kinds := [], alts := [], laidByText := true, laidKinds := [.data], laidTests := true, laidLooks := .later }
def AutoAtsUptoCardSaid : Prop := Claim7.holds Tryd.pinned (.plain (OpenSpec.upto autoAtsSpec)) autoAtsUptoCard

/-- THE SECOND FORM's CARD OF 'tosherlaw05.AutoEveries'. -/
def autoEveriesUptoCard : Claim7 := { stood := { row := autoEveriesUptoRow, standIns := [], harness := (true, "6cac55f6fb1914d51d5ce4e821c63e2b1632a37529ed28f8f84c63cc8fed490a"), looks := false }, kinds := [], alts := [], laidByText := true, laidKinds := [.data], laidTests := true, laidLooks := .later }
def AutoEveriesUptoCardSaid : Prop := Claim7.holds Tryd.pinned (.plain (OpenSpec.upto autoEveriesSpec)) autoEveriesUptoCard

/-- THE SECOND FORM's CARD OF 'tosherlaw05.AutoIsRound'. -/
def autoIsRoundUptoCard : Claim7 := { stood := { row := autoIsRoundUptoRow, standIns := [], harness := (true, "6cac55f6fb1914d51d5ce4e821c63e2b1632a37529ed28f8f84c63cc8fed490a"), looks := false }, kinds := [], alts := [], laidByText := true, laidKinds := [.data], laidTests := true, laidLooks := .later }
def AutoIsRoundUptoCardSaid : Prop := Claim7.holds Tryd.pinned (.plain (OpenSpec.upto autoIsRoundSpec)) autoIsRoundUptoCard

/-- THE SECOND FORM's CARD OF 'tosherlaw05.AutoThue'. -/
def autoThueUptoCard : Claim7 := { stood := { row := autoThueUptoRow, standIns := [], harness := (true, "6cac55f6fb1914d51d5ce4e821c63e2b1632a37529ed28f8f84c63cc8fed490a"), looks := false }, kinds := [], alts := [], laidByText := true, laidKinds := [.data], laidTests := true, laidLooks := .later }
def AutoThueUptoCardSaid : Prop := Claim7.holds Tryd.pinned (.plain (OpenSpec.upto autoThueSpec)) autoThueUptoCard

/-- THE SECOND FORM's CARD OF 'tosherlaw05.AutoSquares'. -/
def autoSquaresUptoCard : Claim7 := { stood := { row := autoSquaresUptoRow, standIns := [], harness := (true, "6cac55f6fb1914d51d5ce4e821c63e2b1632a37529ed28f8f84c63cc8fed490a"), looks := false }, kinds := [], alts := [], laidByText := true, laidKinds := [.data], laidTests := true, laidLooks := .later }
def AutoSquaresUptoCardSaid : Prop := Claim7.holds Tryd.pinned (.plain (OpenSpec.upto autoSquaresSpec)) autoSquaresUptoCard

/-- THE SECOND FORM's CARD OF 'tosherlaw05.AutoForms'. -/
def autoFormsUptoCard : Claim7 := { stood := { row := autoFormsUptoRow, standIns := [], harness := (true, "6cac55f6fb1914d51d5ce4e821c63e2b1632a37529ed28f8f84c63cc8fed490a"), looks := false }, kinds := [], alts := [], laidByText := true, laidKinds := [.data], laidTests := true, laidLooks := .later }
def AutoFormsUptoCardSaid : Prop := Claim7.holds Tryd.pinned (.plain (OpenSpec.upto autoFormsSpec)) autoFormsUptoCard

/-- THE SECOND FORM's CARD OF 'tosherlaw05.AutoSame'. -/
def autoSameUptoCard : Claim7 := { stood := { row := autoSameUptoRow, standIns := [], harness := (true, "6cac55f6fb1914d51d5ce4e821c63e2b1632a37529ed28f8f84c63cc8fed490a"), looks := false }, kinds := [], alts := [], laidByText := true, laidKinds := [.data], laidTests := true, laidLooks := .later }
def AutoSameUptoCardSaid : Prop := Claim7.holds Tryd.pinned (.plain (OpenSpec.upto autoSameSpec)) autoSameUptoCard

/-- THE SECOND FORM's CARD OF 'tosherlaw05.AutoLaters'. -/
def autoLatersUptoCard : Claim7 := { stood := { row := autoLatersUptoRow, standIns := [], harness := (true, "6cac55f6fb1914d51d5ce4e821c63e2b1632a37529ed28f8f84c63cc8fed490a"), looks := false }, kinds := [], alts := [], laidByText := true, laidKinds := [.data], laidTests := true, laidLooks := .later }
def AutoLatersUptoCardSaid : Prop := Claim7.holds Tryd.pinned (.plain (OpenSpec.upto autoLatersSpec)) autoLatersUptoCard

/-- THE SECOND FORM's CARD OF 'tosherlaw05.AutoMaps'. -/
def autoMapsUptoCard : Claim7 := { stood := { row := autoMapsUptoRow, standIns := [], harness := (true, "6cac55f6fb1914d51d5ce4e821c63e2b1632a37529ed28f8f84c63cc8fed490a"), looks := false }, kinds := [], alts := [], laidByText := true, laidKinds := [.data], laidTests := true, laidLooks := .later }
def AutoMapsUptoCardSaid : Prop := Claim7.holds Tryd.pinned (.plain (OpenSpec.upto autoMapsSpec)) autoMapsUptoCard

/-- THE SECOND FORM's CARD OF 'tosherlaw05.AutoKernels'. -/
def autoKernelsUptoCard : Claim7 := { stood := { row := autoKernelsUptoRow, standIns := [], harness := (true, "6cac55f6fb1914d51d5ce4e821c63e2b1632a37529ed28f8f84c63cc8fed490a"), looks := false }, kinds := [], alts := [], laidByText := true, laidKinds := [.data], laidTests := true, laidLooks := .later }
def AutoKernelsUptoCardSaid : Prop := Claim7.holds Tryd.pinned (.plain (OpenSpec.upto autoKernelsSpec)) autoKernelsUptoCard

/-- THE SECOND FORM's CARD OF 'tosherlaw05.AutoChecks'. -/
def autoChecksUptoCard : Claim7 := { stood := { row := autoChecksUptoRow, standIns := [], harness := (true, "6cac55f6fb1914d51d5ce4e821c63e2b1632a37529ed28f8f84c63cc8fed490a"), looks := false }, kinds := [], alts := [], laidByText := true, laidKinds := [.data], laidTests := true, laidLooks := .later }
def AutoChecksUptoCardSaid : Prop := Claim7.holds Tryd.pinned (.plain (OpenSpec.upto autoChecksSpec)) autoChecksUptoCard
end Rows
end Go.Proofs.YtcfhdpbebiibjaaDoor
