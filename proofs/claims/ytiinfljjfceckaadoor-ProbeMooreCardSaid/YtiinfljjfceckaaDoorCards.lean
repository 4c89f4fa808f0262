/-
  DERIVED. GIVEN WITH THE SEED: THE CARDS: each row of YtiinfljjfceckaaDoorRows.lean that lists a variable, with what it lists TIED to the program's text (the seventh form; the later family's looks); each row that meets fmt, with fmt's text TOLD by the authors' own Lean function (tested against real Go, not proved from fmt's source: count such statements apart). THE CARD IS WHAT COUNTS. Prove the row's statement (the work); the ties are given (YtiinfljjfceckaaDoorTie.lean); close each card by the builder's one call (the guide's Derived/Test/ToyasCard.lean, 'card_holds'). Laid BY PROGRAM, IN A SANDBOX (cutbox-door.mjs). By AI agents, Wed Nov 11 2026. No macro, syntax, notation, axiom, sorry.
-/
import Derived.Test.YtiinfljjfceckaaDoorRows
import GoSem.ClaimSeven
namespace Go.Proofs.YtiinfljjfceckaaDoor
namespace Rows

/-- THE TIED CARD OF 'tosherlaw09.ProbeForms'. -/
def probeFormsCard : Claim7 := { stood := { row := probeFormsRow, standIns := [], harness := (true, "d372f8a1ab526c32abd872dd61c68758228e9d41f4dc278d1669d3c66d2aec79"), looks := false }, kinds := [], alts := [], laidByText := true, laidKinds := [.data, .data], laidTests := true, laidLooks := .later }
def ProbeFormsCardSaid : Prop := Claim7.holds Tryd.pinned (.plain (OpenSpec.ofChange probeFormsSpec)) probeFormsCard

/-- THE TIED CARD OF 'tosherlaw09.ProbeSays'. -/
def probeSaysCard : Claim7 := { stood := { row := probeSaysRow, standIns := [], harness := (true, "d372f8a1ab526c32abd872dd61c68758228e9d41f4dc278d1669d3c66d2aec79"), looks := false }, kinds := [], alts := [], laidByText := true, laidKinds := [.data, .data], laidTests := true, laidLooks := .later }
def ProbeSaysCardSaid : Prop := Claim7.holds Tryd.pinned (.plain (OpenSpec.ofChange probeSaysSpec)) probeSaysCard

/-- THE TIED CARD OF 'tosherlaw09.ProbeWords'. -/
def probeWordsCard : Claim7 := { stood := { row := probeWordsRow, standIns := [], harness := (true, "d372f8a1ab526c32abd872dd61c68758228e9d41f4dc278d1669d3c66d2aec79"), looks := false }, kinds := [], alts := [], laidByText := true, laidKinds := [.data, .data], laidTests := true, laidLooks := .later }
def ProbeWordsCardSaid : Prop := Claim7.holds Tryd.pinned (.plain (OpenSpec.ofChange probeWordsSpec)) probeWordsCard

/-- THE TIED CARD OF 'tosherlaw09.ProbeAparts'. -/
def probeApartsCard : Claim7 := { stood := { row := probeApartsRow, standIns := [], harness := (true, "d372f8a1ab526c32abd872dd61c68758228e9d41f4dc278d1669d3c66d2aec79"), looks := false }, kinds := [], alts := [], laidByText := true, laidKinds := [.data, .data], laidTests := true, laidLooks := .later }
def ProbeApartsCardSaid : Prop := Claim7.holds Tryd.pinned (.plain (OpenSpec.ofChange probeApartsSpec)) probeApartsCard

/-- THE TIED CARD OF 'tosherlaw09.ProbeMoore'. -/
def probeMooreCard : Claim7 := { stood := { row := probeMooreRow, standIns := [], harness := (true, "d372f8a1ab526c32abd872dd61c68758228e9d41f4dc278d1669d3c66d2aec79"), looks := false }, kinds := [], alts := [], laidByText := true, laidKinds := [.data, .data], laidTests := true, laidLooks := .later }
def ProbeMooreCardSaid : Prop := Claim7.holds Tryd.pinned (.plain (OpenSpec.ofChange probeMooreSpec)) probeMooreCard

/-- THE TIED CARD OF 'tosherlaw09.ProbePasses'. -/
def probePassesCard : Claim7 := { stood := { row := probePassesRow, standIns := [], harness := (true, "d372f8a1ab526c32abd872dd61c68758228e9d41f4dc278d1669d3c66d2aec79"), looks := false }, kinds := [], alts := [], laidByText := true, laidKinds := [.data, .data], laidTests := true, laidLooks := .later }
def ProbePassesCardSaid : Prop := Claim7.holds Tryd.pinned (.plain (OpenSpec.ofChange probePassesSpec)) probePassesCard

/-- THE TIED CARD OF 'tosherlaw09.ProbeTells'. -/
def probeTellsCard : Claim7 := { stood := { row := probeTellsRow, standIns := [], harness := (true, "d372f8a1ab526c32abd872dd61c68758228e9d41f4dc278d1669d3c66d2aec79"), looks := false }, kinds := [], alts := [], laidByText := true, laidKinds := [.data, .data], laidTests := true, laidLooks := .later }
def ProbeTellsCardSaid : Prop := Claim7.holds Tryd.pinned (.plain (OpenSpec.ofChange probeTellsSpec)) probeTellsCard

/-- THE TIED CARD OF 'tosherlaw09.ProbePlans'. -/
def probePlansCard : Claim7 := { stood := { row := probePlansRow, standIns := [], harness := (true, "d372f8a1ab526c32abd872dd61c68758228e9d41f4dc278d1669d3c66d2aec79"), looks := false }, kinds := [], alts := [], laidByText := true, laidKinds := [.data, .data], laidTests := true, laidLooks := .later }
def ProbePlansCardSaid : Prop := Claim7.holds Tryd.pinned (.plain (OpenSpec.ofChange probePlansSpec)) probePlansCard

/-- THE TIED CARD OF 'tosherlaw09.ProbeHeights'. -/
def probeHeightsCard : Claim7 := { stood := { row := probeHeightsRow, standIns := [], harness := (true, "d372f8a1ab526c32abd872dd61c68758228e9d41f4dc278d1669d3c66d2aec79"), looks := false }, kinds := [], alts := [], laidByText := true, laidKinds := [.data, .data], laidTests := true, laidLooks := .later }
def ProbeHeightsCardSaid : Prop := Claim7.holds Tryd.pinned (.plain (OpenSpec.ofChange probeHeightsSpec)) probeHeightsCard

/-- THE TIED CARD OF 'tosherlaw09.ProbeGill'. -/
def probeGillCard : Claim7 := { stood := { row := probeGillRow, standIns := [], harness := (true, "d372f8a1ab526c32abd872dd61c68758228e9d41f4dc278d1669d3c66d2aec79"), looks := false }, kinds := [], alts := [], laidByText := true, laidKinds := [.data, .data], laidTests := true, laidLooks := .later }
def ProbeGillCardSaid : Prop := Claim7.holds Tryd.pinned (.plain (OpenSpec.ofChange probeGillSpec)) probeGillCard

/-- THE TIED CARD OF 'tosherlaw09.ProbeOwn'. -/
def probeOwnCard : Claim7 := { stood := { row := probeOwnRow, standIns := [], harness := (true, "d372f8a1ab526c32abd872dd61c68758228e9d41f4dc278d1669d3c66d2aec79"), looks := false }, kinds := [], alts := [], laidByText := true, laidKinds := [.data, .data], laidTests := true, laidLooks := .later }
def ProbeOwnCardSaid : Prop := Claim7.holds Tryd.pinned (.plain (OpenSpec.ofChange probeOwnSpec)) probeOwnCard

/-- THE TIED CARD OF 'tosherlaw09.ProbeSuites'. -/
def probeSuitesCard : Claim7 := { stood := { row := probeSuitesRow, standIns := [], harness := (true, "d372f8a1ab526c32abd872dd61c68758228e9d41f4dc278d1669d3c66d2aec79"), looks := false }, kinds := [], alts := [], laidByText := true, laidKinds := [.data, .data], laidTests := true, laidLooks := .later }
def ProbeSuitesCardSaid : Prop := Claim7.holds Tryd.pinned (.plain (OpenSpec.ofChange probeSuitesSpec)) probeSuitesCard

/-- THE SECOND FORM's CARD OF 'tosherlaw09.ProbeForms'. -/
def probeFormsUptoCard : Claim7 := { stood := { row := probeFormsUptoRow, standIns := [], harness := (true, "d372f8a1ab526c32abd872dd61c68758228e9d41f4dc278d1669d3c66d2aec79"), looks := false }, kinds := [], alts := [], laidByText := true, laidKinds := [.data, .data], laidTests := true, laidLooks := .later }
def ProbeFormsUptoCardSaid : Prop := Claim7.holds Tryd.pinned (.plain (OpenSpec.upto probeFormsSpec)) probeFormsUptoCard

/-- THE SECOND FORM's CARD OF 'tosherlaw09.ProbeSays'. -/
def probeSaysUptoCard : Claim7 := { stood := { row := probeSaysUptoRow, standIns := [], harness := (true, "d372f8a1ab526c32abd872dd61c68758228e9d41f4dc278d1669d3c66d2aec79"), looks := false }, kinds := [], alts := [], laidByText := true, laidKinds := [.data, .data], laidTests := true, laidLooks := .later }
def ProbeSaysUptoCardSaid : Prop := Claim7.holds Tryd.pinned (.plain (OpenSpec.upto probeSaysSpec)) probeSaysUptoCard

/-- THE SECOND FORM's CARD OF 'tosherlaw09.ProbeWords'. -/
def probeWordsUptoCard : Claim7 := { stood := { row := probeWordsUptoRow, standIns := [], harness := (true, "d372f8a1ab526c32abd872dd61c68758228e9d41f4dc278d1669d3c66d2aec79"), looks := false }, kinds := [], alts := [], laidByText := true, laidKinds := [.data, .data], laidTests := true, laidLooks := .later }
def ProbeWordsUptoCardSaid : Prop := Claim7.holds Tryd.pinned (.plain (OpenSpec.upto probeWordsSpec)) probeWordsUptoCard

/-- THE SECOND FORM's CARD OF 'tosherlaw09.ProbeAparts'. -/
def probeApartsUptoCard : Claim7 := { stood := { row := probeApartsUptoRow, standIns := [], harness := (true, "d372f8a1ab526c32abd872dd61c68758228e9d41f4dc278d1669d3c66d2aec79"), looks := false }, kinds := [], alts := [], laidByText := true, laidKinds := [.data, .data], laidTests := true, laidLooks := .later }
def ProbeApartsUptoCardSaid : Prop := Claim7.holds Tryd.pinned (.plain (OpenSpec.upto probeApartsSpec)) probeApartsUptoCard

/-- THE SECOND FORM's CARD OF 'tosherlaw09.ProbeMoore'. -/
def probeMooreUptoCard : Claim7 := { stood := { row := probeMooreUptoRow, standIns := [], harness := (true, "d372f8a1ab526c32abd872dd61c68758228e9d41f4dc278d1669d3c66d2aec79"), looks := false }, kinds := [], alts := [], laidByText := true, laidKinds := [.data, .data], laidTests := true, laidLooks := .later }
def ProbeMooreUptoCardSaid : Prop := Claim7.holds Tryd.pinned (.plain (OpenSpec.upto probeMooreSpec)) probeMooreUptoCard

/-- THE SECOND FORM's CARD OF 'tosherlaw09.ProbePasses'. -/
def probePassesUptoCard : Claim7 := { stood := { row := probePassesUptoRow, standIns := [], harness := (true, "d372f8a1ab526c32abd872dd61c68758228e9d41f4dc278d1669d3c66d2aec79"), looks := false }, kinds := [], alts := [], laidByText := true, laidKinds := [.data, .data], laidTests := true, laidLooks := .later }
def ProbePassesUptoCardSaid : Prop := Claim7.holds Tryd.pinned (.plain (OpenSpec.upto probePassesSpec)) probePassesUptoCard

/-- THE SECOND FORM's CARD OF 'tosherlaw09.ProbeTells'. -/
def probeTellsUptoCard : Claim7 := { stood := { row := probeTellsUptoRow, standIns := [], harness := (true, "d372f8a1ab526c32abd872dd61c68758228e9d41f4dc278d1669d3c66d2aec79"), looks := false }, kinds := [], alts := [], laidByText := true, laidKinds := [.data, .data], laidTests := true, laidLooks := .later }
def ProbeTellsUptoCardSaid : Prop := Claim7.holds Tryd.pinned (.plain (OpenSpec.upto probeTellsSpec)) probeTellsUptoCard

/-- THE SECOND FORM's CARD OF 'tosherlaw09.ProbePlans'. -/
def probePlansUptoCard : Claim7 := { stood := { row := probePlansUptoRow, standIns := [], harness := (true, "d372f8a1ab526c32abd872dd61c68758228e9d41f4dc278d1669d3c66d2aec79"), looks := false }, kinds := [], alts := [], laidByText := true, laidKinds := [.data, .data], laidTests := true, laidLooks := .later }
def ProbePlansUptoCardSaid : Prop := Claim7.holds Tryd.pinned (.plain (OpenSpec.upto probePlansSpec)) probePlansUptoCard

/-- THE SECOND FORM's CARD OF 'tosherlaw09.ProbeHeights'. -/
def probeHeightsUptoCard : Claim7 := { stood := { row := probeHeightsUptoRow, standIns := [], harness := (true, "d372f8a1ab526c32abd872dd61c68758228e9d41f4dc278d1669d3c66d2aec79"), looks := false }, kinds := [], alts := [], laidByText := true, laidKinds := [.data, .data], laidTests := true, laidLooks := .later }
def ProbeHeightsUptoCardSaid : Prop := Claim7.holds Tryd.pinned (.plain (OpenSpec.upto probeHeightsSpec)) probeHeightsUptoCard

/-- THE SECOND FORM's CARD OF 'tosherlaw09.ProbeGill'. -/
def probeGillUptoCard : Claim7 := { stood := { row := probeGillUptoRow, standIns := [], harness := (true, "d372f8a1ab526c32abd872dd61c68758228e9d41f4dc278d1669d3c66d2aec79"), looks := false }, kinds := [], alts := [], laidByText := true, laidKinds := [.data, .data], laidTests := true, laidLooks := .later }
def ProbeGillUptoCardSaid : Prop := Claim7.holds Tryd.pinned (.plain (OpenSpec.upto probeGillSpec)) probeGillUptoCard

/-- THE SECOND FORM's CARD OF 'tosherlaw09.ProbeOwn'. -/
def probeOwnUptoCard : Claim7 := { stood := { row := probeOwnUptoRow, standIns := [], harness := (true, "d372f8a1ab526c32abd872dd61c68758228e9d41f4dc278d1669d3c66d2aec79"), looks := false }, kinds := [], alts := [], laidByText := true, laidKinds := [.data, .data], laidTests := true, laidLooks := .later }
def ProbeOwnUptoCardSaid : Prop := Claim7.holds Tryd.pinned (.plain (OpenSpec.upto probeOwnSpec)) probeOwnUptoCard

/-- THE SECOND FORM's CARD OF 'tosherlaw09.ProbeSuites'. -/
def probeSuitesUptoCard : Claim7 := { stood := { row := probeSuitesUptoRow, standIns := [], harness := (true, "d372f8a1ab526c32abd872dd61c68758228e9d41f4dc278d1669d3c66d2aec79"), looks := false }, kinds := [], alts := [], laidByText := true, laidKinds := [.data, .data], laidTests := true, laidLooks := .later }
def ProbeSuitesUptoCardSaid : Prop := Claim7.holds Tryd.pinned (.plain (OpenSpec.upto probeSuitesSpec)) probeSuitesUptoCard
end Rows
end Go.Proofs.YtiinfljjfceckaaDoor
