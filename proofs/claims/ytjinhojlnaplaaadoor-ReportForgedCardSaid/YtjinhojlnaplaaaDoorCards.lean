/-
  DERIVED. GIVEN WITH THE SEED: THE CARDS: each row of YtjinhojlnaplaaaDoorRows.lean that lists a variable, with what it lists TIED to the program's text (the seventh form; the later family's looks); each row that meets fmt, with fmt's text TOLD by the authors' own Lean function (tested against real Go, not proved from fmt's source: count such statements apart). THE CARD IS WHAT COUNTS. Prove the row's statement (the work); the ties are given (YtjinhojlnaplaaaDoorTie.lean); close each card by the builder's one call (the guide's Derived/Test/ToyasCard.lean, 'card_holds'). Laid BY PROGRAM, IN A SANDBOX (cutbox-door.mjs). By AI agents, Wed Nov 11 2026. No macro, syntax, notation, axiom, sorry.
-/
import Derived.Test.YtjinhojlnaplaaaDoorRows
import GoSem.ClaimSeven
namespace Go.Proofs.YtjinhojlnaplaaaDoor
namespace Rows

/-- THE TIED CARD OF 'landfalllaw11.SignMatchesReference'. -/
def signMatchesReferenceCard : Claim7 := { stood := { row := signMatchesReferenceRow, standIns := [], harness := (true, "1c8df7361f5d2c69389bfa4462ad1596fcd45487153869fd2a4e9beed8a32764"), looks := false }, kinds := [], alts := [], laidByText := true, laidKinds := [.data, .data, .data], laidTests := true, laidLooks := .later }
def SignMatchesReferenceCardSaid : Prop := Claim7.holds Tryd.pinned (.plain (OpenSpec.ofChange signMatchesReferenceSpec)) signMatchesReferenceCard

/-- THE TIED CARD OF 'landfalllaw11.SignChallenges'. -/
def signChallengesCard : Claim7 := { stood := { row := signChallengesRow, standIns := [], harness := (true, "1c8df7361f5d2c69389bfa4462ad1596fcd45487153869fd2a4e9beed8a32764"), looks := false }, kinds := [], alts := [], laidByText := true, laidKinds := [.data, .data, .data], laidTests := true, laidLooks := .later }
def SignChallengesCardSaid : Prop := Claim7.holds Tryd.pinned (.plain (OpenSpec.ofChange signChallengesSpec)) signChallengesCard

/-- THE TIED CARD OF 'landfalllaw11.SignOnce'. -/
def signOnceCard : Claim7 := { stood := { row := signOnceRow, standIns := [], harness := (true, "1c8df7361f5d2c69389bfa4462ad1596fcd45487153869fd2a4e9beed8a32764"), looks := false }, kinds := [], alts := [], laidByText := true, laidKinds := [.data, .data, .data], laidTests := true, laidLooks := .later }
def SignOnceCardSaid : Prop := Claim7.holds Tryd.pinned (.plain (OpenSpec.ofChange signOnceSpec)) signOnceCard

/-- THE TIED CARD OF 'landfalllaw24.ReportMatchesReference'. -/
def reportMatchesReferenceCard : Claim7 := { stood := { row := reportMatchesReferenceRow, standIns := [], harness := (true, "1c8df7361f5d2c69389bfa4462ad1596fcd45487153869fd2a4e9beed8a32764"), looks := false }, kinds := [], alts := [], laidByText := true, laidKinds := [.data, .data, .data], laidTests := true, laidLooks := .later }
def ReportMatchesReferenceCardSaid : Prop := Claim7.holds Tryd.pinned (.plain (OpenSpec.ofChange reportMatchesReferenceSpec)) reportMatchesReferenceCard

/-- THE TIED CARD OF 'landfalllaw24.ReportChains'. -/
def reportChainsCard : Claim7 := { stood := { row := reportChainsRow, standIns := [], harness := (true, "1c8df7361f5d2c69389bfa4462ad1596fcd45487153869fd2a4e9beed8a32764"), looks := false }, kinds := [], alts := [], laidByText := true, laidKinds := [.data, .data, .data], laidTests := true, laidLooks := .later }
def ReportChainsCardSaid : Prop := Claim7.holds Tryd.pinned (.plain (OpenSpec.ofChange reportChainsSpec)) reportChainsCard

/-- THE TIED CARD OF 'landfalllaw24.ReportDigits'. -/
def reportDigitsCard : Claim7 := { stood := { row := reportDigitsRow, standIns := [], harness := (true, "1c8df7361f5d2c69389bfa4462ad1596fcd45487153869fd2a4e9beed8a32764"), looks := false }, kinds := [], alts := [], laidByText := true, laidKinds := [.data, .data, .data], laidTests := true, laidLooks := .later }
def ReportDigitsCardSaid : Prop := Claim7.holds Tryd.pinned (.plain (OpenSpec.ofChange reportDigitsSpec)) reportDigitsCard

/-- THE TIED CARD OF 'landfalllaw24.ReportRight'. -/
def reportRightCard : Claim7 := { stood := { row := reportRightRow, standIns := [], harness := (true, "1c8df7361f5d2c69389bfa4462ad1596fcd45487153869fd2a4e9beed8a32764"), looks := false }, kinds := [], alts := [], laidByText := true, laidKinds := [.data, .data, .data], laidTests := true, laidLooks := .later }
def ReportRightCardSaid : Prop := Claim7.holds Tryd.pinned (.plain (OpenSpec.ofChange reportRightSpec)) reportRightCard

/-- THE TIED CARD OF 'landfalllaw24.ReportParts'. -/
def reportPartsCard : Claim7 := { stood := { row := reportPartsRow, standIns := [], harness := (true, "1c8df7361f5d2c69389bfa4462ad1596fcd45487153869fd2a4e9beed8a32764"), looks := false }, kinds := [], alts := [], laidByText := true, laidKinds := [.data, .data, .data], laidTests := true, laidLooks := .later }
def ReportPartsCardSaid : Prop := Claim7.holds Tryd.pinned (.plain (OpenSpec.ofChange reportPartsSpec)) reportPartsCard

/-- THE TIED CARD OF 'landfalllaw24.ReportForged'. -/
def reportForgedCard : Claim7 := { stood := { row := reportForgedRow, standIns := [], harness := (true, "1c8df7361f5d2c69389bfa4462ad1596fcd45487153869fd2a4e9beed8a32764"), looks := false }, kinds := [], alts := [], laidByText := true, laidKinds := [.data, .data, .data], laidTests := true, laidLooks := .later }
def ReportForgedCardSaid : Prop := Claim7.holds Tryd.pinned (.plain (OpenSpec.ofChange reportForgedSpec)) reportForgedCard

/-- THE TIED CARD OF 'landfalllaw24.ReportLogs'. -/
def reportLogsCard : Claim7 := { stood := { row := reportLogsRow, standIns := [], harness := (true, "1c8df7361f5d2c69389bfa4462ad1596fcd45487153869fd2a4e9beed8a32764"), looks := false }, kinds := [], alts := [], laidByText := true, laidKinds := [.data, .data, .data], laidTests := true, laidLooks := .later }
def ReportLogsCardSaid : Prop := Claim7.holds Tryd.pinned (.plain (OpenSpec.ofChange reportLogsSpec)) reportLogsCard

/-- THE SECOND FORM's CARD OF 'landfalllaw11.SignMatchesReference'. -/
def signMatchesReferenceUptoCard : Claim7 := { stood := { row := signMatchesReferenceUptoRow, standIns := [], harness := (true, "1c8df7361f5d2c69389bfa4462ad1596fcd45487153869fd2a4e9beed8a32764"), looks := false }, kinds := [], alts := [], laidByText := true, laidKinds := [.data, .data, .data], laidTests := true, laidLooks := .later }
def SignMatchesReferenceUptoCardSaid : Prop := Claim7.holds Tryd.pinned (.plain (OpenSpec.upto signMatchesReferenceSpec)) signMatchesReferenceUptoCard

/-- THE SECOND FORM's CARD OF 'landfalllaw11.SignChallenges'. -/
def signChallengesUptoCard : Claim7 := { stood := { row := signChallengesUptoRow, standIns := [], harness := (true, "1c8df7361f5d2c69389bfa4462ad1596fcd45487153869fd2a4e9beed8a32764"), looks := false }, kinds := [], alts := [], laidByText := true, laidKinds := [.data, .data, .data], laidTests := true, laidLooks := .later }
def SignChallengesUptoCardSaid : Prop := Claim7.holds Tryd.pinned (.plain (OpenSpec.upto signChallengesSpec)) signChallengesUptoCard

/-- THE SECOND FORM's CARD OF 'landfalllaw11.SignOnce'. -/
def signOnceUptoCard : Claim7 := { stood := { row := signOnceUptoRow, standIns := [], harness := (true, "1c8df7361f5d2c69389bfa4462ad1596fcd45487153869fd2a4e9beed8a32764"), looks := false }, kinds := [], alts := [], laidByText := true, laidKinds := [.data, .data, .data], laidTests := true, laidLooks := .later }
def SignOnceUptoCardSaid : Prop := Claim7.holds Tryd.pinned (.plain (OpenSpec.upto signOnceSpec)) signOnceUptoCard

/-- THE SECOND FORM's CARD OF 'landfalllaw24.ReportMatchesReference'. -/
def reportMatchesReferenceUptoCard : Claim7 := { stood := { row := reportMatchesReferenceUptoRow, standIns := [], harness := (true, "1c8df7361f5d2c69389bfa4462ad1596fcd45487153869fd2a4e9beed8a32764"), looks := false }, kinds := [], alts := [], laidByText := true, laidKinds := [.data, .data, .data], laidTests := true, laidLooks := .later }
def ReportMatchesReferenceUptoCardSaid : Prop := Claim7.holds Tryd.pinned (.plain (OpenSpec.upto reportMatchesReferenceSpec)) reportMatchesReferenceUptoCard

/-- THE SECOND FORM's CARD OF 'landfalllaw24.ReportChains'. -/
def reportChainsUptoCard : Claim7 := { stood := { row := reportChainsUptoRow, standIns := [], harness := (true, "1c8df7361f5d2c69389bfa4462ad1596fcd45487153869fd2a4e9beed8a32764"), looks := false }, kinds := [], alts := [], laidByText := true, laidKinds := [.data, .data, .data], laidTests := true, laidLooks := .later }
def ReportChainsUptoCardSaid : Prop := Claim7.holds Tryd.pinned (.plain (OpenSpec.upto reportChainsSpec)) reportChainsUptoCard

/-- THE SECOND FORM's CARD OF 'landfalllaw24.ReportDigits'. -/
def reportDigitsUptoCard : Claim7 := { stood := { row := reportDigitsUptoRow, standIns := [], harness := (true, "1c8df7361f5d2c69389bfa4462ad1596fcd45487153869fd2a4e9beed8a32764"), looks := false }, kinds := [], alts := [], laidByText := true, laidKinds := [.data, .data, .data], laidTests := true, laidLooks := .later }
def ReportDigitsUptoCardSaid : Prop := Claim7.holds Tryd.pinned (.plain (OpenSpec.upto reportDigitsSpec)) reportDigitsUptoCard

/-- THE SECOND FORM's CARD OF 'landfalllaw24.ReportRight'. -/
def reportRightUptoCard : Claim7 := { stood := { row := reportRightUptoRow, standIns := [], harness := (true, "1c8df7361f5d2c69389bfa4462ad1596fcd45487153869fd2a4e9beed8a32764"), looks := false }, kinds := [], alts := [], laidByText := true, laidKinds := [.data, .data, .data], laidTests := true, laidLooks := .later }
def ReportRightUptoCardSaid : Prop := Claim7.holds Tryd.pinned (.plain (OpenSpec.upto reportRightSpec)) reportRightUptoCard

/-- THE SECOND FORM's CARD OF 'landfalllaw24.ReportParts'. -/
def reportPartsUptoCard : Claim7 := { stood := { row := reportPartsUptoRow, standIns := [], harness := (true, "1c8df7361f5d2c69389bfa4462ad1596fcd45487153869fd2a4e9beed8a32764"), looks := false }, kinds := [], alts := [], laidByText := true, laidKinds := [.data, .data, .data], laidTests := true, laidLooks := .later }
def ReportPartsUptoCardSaid : Prop := Claim7.holds Tryd.pinned (.plain (OpenSpec.upto reportPartsSpec)) reportPartsUptoCard

/-- THE SECOND FORM's CARD OF 'landfalllaw24.ReportForged'. -/
def reportForgedUptoCard : Claim7 := { stood := { row := reportForgedUptoRow, standIns := [], harness := (true, "1c8df7361f5d2c69389bfa4462ad1596fcd45487153869fd2a4e9beed8a32764"), looks := false }, kinds := [], alts := [], laidByText := true, laidKinds := [.data, .data, .data], laidTests := true, laidLooks := .later }
def ReportForgedUptoCardSaid : Prop := Claim7.holds Tryd.pinned (.plain (OpenSpec.upto reportForgedSpec)) reportForgedUptoCard

/-- THE SECOND FORM's CARD OF 'landfalllaw24.ReportLogs'. -/
def reportLogsUptoCard : Claim7 := { stood := { row := reportLogsUptoRow, standIns := [], harness := (true, "1c8df7361f5d2c69389bfa4462ad1596fcd45487153869fd2a4e9beed8a32764"), looks := false }, kinds := [], alts := [], laidByText := true, laidKinds := [.data, .data, .data], laidTests := true, laidLooks := .later }
def ReportLogsUptoCardSaid : Prop := Claim7.holds Tryd.pinned (.plain (OpenSpec.upto reportLogsSpec)) reportLogsUptoCard
end Rows
end Go.Proofs.YtjinhojlnaplaaaDoor
