/-
  DERIVED. GIVEN WITH THE SEED: THE CARDS: each row of YtnbcdaonkdffkaaGreatDoorRows.lean that lists a variable, with what it lists TIED to the program's text (the seventh form; the later family's looks); each row that meets fmt, with fmt's text TOLD by the authors' own Lean function (tested against real Go, not proved from fmt's source: count such statements apart). THE CARD IS WHAT COUNTS. Prove the row's statement (the work); the ties are given (YtnbcdaonkdffkaaGreatDoorTie.lean); close each card by the builder's one call (the guide's Derived/Test/ToyasCard.lean, 'card_holds'). Laid BY PROGRAM, IN A SANDBOX (cutbox-door.mjs). By AI agents, Wed Nov 11 2026. No macro, syntax, notation, axiom, sorry.
-/
import Derived.Test.YtnbcdaonkdffkaaGreatDoorRows
import GoSem.ClaimSeven
namespace Go.Proofs.YtnbcdaonkdffkaaGreatDoor
namespace Rows

/-- THE TIED CARD OF 'landfalllaw15.ChartMatchesReference'. -/
def chartMatchesReferenceCard : Claim7 := { stood := { row := chartMatchesReferenceRow, standIns := [], harness := (true, "407de737b1c6989d6706250c173d5ba240246cc686d8e72b93b118870edfddaf"), looks := false }, kinds := [], alts := [], laidByText := true, laidKinds := [.data, .data, .data], laidTests := true, laidLooks := .later }
def ChartMatchesReferenceCardSaid : Prop := Claim7.holds Tryz.pinned (.plain (OpenSpec.ofChange chartMatchesReferenceSpec)) chartMatchesReferenceCard

/-- THE TIED CARD OF 'landfalllaw29.EditionMatchesReference'. -/
def editionMatchesReferenceCard : Claim7 := { stood := { row := editionMatchesReferenceRow, standIns := [], harness := (true, "407de737b1c6989d6706250c173d5ba240246cc686d8e72b93b118870edfddaf"), looks := false }, kinds := [], alts := [], laidByText := true, laidKinds := [.data, .data, .data], laidTests := true, laidLooks := .later }
def EditionMatchesReferenceCardSaid : Prop := Claim7.holds Tryz.pinned (.plain (OpenSpec.ofChange editionMatchesReferenceSpec)) editionMatchesReferenceCard

/-- THE TIED CARD OF 'landfalllaw29.EditionMakes'. -/
def editionMakesCard : Claim7 := { stood := { row := editionMakesRow, standIns := [], harness := (true, "407de737b1c6989d6706250c173d5ba240246cc686d8e72b93b118870edfddaf"), looks := false }, kinds := [], alts := [], laidByText := true, laidKinds := [.data, .data, .data], laidTests := true, laidLooks := .later }
def EditionMakesCardSaid : Prop := Claim7.holds Tryz.pinned (.plain (OpenSpec.ofChange editionMakesSpec)) editionMakesCard

/-- THE TIED CARD OF 'landfalllaw29.EditionRight'. -/
def editionRightCard : Claim7 := { stood := { row := editionRightRow, standIns := [], harness := (true, "407de737b1c6989d6706250c173d5ba240246cc686d8e72b93b118870edfddaf"), looks := false }, kinds := [], alts := [], laidByText := true, laidKinds := [.data, .data, .data], laidTests := true, laidLooks := .later }
def EditionRightCardSaid : Prop := Claim7.holds Tryz.pinned (.plain (OpenSpec.ofChange editionRightSpec)) editionRightCard

/-- THE TIED CARD OF 'landfalllaw29.EditionChanged'. -/
def editionChangedCard : Claim7 := { stood := { row := editionChangedRow, standIns := [], harness := (true, "407de737b1c6989d6706250c173d5ba240246cc686d8e72b93b118870edfddaf"), looks := false }, kinds := [], alts := [], laidByText := true, laidKinds := [.data, .data, .data], laidTests := true, laidLooks := .later }
def EditionChangedCardSaid : Prop := Claim7.holds Tryz.pinned (.plain (OpenSpec.ofChange editionChangedSpec)) editionChangedCard

/-- THE TIED CARD OF 'landfalllaw29.EditionOnce'. -/
def editionOnceCard : Claim7 := { stood := { row := editionOnceRow, standIns := [], harness := (true, "407de737b1c6989d6706250c173d5ba240246cc686d8e72b93b118870edfddaf"), looks := false }, kinds := [], alts := [], laidByText := true, laidKinds := [.data, .data, .data], laidTests := true, laidLooks := .later }
def EditionOnceCardSaid : Prop := Claim7.holds Tryz.pinned (.plain (OpenSpec.ofChange editionOnceSpec)) editionOnceCard

/-- THE TIED CARD OF 'landfalllaw29.EditionSeveral'. -/
def editionSeveralCard : Claim7 := { stood := { row := editionSeveralRow, standIns := [], harness := (true, "407de737b1c6989d6706250c173d5ba240246cc686d8e72b93b118870edfddaf"), looks := false }, kinds := [], alts := [], laidByText := true, laidKinds := [.data, .data, .data], laidTests := true, laidLooks := .later }
def EditionSeveralCardSaid : Prop := Claim7.holds Tryz.pinned (.plain (OpenSpec.ofChange editionSeveralSpec)) editionSeveralCard

/-- THE TIED CARD OF 'landfalllaw29.EditionKeeps'. -/
def editionKeepsCard : Claim7 := { stood := { row := editionKeepsRow, standIns := [], harness := (true, "407de737b1c6989d6706250c173d5ba240246cc686d8e72b93b118870edfddaf"), looks := false }, kinds := [], alts := [], laidByText := true, laidKinds := [.data, .data, .data], laidTests := true, laidLooks := .later }
def EditionKeepsCardSaid : Prop := Claim7.holds Tryz.pinned (.plain (OpenSpec.ofChange editionKeepsSpec)) editionKeepsCard

/-- THE SECOND FORM's CARD OF 'landfalllaw15.ChartMatchesReference'. -/
def chartMatchesReferenceUptoCard : Claim7 := { stood := { row := chartMatchesReferenceUptoRow, standIns := [], harness := (true, "407de737b1c6989d6706250c173d5ba240246cc686d8e72b93b118870edfddaf"), looks := false }, kinds := [], alts := [], laidByText := true, laidKinds := [.data, .data, .data], laidTests := true, laidLooks := .later }
def ChartMatchesReferenceUptoCardSaid : Prop := Claim7.holds Tryz.pinned (.plain (OpenSpec.upto chartMatchesReferenceSpec)) chartMatchesReferenceUptoCard

/-- THE SECOND FORM's CARD OF 'landfalllaw29.EditionMatchesReference'. -/
def editionMatchesReferenceUptoCard : Claim7 := { stood := { row := editionMatchesReferenceUptoRow, standIns := [], harness := (true, "407de737b1c6989d6706250c173d5ba240246cc686d8e72b93b118870edfddaf"), looks := false }, kinds := [], alts := [], laidByText := true, laidKinds := [.data, .data, .data], laidTests := true, laidLooks := .later }
def EditionMatchesReferenceUptoCardSaid : Prop := Claim7.holds Tryz.pinned (.plain (OpenSpec.upto editionMatchesReferenceSpec)) editionMatchesReferenceUptoCard

/-- THE SECOND FORM's CARD OF 'landfalllaw29.EditionMakes'. -/
def editionMakesUptoCard : Claim7 := { stood := { row := editionMakesUptoRow, standIns := [], harness := (true, "407de737b1c6989d6706250c173d5ba240246cc686d8e72b93b118870edfddaf"), looks := false }, kinds := [], alts := [], laidByText := true, laidKinds := [.data, .data, .data], laidTests := true, laidLooks := .later }
def EditionMakesUptoCardSaid : Prop := Claim7.holds Tryz.pinned (.plain (OpenSpec.upto editionMakesSpec)) editionMakesUptoCard

/-- THE SECOND FORM's CARD OF 'landfalllaw29.EditionRight'. -/
def editionRightUptoCard : Claim7 := { stood := { row := editionRightUptoRow, standIns := [], harness := (true, "407de737b1c6989d6706250c173d5ba240246cc686d8e72b93b118870edfddaf"), looks := false }, kinds := [], alts := [], laidByText := true, laidKinds := [.data, .data, .data], laidTests := true, laidLooks := .later }
def EditionRightUptoCardSaid : Prop := Claim7.holds Tryz.pinned (.plain (OpenSpec.upto editionRightSpec)) editionRightUptoCard

/-- THE SECOND FORM's CARD OF 'landfalllaw29.EditionChanged'. -/
def editionChangedUptoCard : Claim7 := { stood := { row := editionChangedUptoRow, standIns := [], harness := (true, "407de737b1c6989d6706250c173d5ba240246cc686d8e72b93b118870edfddaf"), looks := false }, kinds := [], alts := [], laidByText := true, laidKinds := [.data, .data, .data], laidTests := true, laidLooks := .later }
def EditionChangedUptoCardSaid : Prop := Claim7.holds Tryz.pinned (.plain (OpenSpec.upto editionChangedSpec)) editionChangedUptoCard

/-- THE SECOND FORM's CARD OF 'landfalllaw29.EditionOnce'. -/
def editionOnceUptoCard : Claim7 := { stood := { row := editionOnceUptoRow, standIns := [], harness := (true, "407de737b1c6989d6706250c173d5ba240246cc686d8e72b93b118870edfddaf"), looks := false }, kinds := [], alts := [], laidByText := true, laidKinds := [.data, .data, .data], laidTests := true, laidLooks := .later }
def EditionOnceUptoCardSaid : Prop := Claim7.holds Tryz.pinned (.plain (OpenSpec.upto editionOnceSpec)) editionOnceUptoCard

/-- THE SECOND FORM's CARD OF 'landfalllaw29.EditionSeveral'. -/
def editionSeveralUptoCard : Claim7 := { stood := { row := editionSeveralUptoRow, standIns := [], harness := (true, "407de737b1c6989d6706250c173d5ba240246cc686d8e72b93b118870edfddaf"), looks := false }, kinds := [], alts := [], laidByText := true, laidKinds := [.data, .data, .data], laidTests := true, laidLooks := .later }
def EditionSeveralUptoCardSaid : Prop := Claim7.holds Tryz.pinned (.plain (OpenSpec.upto editionSeveralSpec)) editionSeveralUptoCard

/-- THE SECOND FORM's CARD OF 'landfalllaw29.EditionKeeps'. -/
def editionKeepsUptoCard : Claim7 := { stood := { row := editionKeepsUptoRow, standIns := [], harness := (true, "407de737b1c6989d6706250c173d5ba240246cc686d8e72b93b118870edfddaf"), looks := false }, kinds := [], alts := [], laidByText := true, laidKinds := [.data, .data, .data], laidTests := true, laidLooks := .later }
def EditionKeepsUptoCardSaid : Prop := Claim7.holds Tryz.pinned (.plain (OpenSpec.upto editionKeepsSpec)) editionKeepsUptoCard
end Rows
end Go.Proofs.YtnbcdaonkdffkaaGreatDoor
