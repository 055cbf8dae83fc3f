/-
  DERIVED. GIVEN WITH THE SEED: THE CARDS: each row of YtdfpdfahcbflpabDoorRows.lean that lists a variable, with what it lists TIED to the program's text (the seventh form; the later family's looks); each row that meets fmt, with fmt's text TOLD by the authors' own Lean function (tested against real Go, not proved from fmt's source: count such statements apart). THE CARD IS WHAT COUNTS. Prove the row's statement (the work); the ties are given (YtdfpdfahcbflpabDoorTie.lean); close each card by the builder's one call (the guide's Derived/Test/ToyasCard.lean, 'card_holds'). Laid BY PROGRAM, IN A SANDBOX (cutbox-door.mjs). By AI agents, Wed Nov 11 2026. No macro, syntax, notation, axiom, sorry.
-/
import Derived.Test.YtdfpdfahcbflpabDoorRows
import GoSem.ClaimSeven
namespace Go.Proofs.YtdfpdfahcbflpabDoor
namespace Rows

/-- THE TIED CARD OF 'landfalllaw15.ChartNames'. -/
def chartNamesCard : Claim7 := { stood := { row := chartNamesRow, standIns := [], harness := (true, "f9b01025c84ce039343413c9c6cd07c18834299f00cdb532ab710745fb824907"), looks := false }, kinds := [], alts := [], laidByText := true, laidKinds := [.data, .data, .data], laidTests := true, laidLooks := .later }
def ChartNamesCardSaid : Prop := Claim7.holds Tryd.pinned (.plain (OpenSpec.ofChange chartNamesSpec)) chartNamesCard

/-- THE TIED CARD OF 'landfalllaw15.ChartDigests'. -/
def chartDigestsCard : Claim7 := { stood := { row := chartDigestsRow, standIns := [], harness := (true, "f9b01025c84ce039343413c9c6cd07c18834299f00cdb532ab710745fb824907"), looks := false }, kinds := [], alts := [], laidByText := true, laidKinds := [.data, .data, .data], laidTests := true, laidLooks := .later }
def ChartDigestsCardSaid : Prop := Claim7.holds Tryd.pinned (.plain (OpenSpec.ofChange chartDigestsSpec)) chartDigestsCard

/-- THE TIED CARD OF 'landfalllaw15.ChartMoves'. -/
def chartMovesCard : Claim7 := { stood := { row := chartMovesRow, standIns := [], harness := (true, "f9b01025c84ce039343413c9c6cd07c18834299f00cdb532ab710745fb824907"), looks := false }, kinds := [], alts := [], laidByText := true, laidKinds := [.data, .data, .data], laidTests := true, laidLooks := .later }
def ChartMovesCardSaid : Prop := Claim7.holds Tryd.pinned (.plain (OpenSpec.ofChange chartMovesSpec)) chartMovesCard

/-- THE SECOND FORM's CARD OF 'landfalllaw15.ChartNames'. -/
def chartNamesUptoCard : Claim7 := { stood := { row := chartNamesUptoRow, standIns := [], harness := (true, "f9b01025c84ce039343413c9c6cd07c18834299f00cdb532ab710745fb824907"), looks := false }, kinds := [], alts := [], laidByText := true, laidKinds := [.data, .data, .data], laidTests := true, laidLooks := .later }
def ChartNamesUptoCardSaid : Prop := Claim7.holds Tryd.pinned (.plain (OpenSpec.upto chartNamesSpec)) chartNamesUptoCard

/-- THE SECOND FORM's CARD OF 'landfalllaw15.ChartDigests'. -/
def chartDigestsUptoCard : Claim7 := { stood := { row := chartDigestsUptoRow, standIns := [], harness := (true, "f9b01025c84ce039343413c9c6cd07c18834299f00cdb532ab710745fb824907"), looks := false }, kinds := [], alts := [], laidByText := true, laidKinds := [.data, .data, .data], laidTests := true, laidLooks := .later }
def ChartDigestsUptoCardSaid : Prop := Claim7.holds Tryd.pinned (.plain (OpenSpec.upto chartDigestsSpec)) chartDigestsUptoCard

/-- THE SECOND FORM's CARD OF 'landfalllaw15.ChartMoves'. -/
def chartMovesUptoCard : Claim7 := { stood := { row := chartMovesUptoRow, standIns := [], harness := (true, "f9b01025c84ce039343413c9c6cd07c18834299f00cdb532ab710745fb824907"), looks := false }, kinds := [], alts := [], laidByText := true, laidKinds := [.data, .data, .data], laidTests := true, laidLooks := .later }
def ChartMovesUptoCardSaid : Prop := Claim7.holds Tryd.pinned (.plain (OpenSpec.upto chartMovesSpec)) chartMovesUptoCard
end Rows
end Go.Proofs.YtdfpdfahcbflpabDoor
