/-
  DERIVED. GIVEN WITH THE SEED: THE CARDS: each row of YtdfpdfahcbflpaaDoorRows.lean that lists a variable, with what it lists TIED to the program's text (the seventh form; the later family's looks); each row that meets fmt, with fmt's text TOLD by the authors' own Lean function (tested against real Go, not proved from fmt's source: count such statements apart). THE CARD IS WHAT COUNTS. Prove the row's statement (the work); the ties are given (YtdfpdfahcbflpaaDoorTie.lean); close each card by the builder's one call (the guide's Derived/Test/ToyasCard.lean, 'card_holds'). Laid BY PROGRAM, IN A SANDBOX (cutbox-door.mjs). By AI agents, Wed Nov 11 2026. No macro, syntax, notation, axiom, sorry.
-/
import Derived.Test.YtdfpdfahcbflpaaDoorRows
import GoSem.ClaimSeven
namespace Go.Proofs.YtdfpdfahcbflpaaDoor
namespace Rows

/-- THE TIED CARD OF 'landfalllaw15.ChartSquares'. -/
def chartSquaresCard : Claim7 := { stood := { row := chartSquaresRow, standIns := [], harness := (true, "5bbbaf94e78c12ef0c63cb8eb90e06684fc42639469234ec952956c3f2a7307e"), looks := false }, kinds := [], alts := [], laidByText := true, laidKinds := [.data, .data, .data], laidTests := true, laidLooks := .later }
def ChartSquaresCardSaid : Prop := Claim7.holds Tryd.pinned (.plain (OpenSpec.ofChange chartSquaresSpec)) chartSquaresCard

/-- THE TIED CARD OF 'landfalllaw15.ChartTouches'. -/
def chartTouchesCard : Claim7 := { stood := { row := chartTouchesRow, standIns := [], harness := (true, "5bbbaf94e78c12ef0c63cb8eb90e06684fc42639469234ec952956c3f2a7307e"), looks := false }, kinds := [], alts := [], laidByText := true, laidKinds := [.data, .data, .data], laidTests := true, laidLooks := .later }
def ChartTouchesCardSaid : Prop := Claim7.holds Tryd.pinned (.plain (OpenSpec.ofChange chartTouchesSpec)) chartTouchesCard

/-- THE TIED CARD OF 'landfalllaw15.ChartMore'. -/
def chartMoreCard : Claim7 := { stood := { row := chartMoreRow, standIns := [], harness := (true, "5bbbaf94e78c12ef0c63cb8eb90e06684fc42639469234ec952956c3f2a7307e"), looks := false }, kinds := [], alts := [], laidByText := true, laidKinds := [.data, .data, .data], laidTests := true, laidLooks := .later }
def ChartMoreCardSaid : Prop := Claim7.holds Tryd.pinned (.plain (OpenSpec.ofChange chartMoreSpec)) chartMoreCard

/-- THE SECOND FORM's CARD OF 'landfalllaw15.ChartSquares'. -/
def chartSquaresUptoCard : Claim7 := { stood := { row := chartSquaresUptoRow, standIns := [], harness := (true, "5bbbaf94e78c12ef0c63cb8eb90e06684fc42639469234ec952956c3f2a7307e"), looks := false }, kinds := [], alts := [], laidByText := true, laidKinds := [.data, .data, .data], laidTests := true, laidLooks := .later }
def ChartSquaresUptoCardSaid : Prop := Claim7.holds Tryd.pinned (.plain (OpenSpec.upto chartSquaresSpec)) chartSquaresUptoCard

/-- THE SECOND FORM's CARD OF 'landfalllaw15.ChartTouches'. -/
def chartTouchesUptoCard : Claim7 := { stood := { row := chartTouchesUptoRow, standIns := [], harness := (true, "5bbbaf94e78c12ef0c63cb8eb90e06684fc42639469234ec952956c3f2a7307e"), looks := false }, kinds := [], alts := [], laidByText := true, laidKinds := [.data, .data, .data], laidTests := true, laidLooks := .later }
def ChartTouchesUptoCardSaid : Prop := Claim7.holds Tryd.pinned (.plain (OpenSpec.upto chartTouchesSpec)) chartTouchesUptoCard

/-- THE SECOND FORM's CARD OF 'landfalllaw15.ChartMore'. -/
def chartMoreUptoCard : Claim7 := { stood := { row := chartMoreUptoRow, standIns := [], harness := (true, "5bbbaf94e78c12ef0c63cb8eb90e06684fc42639469234ec952956c3f2a7307e"), looks := false }, kinds := [], alts := [], laidByText := true, laidKinds := [.data, .data, .data], laidTests := true, laidLooks := .later }
def ChartMoreUptoCardSaid : Prop := Claim7.holds Tryd.pinned (.plain (OpenSpec.upto chartMoreSpec)) chartMoreUptoCard
end Rows
end Go.Proofs.YtdfpdfahcbflpaaDoor
