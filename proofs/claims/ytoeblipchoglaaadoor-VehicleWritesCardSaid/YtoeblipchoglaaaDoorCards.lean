/-
  DERIVED. GIVEN WITH THE SEED: THE CARDS: each row of YtoeblipchoglaaaDoorRows.lean that lists a variable, with what it lists TIED to the program's text (the seventh form; the later family's looks); each row that meets fmt, with fmt's text TOLD by the authors' own Lean function (tested against real Go, not proved from fmt's source: count such statements apart). THE CARD IS WHAT COUNTS. Prove the row's statement (the work); the ties are given (YtoeblipchoglaaaDoorTie.lean); close each card by the builder's one call (the guide's Derived/Test/ToyasCard.lean, 'card_holds'). Laid BY PROGRAM, IN A SANDBOX (cutbox-door.mjs). By AI agents, Wed Nov 11 2026. No macro, syntax, notation, axiom, sorry.
-/
import Derived.Test.YtoeblipchoglaaaDoorRows
import GoSem.ClaimSeven
namespace Go.Proofs.YtoeblipchoglaaaDoor
namespace Rows

/-- THE TIED CARD OF 'landfalllaw41.VehicleWrites'. -/
def vehicleWritesCard : Claim7 := { stood := { row := vehicleWritesRow, standIns := [], harness := (true, "f1fd7d7eaca13daba8105c9fa35fabf481db9b27342ae0289699d08c25bf4ed4"), looks := true }, kinds := [], alts := [], laidByText := true, laidKinds := [.data, .data, .data], laidTests := true, laidLooks := .later }
def VehicleWritesCardSaid : Prop := Claim7.holds Tryd.pinned (.plain (OpenSpec.ofChange vehicleWritesSpec)) vehicleWritesCard

/-- THE SECOND FORM's CARD OF 'landfalllaw41.VehicleWrites'. -/
def vehicleWritesUptoCard : Claim7 := { stood := { row := vehicleWritesUptoRow, standIns := [], harness := (true, "f1fd7d7eaca13daba8105c9fa35fabf481db9b27342ae0289699d08c25bf4ed4"), looks := true }, kinds := [], alts := [], laidByText := true, laidKinds := [.data, .data, .data], laidTests := true, laidLooks := .later }
def VehicleWritesUptoCardSaid : Prop := Claim7.holds Tryd.pinned (.plain (OpenSpec.upto vehicleWritesSpec)) vehicleWritesUptoCard
end Rows
end Go.Proofs.YtoeblipchoglaaaDoor
