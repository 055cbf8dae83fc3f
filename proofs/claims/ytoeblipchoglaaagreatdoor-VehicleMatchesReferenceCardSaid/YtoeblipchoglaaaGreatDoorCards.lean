/-
  DERIVED. GIVEN WITH THE SEED: THE CARDS: each row of YtoeblipchoglaaaGreatDoorRows.lean that lists a variable, with what it lists TIED to the program's text (the seventh form; the later family's looks); each row that meets fmt, with fmt's text TOLD by the authors' own Lean function (tested against real Go, not proved from fmt's source: count such statements apart). THE CARD IS WHAT COUNTS. Prove the row's statement (the work); the ties are given (YtoeblipchoglaaaGreatDoorTie.lean); close each card by the builder's one call (the guide's Derived/Test/ToyasCard.lean, 'card_holds'). Laid BY PROGRAM, IN A SANDBOX (cutbox-door.mjs). By AI agents, Wed Nov 11 2026. No macro, syntax, notation, axiom, sorry.
-/
import Derived.Test.YtoeblipchoglaaaGreatDoorRows
import GoSem.ClaimSeven
namespace Go.Proofs.YtoeblipchoglaaaGreatDoor
namespace Rows

/-- THE TIED CARD OF 'landfalllaw41.VehicleMarks'. -/
def vehicleMarksCard : Claim7 := { stood := { row := vehicleMarksRow, standIns := [], harness := (true, "25a5ac13240f9737e8624bd73b991a2741e0df01b95eaf34b3ccd70b54bfb27f"), looks := true }, kinds := [], alts := [], laidByText := true, laidKinds := [.data, .data, .data], laidTests := true, laidLooks := .later }
def VehicleMarksCardSaid : Prop := Claim7.holds Tryz.pinned (.plain (OpenSpec.ofChange vehicleMarksSpec)) vehicleMarksCard

/-- THE TIED CARD OF 'landfalllaw41.VehicleStates'. -/
def vehicleStatesCard : Claim7 := { stood := { row := vehicleStatesRow, standIns := [], harness := (true, "25a5ac13240f9737e8624bd73b991a2741e0df01b95eaf34b3ccd70b54bfb27f"), looks := true }, kinds := [], alts := [], laidByText := true, laidKinds := [.data, .data, .data], laidTests := true, laidLooks := .later }
def VehicleStatesCardSaid : Prop := Claim7.holds Tryz.pinned (.plain (OpenSpec.ofChange vehicleStatesSpec)) vehicleStatesCard

/-- THE TIED CARD OF 'landfalllaw41.VehicleMatchesReference'. -/
def vehicleMatchesReferenceCard : Claim7 := { stood := { row := vehicleMatchesReferenceRow, standIns := [], harness := (true, "25a5ac13240f9737e8624bd73b991a2741e0df01b95eaf34b3ccd70b54bfb27f"), looks := true }, kinds := [], alts := [], laidByText := true, laidKinds := [.data, .data, .data], laidTests := true, laidLooks := .later }
def VehicleMatchesReferenceCardSaid : Prop := Claim7.holds Tryz.pinned (.plain (OpenSpec.ofChange vehicleMatchesReferenceSpec)) vehicleMatchesReferenceCard

/-- THE SECOND FORM's CARD OF 'landfalllaw41.VehicleMarks'. -/
def vehicleMarksUptoCard : Claim7 := { stood := { row := vehicleMarksUptoRow, standIns := [], harness := (true, "25a5ac13240f9737e8624bd73b991a2741e0df01b95eaf34b3ccd70b54bfb27f"), looks := true }, kinds := [], alts := [], laidByText := true, laidKinds := [.data, .data, .data], laidTests := true, laidLooks := .later }
def VehicleMarksUptoCardSaid : Prop := Claim7.holds Tryz.pinned (.plain (OpenSpec.upto vehicleMarksSpec)) vehicleMarksUptoCard

/-- THE SECOND FORM's CARD OF 'landfalllaw41.VehicleStates'. -/
def vehicleStatesUptoCard : Claim7 := { stood := { row := vehicleStatesUptoRow, standIns := [], harness := (true, "25a5ac13240f9737e8624bd73b991a2741e0df01b95eaf34b3ccd70b54bfb27f"), looks := true }, kinds := [], alts := [], laidByText := true, laidKinds := [.data, .data, .data], laidTests := true, laidLooks := .later }
def VehicleStatesUptoCardSaid : Prop := Claim7.holds Tryz.pinned (.plain (OpenSpec.upto vehicleStatesSpec)) vehicleStatesUptoCard

/-- THE SECOND FORM's CARD OF 'landfalllaw41.VehicleMatchesReference'. -/
def vehicleMatchesReferenceUptoCard : Claim7 := { stood := { row := vehicleMatchesReferenceUptoRow, standIns := [], harness := (true, "25a5ac13240f9737e8624bd73b991a2741e0df01b95eaf34b3ccd70b54bfb27f"), looks := true }, kinds := [], alts := [], laidByText := true, laidKinds := [.data, .data, .data], laidTests := true, laidLooks := .later }
def VehicleMatchesReferenceUptoCardSaid : Prop := Claim7.holds Tryz.pinned (.plain (OpenSpec.upto vehicleMatchesReferenceSpec)) vehicleMatchesReferenceUptoCard
end Rows
end Go.Proofs.YtoeblipchoglaaaGreatDoor
