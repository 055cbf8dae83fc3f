/-
  DERIVED. GIVEN WITH THE SEED: THE CARDS: each row of YtohmledhhgdgaaaGreatDoorRows.lean that lists a variable, with what it lists TIED to the program's text (the seventh form; the later family's looks); each row that meets fmt, with fmt's text TOLD by the authors' own Lean function (tested against real Go, not proved from fmt's source: count such statements apart). THE CARD IS WHAT COUNTS. Prove the row's statement (the work); the ties are given (YtohmledhhgdgaaaGreatDoorTie.lean); close each card by the builder's one call (the guide's Derived/Test/ToyasCard.lean, 'card_holds'). Laid BY PROGRAM, IN A SANDBOX (cutbox-door.mjs). By AI agents, Wed Nov 11 2026. No macro, syntax, notation, axiom, sorry.
-/
import Derived.Test.YtohmledhhgdgaaaGreatDoorRows
import GoSem.ClaimSeven
namespace Go.Proofs.YtohmledhhgdgaaaGreatDoor
namespace Rows

/-- THE TIED CARD OF 'landfalllaw26.MeshMatchesReference'. -/
def meshMatchesReferenceCard : Claim7 := { stood := { row := meshMatchesReferenceRow, standIns := [], harness := (true, "f9a936fe4da37df7244e2f34a8555a22abca39f96bcd5882d0d7959d5bcc36c8"), looks := false }, kinds := [], alts := [], laidByText := true, laidKinds := [.data, .data, .data], laidTests := true, laidLooks := .later }
def MeshMatchesReferenceCardSaid : Prop := Claim7.holds Tryz.pinned (.plain (OpenSpec.ofChange meshMatchesReferenceSpec)) meshMatchesReferenceCard

/-- THE TIED CARD OF 'landfalllaw26.MeshAdds'. -/
def meshAddsCard : Claim7 := { stood := { row := meshAddsRow, standIns := [], harness := (true, "f9a936fe4da37df7244e2f34a8555a22abca39f96bcd5882d0d7959d5bcc36c8"), looks := false }, kinds := [], alts := [], laidByText := true, laidKinds := [.data, .data, .data], laidTests := true, laidLooks := .later }
def MeshAddsCardSaid : Prop := Claim7.holds Tryz.pinned (.plain (OpenSpec.ofChange meshAddsSpec)) meshAddsCard

/-- THE TIED CARD OF 'landfalllaw26.MeshOrder'. -/
def meshOrderCard : Claim7 := { stood := { row := meshOrderRow, standIns := [], harness := (true, "f9a936fe4da37df7244e2f34a8555a22abca39f96bcd5882d0d7959d5bcc36c8"), looks := false }, kinds := [], alts := [], laidByText := true, laidKinds := [.data, .data, .data], laidTests := true, laidLooks := .later }
def MeshOrderCardSaid : Prop := Claim7.holds Tryz.pinned (.plain (OpenSpec.ofChange meshOrderSpec)) meshOrderCard

/-- THE TIED CARD OF 'landfalllaw26.MeshMerges'. -/
def meshMergesCard : Claim7 := { stood := { row := meshMergesRow, standIns := [], harness := (true, "f9a936fe4da37df7244e2f34a8555a22abca39f96bcd5882d0d7959d5bcc36c8"), looks := false }, kinds := [], alts := [], laidByText := true, laidKinds := [.data, .data, .data], laidTests := true, laidLooks := .later }
def MeshMergesCardSaid : Prop := Claim7.holds Tryz.pinned (.plain (OpenSpec.ofChange meshMergesSpec)) meshMergesCard

/-- THE TIED CARD OF 'landfalllaw26.MeshKnows'. -/
def meshKnowsCard : Claim7 := { stood := { row := meshKnowsRow, standIns := [], harness := (true, "f9a936fe4da37df7244e2f34a8555a22abca39f96bcd5882d0d7959d5bcc36c8"), looks := false }, kinds := [], alts := [], laidByText := true, laidKinds := [.data, .data, .data], laidTests := true, laidLooks := .later }
def MeshKnowsCardSaid : Prop := Claim7.holds Tryz.pinned (.plain (OpenSpec.ofChange meshKnowsSpec)) meshKnowsCard

/-- THE TIED CARD OF 'landfalllaw26.MeshOthers'. -/
def meshOthersCard : Claim7 := { stood := { row := meshOthersRow, standIns := [], harness := (true, "f9a936fe4da37df7244e2f34a8555a22abca39f96bcd5882d0d7959d5bcc36c8"), looks := false }, kinds := [], alts := [], laidByText := true, laidKinds := [.data, .data, .data], laidTests := true, laidLooks := .later }
def MeshOthersCardSaid : Prop := Claim7.holds Tryz.pinned (.plain (OpenSpec.ofChange meshOthersSpec)) meshOthersCard

/-- THE SECOND FORM's CARD OF 'landfalllaw26.MeshMatchesReference'. -/
def meshMatchesReferenceUptoCard : Claim7 := { stood := { row := meshMatchesReferenceUptoRow, standIns := [], harness := (true, "f9a936fe4da37df7244e2f34a8555a22abca39f96bcd5882d0d7959d5bcc36c8"), looks := false }, kinds := [], alts := [], laidByText := true, laidKinds := [.data, .data, .data], laidTests := true, laidLooks := .later }
def MeshMatchesReferenceUptoCardSaid : Prop := Claim7.holds Tryz.pinned (.plain (OpenSpec.upto meshMatchesReferenceSpec)) meshMatchesReferenceUptoCard

/-- THE SECOND FORM's CARD OF 'landfalllaw26.MeshAdds'. -/
def meshAddsUptoCard : Claim7 := { stood := { row := meshAddsUptoRow, standIns := [], harness := (true, "f9a936fe4da37df7244e2f34a8555a22abca39f96bcd5882d0d7959d5bcc36c8"), looks := false }, kinds := [], alts := [], laidByText := true, laidKinds := [.data, .data, .data], laidTests := true, laidLooks := .later }
def MeshAddsUptoCardSaid : Prop := Claim7.holds Tryz.pinned (.plain (OpenSpec.upto meshAddsSpec)) meshAddsUptoCard

/-- THE SECOND FORM's CARD OF 'landfalllaw26.MeshOrder'. -/
def meshOrderUptoCard : Claim7 := { stood := { row := meshOrderUptoRow, standIns := [], harness := (true, "f9a936fe4da37df7244e2f34a8555a22abca39f96bcd5882d0d7959d5bcc36c8"), looks := false }, kinds := [], alts := [], laidByText := true, laidKinds := [.data, .data, .data], laidTests := true, laidLooks := .later }
def MeshOrderUptoCardSaid : Prop := Claim7.holds Tryz.pinned (.plain (OpenSpec.upto meshOrderSpec)) meshOrderUptoCard

/-- THE SECOND FORM's CARD OF 'landfalllaw26.MeshMerges'. -/
def meshMergesUptoCard : Claim7 := { stood := { row := meshMergesUptoRow, standIns := [], harness := (true, "f9a936fe4da37df7244e2f34a8555a22abca39f96bcd5882d0d7959d5bcc36c8"), looks := false }, kinds := [], alts := [], laidByText := true, laidKinds := [.data, .data, .data], laidTests := true, laidLooks := .later }
def MeshMergesUptoCardSaid : Prop := Claim7.holds Tryz.pinned (.plain (OpenSpec.upto meshMergesSpec)) meshMergesUptoCard

/-- THE SECOND FORM's CARD OF 'landfalllaw26.MeshKnows'. -/
def meshKnowsUptoCard : Claim7 := { stood := { row := meshKnowsUptoRow, standIns := [], harness := (true, "f9a936fe4da37df7244e2f34a8555a22abca39f96bcd5882d0d7959d5bcc36c8"), looks := false }, kinds := [], alts := [], laidByText := true, laidKinds := [.data, .data, .data], laidTests := true, laidLooks := .later }
def MeshKnowsUptoCardSaid : Prop := Claim7.holds Tryz.pinned (.plain (OpenSpec.upto meshKnowsSpec)) meshKnowsUptoCard

/-- THE SECOND FORM's CARD OF 'landfalllaw26.MeshOthers'. -/
def meshOthersUptoCard : Claim7 := { stood := { row := meshOthersUptoRow, standIns := [], harness := (true, "f9a936fe4da37df7244e2f34a8555a22abca39f96bcd5882d0d7959d5bcc36c8"), looks := false }, kinds := [], alts := [], laidByText := true, laidKinds := [.data, .data, .data], laidTests := true, laidLooks := .later }
def MeshOthersUptoCardSaid : Prop := Claim7.holds Tryz.pinned (.plain (OpenSpec.upto meshOthersSpec)) meshOthersUptoCard
end Rows
end Go.Proofs.YtohmledhhgdgaaaGreatDoor
