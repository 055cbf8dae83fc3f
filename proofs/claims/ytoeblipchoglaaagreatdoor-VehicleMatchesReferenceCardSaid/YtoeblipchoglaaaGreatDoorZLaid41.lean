/- The listed variables: the table of the powers of ten, and a world for the witness. -/
import Derived.Test.YtoeblipchoglaaaGreatDoorZWrapL
import Derived.Test.YtoeblipchoglaaaGreatDoorZDecA
import Derived.Test.YtoeblipchoglaaaGreatDoorCards
import Derived.Test.YtoeblipchoglaaaGreatDoorTie
import Derived.SevenTiedAt
namespace Go.Proofs.YtoeblipchoglaaaGreatDoor
set_option maxRecDepth 100000
open Sh Go.RowKit
theorem table {W : World} (h : laidMetH Tryz.prog Rows.vehicleMatchesReferenceRow.laid W) : Tab W :=
  tab_of_laid (g := 0) (by kernel_rfl) (t := 186) (by kernel_rfl) (n := 20) (e := 61) (by kernel_rfl) Ty.u64 Ty.u64_cells (by kernel_rfl) (laid := Rows.vehicleMatchesReferenceRow.laid) (.tail _ (.tail _ (by
    have e : Rows.laid_internal_strconv_uint64pow10 (H := Unit) = Go.Lib.tabData .u64 Go.Lib.pow10Tab := by kernel_rfl
    rw [e]; exact .head _))) h
noncomputable def laidWorld (os : Os) : World :=
  fillVars [(1, Rows.laid_math_bits_deBruijn32tab), (2, Rows.laid_math_bits_deBruijn64tab), (0, Rows.laid_internal_strconv_uint64pow10)] (World.holding Tryz.prog os ⟨#[], #[], []⟩)
end Go.Proofs.YtoeblipchoglaaaGreatDoor
