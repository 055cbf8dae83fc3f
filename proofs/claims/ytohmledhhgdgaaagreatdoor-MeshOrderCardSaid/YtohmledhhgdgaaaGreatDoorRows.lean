/-
  NARROWER THAN 'FOR EVERY INPUT', by the rows' own cells (each row's printed sentence says how): MeshMatchesReference: laid · MeshAdds: laid · MeshOrder: laid · MeshMerges: laid · MeshKnows: laid · MeshOthers: laid.
  DERIVED. THE GIVEN ROWS OF THIS SEAT. 6 by the template 'for every input the law returns true; each argument reads behind the call as it read before'; 0 by the template 'total and deterministic' (their statements: YtohmledhhgdgaaaGreatDoorTotals.lean).
  GIVEN WITH THE SEED: the statements are not yours to turn. If you find one false, say at which input.
  Laid BY PROGRAM, IN A SANDBOX (cutbox-rows.mjs): the forced cells as the released guide's own fill.sh prints them over the translation 417ad043226ed31e… (all of the seat's roots in one cut). By AI agents, Wed Nov 11 2026. No macro, syntax, notation, axiom, sorry.
-/
import Derived.Test.YtohmledhhgdgaaaGreatDoorChecked
import GoSem.Claim
import GoSem.ClaimJoined
import GoSem.ClaimMapViews
import Derived.JoinedTies
import Derived.KernelRfl
namespace Go.Proofs.YtohmledhhgdgaaaGreatDoor
/- THE CELL 'sum', in the pinned program and in every row, IS THE sha256 OF THE DUMP (.gsa) THAT YtohmledhhgdgaaaGreatDoorProg.lean LOADS. Nothing in Lean hashes anything: it is a label: what it is worth is what the hold of that sum in a sandbox is worth. -/
noncomputable def Tryz.pinned : Pinned := { name := "ytohmledhhgdgaaagreatdoor", sum := "417ad043226ed31ed9abefbd037672eb3f0df91eba22ddc25ef0573b6bcab02e", checked := Tryz.checked }
namespace Rows
def none {H : Type} : Left H := { results := [], args := [] }

/- WHAT THE LISTED PACKAGE-LEVEL VARIABLES READ AS WHEN THE CALL BEGINS. Each datum BY PROGRAM (the guide's laid-datum.mjs) off the statement by which the dump's own 'gosem.cut.vars' lays the variable. In a bare row this is a premise. The card (YtohmledhhgdgaaaGreatDoorCards.lean) ties it to the program's text. -/
def laid_math_bits_deBruijn32tab {H : Type} : DataW H := .agg [.lit (.int .u8 0), .lit (.int .u8 1), .lit (.int .u8 28), .lit (.int .u8 2), .lit (.int .u8 29), .lit (.int .u8 14), .lit (.int .u8 24), .lit (.int .u8 3), .lit (.int .u8 30), .lit (.int .u8 22), .lit (.int .u8 20), .lit (.int .u8 15), .lit (.int .u8 25), .lit (.int .u8 17), .lit (.int .u8 4), .lit (.int .u8 8), .lit (.int .u8 31), .lit (.int .u8 27), .lit (.int .u8 13), .lit (.int .u8 23), .lit (.int .u8 21), .lit (.int .u8 19), .lit (.int .u8 16), .lit (.int .u8 7), .lit (.int .u8 26), .lit (.int .u8 12), .lit (.int .u8 18), .lit (.int .u8 6), .lit (.int .u8 11), .lit (.int .u8 5), .lit (.int .u8 10), .lit (.int .u8 9)]
def laid_math_bits_deBruijn64tab {H : Type} : DataW H := .agg [.lit (.int .u8 0), .lit (.int .u8 1), .lit (.int .u8 56), .lit (.int .u8 2), .lit (.int .u8 57), .lit (.int .u8 49), .lit (.int .u8 28), .lit (.int .u8 3), .lit (.int .u8 61), .lit (.int .u8 58), .lit (.int .u8 42), .lit (.int .u8 50), .lit (.int .u8 38), .lit (.int .u8 29), .lit (.int .u8 17), .lit (.int .u8 4), .lit (.int .u8 62), .lit (.int .u8 47), .lit (.int .u8 59), .lit (.int .u8 36), .lit (.int .u8 45), .lit (.int .u8 43), .lit (.int .u8 51), .lit (.int .u8 22), .lit (.int .u8 53), .lit (.int .u8 39), .lit (.int .u8 33), .lit (.int .u8 30), .lit (.int .u8 24), .lit (.int .u8 18), .lit (.int .u8 12), .lit (.int .u8 5), .lit (.int .u8 63), .lit (.int .u8 55), .lit (.int .u8 48), .lit (.int .u8 27), .lit (.int .u8 60), .lit (.int .u8 41), .lit (.int .u8 37), .lit (.int .u8 16), .lit (.int .u8 46), .lit (.int .u8 35), .lit (.int .u8 44), .lit (.int .u8 21), .lit (.int .u8 52), .lit (.int .u8 32), .lit (.int .u8 23), .lit (.int .u8 11), .lit (.int .u8 54), .lit (.int .u8 26), .lit (.int .u8 40), .lit (.int .u8 15), .lit (.int .u8 34), .lit (.int .u8 20), .lit (.int .u8 31), .lit (.int .u8 10), .lit (.int .u8 25), .lit (.int .u8 14), .lit (.int .u8 19), .lit (.int .u8 9), .lit (.int .u8 13), .lit (.int .u8 8), .lit (.int .u8 7), .lit (.int .u8 6)]
def laid_internal_strconv_uint64pow10 {H : Type} : DataW H := .agg [.lit (.int .u64 1), .lit (.int .u64 10), .lit (.int .u64 100), .lit (.int .u64 1000), .lit (.int .u64 10000), .lit (.int .u64 100000), .lit (.int .u64 1000000), .lit (.int .u64 10000000), .lit (.int .u64 100000000), .lit (.int .u64 1000000000), .lit (.int .u64 10000000000), .lit (.int .u64 100000000000), .lit (.int .u64 1000000000000), .lit (.int .u64 10000000000000), .lit (.int .u64 100000000000000), .lit (.int .u64 1000000000000000), .lit (.int .u64 10000000000000000), .lit (.int .u64 100000000000000000), .lit (.int .u64 1000000000000000000), .lit (.int .u64 10000000000000000000)]

/-- 'landfalllaw26.MeshMatchesReference': WHATEVER THE INPUT: true; the input reads as it did. -/
def meshMatchesReferenceSpec : ChangeSpec := { name := "meshMatchesReference", fn := fun _ => fun
  | [d1, d2, d3, d4, d5] => { results := [.lit (.bool true)], args := [d1, d2, d3, d4, d5] }
  | _ => none }
def meshMatchesReferenceRow : OpenClaim := { program := "ytohmledhhgdgaaagreatdoor", sum := "417ad043226ed31ed9abefbd037672eb3f0df91eba22ddc25ef0573b6bcab02e", func := "landfall/landfalllaw26.MeshMatchesReference", spec := "meshMatchesReference", inPlace := ["slices.overlaps[landfall/api.Report]"], unfollowed := true, recurses := true, named := ["internal/strconv.uint64pow10", "math/bits.deBruijn32tab", "math/bits.deBruijn64tab"], apart := false, laid := [("math/bits.deBruijn32tab", laid_math_bits_deBruijn32tab), ("math/bits.deBruijn64tab", laid_math_bits_deBruijn64tab), ("internal/strconv.uint64pow10", laid_internal_strconv_uint64pow10)] }
def MeshMatchesReferenceSaid : Prop := meshMatchesReferenceRow.holds Tryz.pinned (OpenSpec.ofChange meshMatchesReferenceSpec)

/-- ITS FALSE NEIGHBOUR: 'it returns false'. Refute it at one input. -/
def meshMatchesReferenceWrong : ChangeSpec := { name := "meshMatchesReference", fn := fun _ => fun
  | [d1, d2, d3, d4, d5] => { results := [.lit (.bool false)], args := [d1, d2, d3, d4, d5] }
  | _ => none }
def MeshMatchesReferenceWrongFalsely : Prop := meshMatchesReferenceRow.holds Tryz.pinned (OpenSpec.ofChange meshMatchesReferenceWrong)

/-- 'landfalllaw26.MeshAdds': WHATEVER THE INPUT: true; the input reads as it did. -/
def meshAddsSpec : ChangeSpec := { name := "meshAdds", fn := fun _ => fun
  | [d1, d2, d3] => { results := [.lit (.bool true)], args := [d1, d2, d3] }
  | _ => none }
def meshAddsRow : OpenClaim := { program := "ytohmledhhgdgaaagreatdoor", sum := "417ad043226ed31ed9abefbd037672eb3f0df91eba22ddc25ef0573b6bcab02e", func := "landfall/landfalllaw26.MeshAdds", spec := "meshAdds", inPlace := ["slices.overlaps[landfall/api.Report]"], unfollowed := true, recurses := true, named := ["internal/strconv.uint64pow10", "math/bits.deBruijn32tab", "math/bits.deBruijn64tab"], apart := false, laid := [("math/bits.deBruijn32tab", laid_math_bits_deBruijn32tab), ("math/bits.deBruijn64tab", laid_math_bits_deBruijn64tab), ("internal/strconv.uint64pow10", laid_internal_strconv_uint64pow10)] }
def MeshAddsSaid : Prop := meshAddsRow.holds Tryz.pinned (OpenSpec.ofChange meshAddsSpec)

/-- ITS FALSE NEIGHBOUR: 'it returns false'. Refute it at one input. -/
def meshAddsWrong : ChangeSpec := { name := "meshAdds", fn := fun _ => fun
  | [d1, d2, d3] => { results := [.lit (.bool false)], args := [d1, d2, d3] }
  | _ => none }
def MeshAddsWrongFalsely : Prop := meshAddsRow.holds Tryz.pinned (OpenSpec.ofChange meshAddsWrong)

/-- 'landfalllaw26.MeshOrder': WHATEVER THE INPUT: true; the input reads as it did. -/
def meshOrderSpec : ChangeSpec := { name := "meshOrder", fn := fun _ => fun
  | [d1, d2, d3] => { results := [.lit (.bool true)], args := [d1, d2, d3] }
  | _ => none }
def meshOrderRow : OpenClaim := { program := "ytohmledhhgdgaaagreatdoor", sum := "417ad043226ed31ed9abefbd037672eb3f0df91eba22ddc25ef0573b6bcab02e", func := "landfall/landfalllaw26.MeshOrder", spec := "meshOrder", inPlace := ["slices.overlaps[landfall/api.Report]"], unfollowed := true, recurses := true, named := ["internal/strconv.uint64pow10", "math/bits.deBruijn32tab", "math/bits.deBruijn64tab"], apart := false, laid := [("math/bits.deBruijn32tab", laid_math_bits_deBruijn32tab), ("math/bits.deBruijn64tab", laid_math_bits_deBruijn64tab), ("internal/strconv.uint64pow10", laid_internal_strconv_uint64pow10)] }
def MeshOrderSaid : Prop := meshOrderRow.holds Tryz.pinned (OpenSpec.ofChange meshOrderSpec)

/-- ITS FALSE NEIGHBOUR: 'it returns false'. Refute it at one input. -/
def meshOrderWrong : ChangeSpec := { name := "meshOrder", fn := fun _ => fun
  | [d1, d2, d3] => { results := [.lit (.bool false)], args := [d1, d2, d3] }
  | _ => none }
def MeshOrderWrongFalsely : Prop := meshOrderRow.holds Tryz.pinned (OpenSpec.ofChange meshOrderWrong)

/-- 'landfalllaw26.MeshMerges': WHATEVER THE INPUT: true; the input reads as it did. -/
def meshMergesSpec : ChangeSpec := { name := "meshMerges", fn := fun _ => fun
  | [d1, d2, d3] => { results := [.lit (.bool true)], args := [d1, d2, d3] }
  | _ => none }
def meshMergesRow : OpenClaim := { program := "ytohmledhhgdgaaagreatdoor", sum := "417ad043226ed31ed9abefbd037672eb3f0df91eba22ddc25ef0573b6bcab02e", func := "landfall/landfalllaw26.MeshMerges", spec := "meshMerges", inPlace := ["slices.overlaps[landfall/api.Report]"], unfollowed := true, recurses := true, named := ["internal/strconv.uint64pow10", "math/bits.deBruijn32tab", "math/bits.deBruijn64tab"], apart := false, laid := [("math/bits.deBruijn32tab", laid_math_bits_deBruijn32tab), ("math/bits.deBruijn64tab", laid_math_bits_deBruijn64tab), ("internal/strconv.uint64pow10", laid_internal_strconv_uint64pow10)] }
def MeshMergesSaid : Prop := meshMergesRow.holds Tryz.pinned (OpenSpec.ofChange meshMergesSpec)

/-- ITS FALSE NEIGHBOUR: 'it returns false'. Refute it at one input. -/
def meshMergesWrong : ChangeSpec := { name := "meshMerges", fn := fun _ => fun
  | [d1, d2, d3] => { results := [.lit (.bool false)], args := [d1, d2, d3] }
  | _ => none }
def MeshMergesWrongFalsely : Prop := meshMergesRow.holds Tryz.pinned (OpenSpec.ofChange meshMergesWrong)

/-- 'landfalllaw26.MeshKnows': WHATEVER THE INPUT: true; the input reads as it did. -/
def meshKnowsSpec : ChangeSpec := { name := "meshKnows", fn := fun _ => fun
  | [d1, d2, d3] => { results := [.lit (.bool true)], args := [d1, d2, d3] }
  | _ => none }
def meshKnowsRow : OpenClaim := { program := "ytohmledhhgdgaaagreatdoor", sum := "417ad043226ed31ed9abefbd037672eb3f0df91eba22ddc25ef0573b6bcab02e", func := "landfall/landfalllaw26.MeshKnows", spec := "meshKnows", inPlace := ["slices.overlaps[landfall/api.Report]"], unfollowed := true, recurses := true, named := ["internal/strconv.uint64pow10", "math/bits.deBruijn32tab", "math/bits.deBruijn64tab"], apart := false, laid := [("math/bits.deBruijn32tab", laid_math_bits_deBruijn32tab), ("math/bits.deBruijn64tab", laid_math_bits_deBruijn64tab), ("internal/strconv.uint64pow10", laid_internal_strconv_uint64pow10)] }
def MeshKnowsSaid : Prop := meshKnowsRow.holds Tryz.pinned (OpenSpec.ofChange meshKnowsSpec)

/-- ITS FALSE NEIGHBOUR: 'it returns false'. Refute it at one input. -/
def meshKnowsWrong : ChangeSpec := { name := "meshKnows", fn := fun _ => fun
  | [d1, d2, d3] => { results := [.lit (.bool false)], args := [d1, d2, d3] }
  | _ => none }
def MeshKnowsWrongFalsely : Prop := meshKnowsRow.holds Tryz.pinned (OpenSpec.ofChange meshKnowsWrong)

/-- 'landfalllaw26.MeshOthers': WHATEVER THE INPUT: true; the input reads as it did. -/
def meshOthersSpec : ChangeSpec := { name := "meshOthers", fn := fun _ => fun
  | [d1, d2] => { results := [.lit (.bool true)], args := [d1, d2] }
  | _ => none }
def meshOthersRow : OpenClaim := { program := "ytohmledhhgdgaaagreatdoor", sum := "417ad043226ed31ed9abefbd037672eb3f0df91eba22ddc25ef0573b6bcab02e", func := "landfall/landfalllaw26.MeshOthers", spec := "meshOthers", inPlace := ["slices.overlaps[landfall/api.Report]"], unfollowed := true, recurses := true, named := ["internal/strconv.uint64pow10", "math/bits.deBruijn32tab", "math/bits.deBruijn64tab"], apart := false, laid := [("math/bits.deBruijn32tab", laid_math_bits_deBruijn32tab), ("math/bits.deBruijn64tab", laid_math_bits_deBruijn64tab), ("internal/strconv.uint64pow10", laid_internal_strconv_uint64pow10)] }
def MeshOthersSaid : Prop := meshOthersRow.holds Tryz.pinned (OpenSpec.ofChange meshOthersSpec)

/-- ITS FALSE NEIGHBOUR: 'it returns false'. Refute it at one input. -/
def meshOthersWrong : ChangeSpec := { name := "meshOthers", fn := fun _ => fun
  | [d1, d2] => { results := [.lit (.bool false)], args := [d1, d2] }
  | _ => none }
def MeshOthersWrongFalsely : Prop := meshOthersRow.holds Tryz.pinned (OpenSpec.ofChange meshOthersWrong)

/- THE SECOND FORM. 'bulk': how many values and letters a reading holds, each counted each time it is reached (what is shared counts as often as it is met; a slice's spare places count too). A statement '..UptoSaid' is the law's where the arguments, and the package variables that the reading takes, are together of bulk at most 1048576: NARROWER than '..Said'. Prove '..Said' where nothing that the law and all that it calls make is longer than what came in: it says more and counts as full. Else prove '..UptoSaid'. A law counts once. -/
mutual
def uptoBulk {H : Type} : DataW H → Nat
  | .lit (.string bytes) => bytes.length + 1
  | .lit _ => 1
  | .nil => 1
  | .ptr d => uptoBulk d + 1
  | .slice elems spare => uptoBulkAll elems + uptoBulkAll spare + 1
  | .agg parts => uptoBulkAll parts + 1
  | .iface _ d => uptoBulk d + 1
  | .map entries => uptoBulkEntries entries + 1
  | .held _ => 1
def uptoBulkAll {H : Type} : List (DataW H) → Nat
  | [] => 0
  | d :: r => uptoBulk d + uptoBulkAll r
def uptoBulkEntries {H : Type} : List (Lit × DataW H) → Nat
  | [] => 0
  | x :: r => uptoBulkEntry x + uptoBulkEntries r
def uptoBulkEntry {H : Type} : Lit × DataW H → Nat
  | (.string bytes, d) => bytes.length + uptoBulk d + 1
  | (_, d) => uptoBulk d + 1
 end
def uptoSmall : (H : Type) → List (DataW H) → Bool := fun _ ds => decide (uptoBulkAll ds ≤ 1048576)
def OpenSpec.upto (s : _root_.Go.ChangeSpec) : _root_.Go.OpenSpec := { _root_.Go.OpenSpec.ofChange s with cond := some uptoSmall }

/-- 'landfalllaw26.MeshMatchesReference', WHERE WHAT IT READS IS OF BULK AT MOST 1048576: true; the input reads as it did. -/
def meshMatchesReferenceUptoRow : OpenClaim := { program := "ytohmledhhgdgaaagreatdoor", sum := "417ad043226ed31ed9abefbd037672eb3f0df91eba22ddc25ef0573b6bcab02e", func := "landfall/landfalllaw26.MeshMatchesReference", spec := "meshMatchesReference", inPlace := ["slices.overlaps[landfall/api.Report]"], unfollowed := true, recurses := true, named := ["internal/strconv.uint64pow10", "math/bits.deBruijn32tab", "math/bits.deBruijn64tab"], apart := false, laid := [("math/bits.deBruijn32tab", laid_math_bits_deBruijn32tab), ("math/bits.deBruijn64tab", laid_math_bits_deBruijn64tab), ("internal/strconv.uint64pow10", laid_internal_strconv_uint64pow10)], narrowed := true }
def MeshMatchesReferenceUptoSaid : Prop := meshMatchesReferenceUptoRow.holds Tryz.pinned (OpenSpec.upto meshMatchesReferenceSpec)

/-- 'landfalllaw26.MeshAdds', WHERE WHAT IT READS IS OF BULK AT MOST 1048576: true; the input reads as it did. -/
def meshAddsUptoRow : OpenClaim := { program := "ytohmledhhgdgaaagreatdoor", sum := "417ad043226ed31ed9abefbd037672eb3f0df91eba22ddc25ef0573b6bcab02e", func := "landfall/landfalllaw26.MeshAdds", spec := "meshAdds", inPlace := ["slices.overlaps[landfall/api.Report]"], unfollowed := true, recurses := true, named := ["internal/strconv.uint64pow10", "math/bits.deBruijn32tab", "math/bits.deBruijn64tab"], apart := false, laid := [("math/bits.deBruijn32tab", laid_math_bits_deBruijn32tab), ("math/bits.deBruijn64tab", laid_math_bits_deBruijn64tab), ("internal/strconv.uint64pow10", laid_internal_strconv_uint64pow10)], narrowed := true }
def MeshAddsUptoSaid : Prop := meshAddsUptoRow.holds Tryz.pinned (OpenSpec.upto meshAddsSpec)

/-- 'landfalllaw26.MeshOrder', WHERE WHAT IT READS IS OF BULK AT MOST 1048576: true; the input reads as it did. -/
def meshOrderUptoRow : OpenClaim := { program := "ytohmledhhgdgaaagreatdoor", sum := "417ad043226ed31ed9abefbd037672eb3f0df91eba22ddc25ef0573b6bcab02e", func := "landfall/landfalllaw26.MeshOrder", spec := "meshOrder", inPlace := ["slices.overlaps[landfall/api.Report]"], unfollowed := true, recurses := true, named := ["internal/strconv.uint64pow10", "math/bits.deBruijn32tab", "math/bits.deBruijn64tab"], apart := false, laid := [("math/bits.deBruijn32tab", laid_math_bits_deBruijn32tab), ("math/bits.deBruijn64tab", laid_math_bits_deBruijn64tab), ("internal/strconv.uint64pow10", laid_internal_strconv_uint64pow10)], narrowed := true }
def MeshOrderUptoSaid : Prop := meshOrderUptoRow.holds Tryz.pinned (OpenSpec.upto meshOrderSpec)

/-- 'landfalllaw26.MeshMerges', WHERE WHAT IT READS IS OF BULK AT MOST 1048576: true; the input reads as it did. -/
def meshMergesUptoRow : OpenClaim := { program := "ytohmledhhgdgaaagreatdoor", sum := "417ad043226ed31ed9abefbd037672eb3f0df91eba22ddc25ef0573b6bcab02e", func := "landfall/landfalllaw26.MeshMerges", spec := "meshMerges", inPlace := ["slices.overlaps[landfall/api.Report]"], unfollowed := true, recurses := true, named := ["internal/strconv.uint64pow10", "math/bits.deBruijn32tab", "math/bits.deBruijn64tab"], apart := false, laid := [("math/bits.deBruijn32tab", laid_math_bits_deBruijn32tab), ("math/bits.deBruijn64tab", laid_math_bits_deBruijn64tab), ("internal/strconv.uint64pow10", laid_internal_strconv_uint64pow10)], narrowed := true }
def MeshMergesUptoSaid : Prop := meshMergesUptoRow.holds Tryz.pinned (OpenSpec.upto meshMergesSpec)

/-- 'landfalllaw26.MeshKnows', WHERE WHAT IT READS IS OF BULK AT MOST 1048576: true; the input reads as it did. -/
def meshKnowsUptoRow : OpenClaim := { program := "ytohmledhhgdgaaagreatdoor", sum := "417ad043226ed31ed9abefbd037672eb3f0df91eba22ddc25ef0573b6bcab02e", func := "landfall/landfalllaw26.MeshKnows", spec := "meshKnows", inPlace := ["slices.overlaps[landfall/api.Report]"], unfollowed := true, recurses := true, named := ["internal/strconv.uint64pow10", "math/bits.deBruijn32tab", "math/bits.deBruijn64tab"], apart := false, laid := [("math/bits.deBruijn32tab", laid_math_bits_deBruijn32tab), ("math/bits.deBruijn64tab", laid_math_bits_deBruijn64tab), ("internal/strconv.uint64pow10", laid_internal_strconv_uint64pow10)], narrowed := true }
def MeshKnowsUptoSaid : Prop := meshKnowsUptoRow.holds Tryz.pinned (OpenSpec.upto meshKnowsSpec)

/-- 'landfalllaw26.MeshOthers', WHERE WHAT IT READS IS OF BULK AT MOST 1048576: true; the input reads as it did. -/
def meshOthersUptoRow : OpenClaim := { program := "ytohmledhhgdgaaagreatdoor", sum := "417ad043226ed31ed9abefbd037672eb3f0df91eba22ddc25ef0573b6bcab02e", func := "landfall/landfalllaw26.MeshOthers", spec := "meshOthers", inPlace := ["slices.overlaps[landfall/api.Report]"], unfollowed := true, recurses := true, named := ["internal/strconv.uint64pow10", "math/bits.deBruijn32tab", "math/bits.deBruijn64tab"], apart := false, laid := [("math/bits.deBruijn32tab", laid_math_bits_deBruijn32tab), ("math/bits.deBruijn64tab", laid_math_bits_deBruijn64tab), ("internal/strconv.uint64pow10", laid_internal_strconv_uint64pow10)], narrowed := true }
def MeshOthersUptoSaid : Prop := meshOthersUptoRow.holds Tryz.pinned (OpenSpec.upto meshOthersSpec)

end Rows
end Go.Proofs.YtohmledhhgdgaaaGreatDoor
