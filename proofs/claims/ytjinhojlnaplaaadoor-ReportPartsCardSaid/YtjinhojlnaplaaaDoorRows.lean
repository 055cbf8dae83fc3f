/-
  NARROWER THAN 'FOR EVERY INPUT', by the rows' own cells (each row's printed sentence says how): SignMatchesReference: laid · SignChallenges: laid · SignOnce: laid · ReportMatchesReference: laid · ReportChains: laid · ReportDigits: laid · ReportRight: laid · ReportParts: laid · ReportForged: laid · ReportLogs: laid.
  DERIVED. THE GIVEN ROWS OF THIS SEAT. 10 by the template 'for every input the law returns true; each argument reads behind the call as it read before'; 0 by the template 'total and deterministic' (their statements: YtjinhojlnaplaaaDoorTotals.lean).
  GIVEN WITH THE SEED: the statements are not yours to turn. If you find one false, say at which input.
  Laid BY PROGRAM, IN A SANDBOX (cutbox-rows.mjs): the forced cells as the released guide's own fill.sh prints them over the translation 7e593f8a7ba440c6… (all of the seat's roots in one cut). By AI agents, Wed Nov 11 2026. No macro, syntax, notation, axiom, sorry.
-/
import Derived.Test.YtjinhojlnaplaaaDoorChecked
import GoSem.Claim
import GoSem.ClaimJoined
import GoSem.ClaimMapViews
import Derived.JoinedTies
import Derived.KernelRfl
namespace Go.Proofs.YtjinhojlnaplaaaDoor
/- THE CELL 'sum', in the pinned program and in every row, IS THE sha256 OF THE DUMP (.gsa) THAT YtjinhojlnaplaaaDoorProg.lean LOADS. Nothing in Lean hashes anything: it is a label: what it is worth is what the hold of that sum in a sandbox is worth. -/
noncomputable def Tryd.pinned : Pinned := { name := "ytjinhojlnaplaaadoor", sum := "7e593f8a7ba440c63f1cbf02a3ae3df801fb482e7f64e7903b8a87569d7ac564", checked := Tryd.checked }
namespace Rows
def none {H : Type} : Left H := { results := [], args := [] }

/- WHAT THE LISTED PACKAGE-LEVEL VARIABLES READ AS WHEN THE CALL BEGINS. Each datum BY PROGRAM (the guide's laid-datum.mjs) off the statement by which the dump's own 'gosem.cut.vars' lays the variable. In a bare row this is a premise. The card (YtjinhojlnaplaaaDoorCards.lean) ties it to the program's text. -/
def laid_math_bits_deBruijn32tab {H : Type} : DataW H := .agg [.lit (.int .u8 0), .lit (.int .u8 1), .lit (.int .u8 28), .lit (.int .u8 2), .lit (.int .u8 29), .lit (.int .u8 14), .lit (.int .u8 24), .lit (.int .u8 3), .lit (.int .u8 30), .lit (.int .u8 22), .lit (.int .u8 20), .lit (.int .u8 15), .lit (.int .u8 25), .lit (.int .u8 17), .lit (.int .u8 4), .lit (.int .u8 8), .lit (.int .u8 31), .lit (.int .u8 27), .lit (.int .u8 13), .lit (.int .u8 23), .lit (.int .u8 21), .lit (.int .u8 19), .lit (.int .u8 16), .lit (.int .u8 7), .lit (.int .u8 26), .lit (.int .u8 12), .lit (.int .u8 18), .lit (.int .u8 6), .lit (.int .u8 11), .lit (.int .u8 5), .lit (.int .u8 10), .lit (.int .u8 9)]
def laid_math_bits_deBruijn64tab {H : Type} : DataW H := .agg [.lit (.int .u8 0), .lit (.int .u8 1), .lit (.int .u8 56), .lit (.int .u8 2), .lit (.int .u8 57), .lit (.int .u8 49), .lit (.int .u8 28), .lit (.int .u8 3), .lit (.int .u8 61), .lit (.int .u8 58), .lit (.int .u8 42), .lit (.int .u8 50), .lit (.int .u8 38), .lit (.int .u8 29), .lit (.int .u8 17), .lit (.int .u8 4), .lit (.int .u8 62), .lit (.int .u8 47), .lit (.int .u8 59), .lit (.int .u8 36), .lit (.int .u8 45), .lit (.int .u8 43), .lit (.int .u8 51), .lit (.int .u8 22), .lit (.int .u8 53), .lit (.int .u8 39), .lit (.int .u8 33), .lit (.int .u8 30), .lit (.int .u8 24), .lit (.int .u8 18), .lit (.int .u8 12), .lit (.int .u8 5), .lit (.int .u8 63), .lit (.int .u8 55), .lit (.int .u8 48), .lit (.int .u8 27), .lit (.int .u8 60), .lit (.int .u8 41), .lit (.int .u8 37), .lit (.int .u8 16), .lit (.int .u8 46), .lit (.int .u8 35), .lit (.int .u8 44), .lit (.int .u8 21), .lit (.int .u8 52), .lit (.int .u8 32), .lit (.int .u8 23), .lit (.int .u8 11), .lit (.int .u8 54), .lit (.int .u8 26), .lit (.int .u8 40), .lit (.int .u8 15), .lit (.int .u8 34), .lit (.int .u8 20), .lit (.int .u8 31), .lit (.int .u8 10), .lit (.int .u8 25), .lit (.int .u8 14), .lit (.int .u8 19), .lit (.int .u8 9), .lit (.int .u8 13), .lit (.int .u8 8), .lit (.int .u8 7), .lit (.int .u8 6)]
def laid_internal_strconv_uint64pow10 {H : Type} : DataW H := .agg [.lit (.int .u64 1), .lit (.int .u64 10), .lit (.int .u64 100), .lit (.int .u64 1000), .lit (.int .u64 10000), .lit (.int .u64 100000), .lit (.int .u64 1000000), .lit (.int .u64 10000000), .lit (.int .u64 100000000), .lit (.int .u64 1000000000), .lit (.int .u64 10000000000), .lit (.int .u64 100000000000), .lit (.int .u64 1000000000000), .lit (.int .u64 10000000000000), .lit (.int .u64 100000000000000), .lit (.int .u64 1000000000000000), .lit (.int .u64 10000000000000000), .lit (.int .u64 100000000000000000), .lit (.int .u64 1000000000000000000), .lit (.int .u64 10000000000000000000)]

/-- 'landfalllaw11.SignMatchesReference': WHATEVER THE INPUT: true; the input reads as it did. -/
def signMatchesReferenceSpec : ChangeSpec := { name := "signMatchesReference", fn := fun _ => fun
  | [d1, d2, d3, d4, d5] => { results := [.lit (.bool true)], args := [d1, d2, d3, d4, d5] }
  | _ => none }
def signMatchesReferenceRow : OpenClaim := { program := "ytjinhojlnaplaaadoor", sum := "7e593f8a7ba440c63f1cbf02a3ae3df801fb482e7f64e7903b8a87569d7ac564", func := "landfall/landfalllaw11.SignMatchesReference", spec := "signMatchesReference", unfollowed := true, recurses := true, named := ["internal/strconv.uint64pow10", "math/bits.deBruijn32tab", "math/bits.deBruijn64tab"], apart := false, laid := [("math/bits.deBruijn32tab", laid_math_bits_deBruijn32tab), ("math/bits.deBruijn64tab", laid_math_bits_deBruijn64tab), ("internal/strconv.uint64pow10", laid_internal_strconv_uint64pow10)] }
def SignMatchesReferenceSaid : Prop := signMatchesReferenceRow.holds Tryd.pinned (OpenSpec.ofChange signMatchesReferenceSpec)

/-- ITS FALSE NEIGHBOUR: 'it returns false'. Refute it at one input. -/
def signMatchesReferenceWrong : ChangeSpec := { name := "signMatchesReference", fn := fun _ => fun
  | [d1, d2, d3, d4, d5] => { results := [.lit (.bool false)], args := [d1, d2, d3, d4, d5] }
  | _ => none }
def SignMatchesReferenceWrongFalsely : Prop := signMatchesReferenceRow.holds Tryd.pinned (OpenSpec.ofChange signMatchesReferenceWrong)

/-- 'landfalllaw11.SignChallenges': WHATEVER THE INPUT: true; the input reads as it did. -/
def signChallengesSpec : ChangeSpec := { name := "signChallenges", fn := fun _ => fun
  | [d1, d2, d3, d4, d5, d6] => { results := [.lit (.bool true)], args := [d1, d2, d3, d4, d5, d6] }
  | _ => none }
def signChallengesRow : OpenClaim := { program := "ytjinhojlnaplaaadoor", sum := "7e593f8a7ba440c63f1cbf02a3ae3df801fb482e7f64e7903b8a87569d7ac564", func := "landfall/landfalllaw11.SignChallenges", spec := "signChallenges", unfollowed := true, recurses := true, named := ["internal/strconv.uint64pow10", "math/bits.deBruijn32tab", "math/bits.deBruijn64tab"], apart := false, laid := [("math/bits.deBruijn32tab", laid_math_bits_deBruijn32tab), ("math/bits.deBruijn64tab", laid_math_bits_deBruijn64tab), ("internal/strconv.uint64pow10", laid_internal_strconv_uint64pow10)] }
def SignChallengesSaid : Prop := signChallengesRow.holds Tryd.pinned (OpenSpec.ofChange signChallengesSpec)

/-- ITS FALSE NEIGHBOUR: 'it returns false'. Refute it at one input. -/
def signChallengesWrong : ChangeSpec := { name := "signChallenges", fn := fun _ => fun
  | [d1, d2, d3, d4, d5, d6] => { results := [.lit (.bool false)], args := [d1, d2, d3, d4, d5, d6] }
  | _ => none }
def SignChallengesWrongFalsely : Prop := signChallengesRow.holds Tryd.pinned (OpenSpec.ofChange signChallengesWrong)

/-- 'landfalllaw11.SignOnce': WHATEVER THE INPUT: true; the input reads as it did. -/
def signOnceSpec : ChangeSpec := { name := "signOnce", fn := fun _ => fun
  | [d1, d2, d3, d4] => { results := [.lit (.bool true)], args := [d1, d2, d3, d4] }
  | _ => none }
def signOnceRow : OpenClaim := { program := "ytjinhojlnaplaaadoor", sum := "7e593f8a7ba440c63f1cbf02a3ae3df801fb482e7f64e7903b8a87569d7ac564", func := "landfall/landfalllaw11.SignOnce", spec := "signOnce", unfollowed := true, recurses := true, named := ["internal/strconv.uint64pow10", "math/bits.deBruijn32tab", "math/bits.deBruijn64tab"], apart := false, laid := [("math/bits.deBruijn32tab", laid_math_bits_deBruijn32tab), ("math/bits.deBruijn64tab", laid_math_bits_deBruijn64tab), ("internal/strconv.uint64pow10", laid_internal_strconv_uint64pow10)] }
def SignOnceSaid : Prop := signOnceRow.holds Tryd.pinned (OpenSpec.ofChange signOnceSpec)

/-- ITS FALSE NEIGHBOUR: 'it returns false'. Refute it at one input. -/
def signOnceWrong : ChangeSpec := { name := "signOnce", fn := fun _ => fun
  | [d1, d2, d3, d4] => { results := [.lit (.bool false)], args := [d1, d2, d3, d4] }
  | _ => none }
def SignOnceWrongFalsely : Prop := signOnceRow.holds Tryd.pinned (OpenSpec.ofChange signOnceWrong)

/-- 'landfalllaw24.ReportMatchesReference': WHATEVER THE INPUT: true; the input reads as it did. -/
def reportMatchesReferenceSpec : ChangeSpec := { name := "reportMatchesReference", fn := fun _ => fun
  | [d1, d2, d3, d4, d5, d6, d7] => { results := [.lit (.bool true)], args := [d1, d2, d3, d4, d5, d6, d7] }
  | _ => none }
def reportMatchesReferenceRow : OpenClaim := { program := "ytjinhojlnaplaaadoor", sum := "7e593f8a7ba440c63f1cbf02a3ae3df801fb482e7f64e7903b8a87569d7ac564", func := "landfall/landfalllaw24.ReportMatchesReference", spec := "reportMatchesReference", unfollowed := true, recurses := true, named := ["internal/strconv.uint64pow10", "math/bits.deBruijn32tab", "math/bits.deBruijn64tab"], apart := false, laid := [("math/bits.deBruijn32tab", laid_math_bits_deBruijn32tab), ("math/bits.deBruijn64tab", laid_math_bits_deBruijn64tab), ("internal/strconv.uint64pow10", laid_internal_strconv_uint64pow10)] }
def ReportMatchesReferenceSaid : Prop := reportMatchesReferenceRow.holds Tryd.pinned (OpenSpec.ofChange reportMatchesReferenceSpec)

/-- ITS FALSE NEIGHBOUR: 'it returns false'. Refute it at one input. -/
def reportMatchesReferenceWrong : ChangeSpec := { name := "reportMatchesReference", fn := fun _ => fun
  | [d1, d2, d3, d4, d5, d6, d7] => { results := [.lit (.bool false)], args := [d1, d2, d3, d4, d5, d6, d7] }
  | _ => none }
def ReportMatchesReferenceWrongFalsely : Prop := reportMatchesReferenceRow.holds Tryd.pinned (OpenSpec.ofChange reportMatchesReferenceWrong)

/-- 'landfalllaw24.ReportChains': WHATEVER THE INPUT: true; the input reads as it did. -/
def reportChainsSpec : ChangeSpec := { name := "reportChains", fn := fun _ => fun
  | [d1, d2, d3] => { results := [.lit (.bool true)], args := [d1, d2, d3] }
  | _ => none }
def reportChainsRow : OpenClaim := { program := "ytjinhojlnaplaaadoor", sum := "7e593f8a7ba440c63f1cbf02a3ae3df801fb482e7f64e7903b8a87569d7ac564", func := "landfall/landfalllaw24.ReportChains", spec := "reportChains", unfollowed := true, recurses := true, named := ["internal/strconv.uint64pow10", "math/bits.deBruijn32tab", "math/bits.deBruijn64tab"], apart := false, laid := [("math/bits.deBruijn32tab", laid_math_bits_deBruijn32tab), ("math/bits.deBruijn64tab", laid_math_bits_deBruijn64tab), ("internal/strconv.uint64pow10", laid_internal_strconv_uint64pow10)] }
def ReportChainsSaid : Prop := reportChainsRow.holds Tryd.pinned (OpenSpec.ofChange reportChainsSpec)

/-- ITS FALSE NEIGHBOUR: 'it returns false'. Refute it at one input. -/
def reportChainsWrong : ChangeSpec := { name := "reportChains", fn := fun _ => fun
  | [d1, d2, d3] => { results := [.lit (.bool false)], args := [d1, d2, d3] }
  | _ => none }
def ReportChainsWrongFalsely : Prop := reportChainsRow.holds Tryd.pinned (OpenSpec.ofChange reportChainsWrong)

/-- 'landfalllaw24.ReportDigits': WHATEVER THE INPUT: true; the input reads as it did. -/
def reportDigitsSpec : ChangeSpec := { name := "reportDigits", fn := fun _ => fun
  | [d1, d2, d3] => { results := [.lit (.bool true)], args := [d1, d2, d3] }
  | _ => none }
def reportDigitsRow : OpenClaim := { program := "ytjinhojlnaplaaadoor", sum := "7e593f8a7ba440c63f1cbf02a3ae3df801fb482e7f64e7903b8a87569d7ac564", func := "landfall/landfalllaw24.ReportDigits", spec := "reportDigits", unfollowed := true, recurses := true, named := ["internal/strconv.uint64pow10", "math/bits.deBruijn32tab", "math/bits.deBruijn64tab"], apart := false, laid := [("math/bits.deBruijn32tab", laid_math_bits_deBruijn32tab), ("math/bits.deBruijn64tab", laid_math_bits_deBruijn64tab), ("internal/strconv.uint64pow10", laid_internal_strconv_uint64pow10)] }
def ReportDigitsSaid : Prop := reportDigitsRow.holds Tryd.pinned (OpenSpec.ofChange reportDigitsSpec)

/-- ITS FALSE NEIGHBOUR: 'it returns false'. Refute it at one input. -/
def reportDigitsWrong : ChangeSpec := { name := "reportDigits", fn := fun _ => fun
  | [d1, d2, d3] => { results := [.lit (.bool false)], args := [d1, d2, d3] }
  | _ => none }
def ReportDigitsWrongFalsely : Prop := reportDigitsRow.holds Tryd.pinned (OpenSpec.ofChange reportDigitsWrong)

/-- 'landfalllaw24.ReportRight': WHATEVER THE INPUT: true; the input reads as it did. -/
def reportRightSpec : ChangeSpec := { name := "reportRight", fn := fun _ => fun
  | [d1, d2, d3, d4, d5] => { results := [.lit (.bool true)], args := [d1, d2, d3, d4, d5] }
  | _ => none }
def reportRightRow : OpenClaim := { program := "ytjinhojlnaplaaadoor", sum := "7e593f8a7ba440c63f1cbf02a3ae3df801fb482e7f64e7903b8a87569d7ac564", func := "landfall/landfalllaw24.ReportRight", spec := "reportRight", unfollowed := true, recurses := true, named := ["internal/strconv.uint64pow10", "math/bits.deBruijn32tab", "math/bits.deBruijn64tab"], apart := false, laid := [("math/bits.deBruijn32tab", laid_math_bits_deBruijn32tab), ("math/bits.deBruijn64tab", laid_math_bits_deBruijn64tab), ("internal/strconv.uint64pow10", laid_internal_strconv_uint64pow10)] }
def ReportRightSaid : Prop := reportRightRow.holds Tryd.pinned (OpenSpec.ofChange reportRightSpec)

/-- ITS FALSE NEIGHBOUR: 'it returns false'. Refute it at one input. -/
def reportRightWrong : ChangeSpec := { name := "reportRight", fn := fun _ => fun
  | [d1, d2, d3, d4, d5] => { results := [.lit (.bool false)], args := [d1, d2, d3, d4, d5] }
  | _ => none }
def ReportRightWrongFalsely : Prop := reportRightRow.holds Tryd.pinned (OpenSpec.ofChange reportRightWrong)

/-- 'landfalllaw24.ReportParts': WHATEVER THE INPUT: true; the input reads as it did. -/
def reportPartsSpec : ChangeSpec := { name := "reportParts", fn := fun _ => fun
  | [d1, d2, d3, d4, d5, d6] => { results := [.lit (.bool true)], args := [d1, d2, d3, d4, d5, d6] }
  | _ => none }
def reportPartsRow : OpenClaim := { program := "ytjinhojlnaplaaadoor", sum := "7e593f8a7ba440c63f1cbf02a3ae3df801fb482e7f64e7903b8a87569d7ac564", func := "landfall/landfalllaw24.ReportParts", spec := "reportParts", unfollowed := true, recurses := true, named := ["internal/strconv.uint64pow10", "math/bits.deBruijn32tab", "math/bits.deBruijn64tab"], apart := false, laid := [("math/bits.deBruijn32tab", laid_math_bits_deBruijn32tab), ("math/bits.deBruijn64tab", laid_math_bits_deBruijn64tab), ("internal/strconv.uint64pow10", laid_internal_strconv_uint64pow10)] }
def ReportPartsSaid : Prop := reportPartsRow.holds Tryd.pinned (OpenSpec.ofChange reportPartsSpec)

/-- ITS FALSE NEIGHBOUR: 'it returns false'. Refute it at one input. -/
def reportPartsWrong : ChangeSpec := { name := "reportParts", fn := fun _ => fun
  | [d1, d2, d3, d4, d5, d6] => { results := [.lit (.bool false)], args := [d1, d2, d3, d4, d5, d6] }
  | _ => none }
def ReportPartsWrongFalsely : Prop := reportPartsRow.holds Tryd.pinned (OpenSpec.ofChange reportPartsWrong)

/-- 'landfalllaw24.ReportForged': WHATEVER THE INPUT: true; the input reads as it did. -/
def reportForgedSpec : ChangeSpec := { name := "reportForged", fn := fun _ => fun
  | [d1, d2, d3, d4, d5, d6, d7] => { results := [.lit (.bool true)], args := [d1, d2, d3, d4, d5, d6, d7] }
  | _ => none }
def reportForgedRow : OpenClaim := { program := "ytjinhojlnaplaaadoor", sum := "7e593f8a7ba440c63f1cbf02a3ae3df801fb482e7f64e7903b8a87569d7ac564", func := "landfall/landfalllaw24.ReportForged", spec := "reportForged", unfollowed := true, recurses := true, named := ["internal/strconv.uint64pow10", "math/bits.deBruijn32tab", "math/bits.deBruijn64tab"], apart := false, laid := [("math/bits.deBruijn32tab", laid_math_bits_deBruijn32tab), ("math/bits.deBruijn64tab", laid_math_bits_deBruijn64tab), ("internal/strconv.uint64pow10", laid_internal_strconv_uint64pow10)] }
def ReportForgedSaid : Prop := reportForgedRow.holds Tryd.pinned (OpenSpec.ofChange reportForgedSpec)

/-- ITS FALSE NEIGHBOUR: 'it returns false'. Refute it at one input. -/
def reportForgedWrong : ChangeSpec := { name := "reportForged", fn := fun _ => fun
  | [d1, d2, d3, d4, d5, d6, d7] => { results := [.lit (.bool false)], args := [d1, d2, d3, d4, d5, d6, d7] }
  | _ => none }
def ReportForgedWrongFalsely : Prop := reportForgedRow.holds Tryd.pinned (OpenSpec.ofChange reportForgedWrong)

/-- 'landfalllaw24.ReportLogs': WHATEVER THE INPUT: true; the input reads as it did. -/
def reportLogsSpec : ChangeSpec := { name := "reportLogs", fn := fun _ => fun
  | [d1, d2, d3] => { results := [.lit (.bool true)], args := [d1, d2, d3] }
  | _ => none }
def reportLogsRow : OpenClaim := { program := "ytjinhojlnaplaaadoor", sum := "7e593f8a7ba440c63f1cbf02a3ae3df801fb482e7f64e7903b8a87569d7ac564", func := "landfall/landfalllaw24.ReportLogs", spec := "reportLogs", unfollowed := true, recurses := true, named := ["internal/strconv.uint64pow10", "math/bits.deBruijn32tab", "math/bits.deBruijn64tab"], apart := false, laid := [("math/bits.deBruijn32tab", laid_math_bits_deBruijn32tab), ("math/bits.deBruijn64tab", laid_math_bits_deBruijn64tab), ("internal/strconv.uint64pow10", laid_internal_strconv_uint64pow10)] }
def ReportLogsSaid : Prop := reportLogsRow.holds Tryd.pinned (OpenSpec.ofChange reportLogsSpec)

/-- ITS FALSE NEIGHBOUR: 'it returns false'. Refute it at one input. -/
def reportLogsWrong : ChangeSpec := { name := "reportLogs", fn := fun _ => fun
  | [d1, d2, d3] => { results := [.lit (.bool false)], args := [d1, d2, d3] }
  | _ => none }
def ReportLogsWrongFalsely : Prop := reportLogsRow.holds Tryd.pinned (OpenSpec.ofChange reportLogsWrong)

/- THE SECOND FORM. 'bulk': how many values and letters a reading holds, each counted each time it is reached (what is shared counts as often as it is met; a slice's spare places count too). A statement '..UptoSaid' is the law's where the arguments, and the package variables that the reading takes, are together of bulk at most 1048576: NARROWER than '..Said'. Prove '..Said' where nothing that the law and all that it calls make is longer than what came in: it says more and counts as full. Else prove '..UptoSaid'. A law counts once. -/
mutual
def uptoBulk {H : Type} : DataW H → Nat
  | .lit (.string bytes) => bytes.length + 1
  | .lit _ => 1
  | .nil => 1
  | .ptr d => uptoBulk d + 1
  | .slice elems spare => uptoBulkAll elems + uptoBulkAll spare + 1
  | .agg parts => uptoBulkAll parts + 1
  | .iface _ d => uptoBulk d + 1
  | .map entries => uptoBulkEntries entries + 1
  | .held _ => 1
def uptoBulkAll {H : Type} : List (DataW H) → Nat
  | [] => 0
  | d :: r => uptoBulk d + uptoBulkAll r
def uptoBulkEntries {H : Type} : List (Lit × DataW H) → Nat
  | [] => 0
  | x :: r => uptoBulkEntry x + uptoBulkEntries r
def uptoBulkEntry {H : Type} : Lit × DataW H → Nat
  | (.string bytes, d) => bytes.length + uptoBulk d + 1
  | (_, d) => uptoBulk d + 1
 end
def uptoSmall : (H : Type) → List (DataW H) → Bool := fun _ ds => decide (uptoBulkAll ds ≤ 1048576)
def OpenSpec.upto (s : _root_.Go.ChangeSpec) : _root_.Go.OpenSpec := { _root_.Go.OpenSpec.ofChange s with cond := some uptoSmall }

/-- 'landfalllaw11.SignMatchesReference', WHERE WHAT IT READS IS OF BULK AT MOST 1048576: true; the input reads as it did. -/
def signMatchesReferenceUptoRow : OpenClaim := { program := "ytjinhojlnaplaaadoor", sum := "7e593f8a7ba440c63f1cbf02a3ae3df801fb482e7f64e7903b8a87569d7ac564", func := "landfall/landfalllaw11.SignMatchesReference", spec := "signMatchesReference", unfollowed := true, recurses := true, named := ["internal/strconv.uint64pow10", "math/bits.deBruijn32tab", "math/bits.deBruijn64tab"], apart := false, laid := [("math/bits.deBruijn32tab", laid_math_bits_deBruijn32tab), ("math/bits.deBruijn64tab", laid_math_bits_deBruijn64tab), ("internal/strconv.uint64pow10", laid_internal_strconv_uint64pow10)], narrowed := true }
def SignMatchesReferenceUptoSaid : Prop := signMatchesReferenceUptoRow.holds Tryd.pinned (OpenSpec.upto signMatchesReferenceSpec)

/-- 'landfalllaw11.SignChallenges', WHERE WHAT IT READS IS OF BULK AT MOST 1048576: true; the input reads as it did. -/
def signChallengesUptoRow : OpenClaim := { program := "ytjinhojlnaplaaadoor", sum := "7e593f8a7ba440c63f1cbf02a3ae3df801fb482e7f64e7903b8a87569d7ac564", func := "landfall/landfalllaw11.SignChallenges", spec := "signChallenges", unfollowed := true, recurses := true, named := ["internal/strconv.uint64pow10", "math/bits.deBruijn32tab", "math/bits.deBruijn64tab"], apart := false, laid := [("math/bits.deBruijn32tab", laid_math_bits_deBruijn32tab), ("math/bits.deBruijn64tab", laid_math_bits_deBruijn64tab), ("internal/strconv.uint64pow10", laid_internal_strconv_uint64pow10)], narrowed := true }
def SignChallengesUptoSaid : Prop := signChallengesUptoRow.holds Tryd.pinned (OpenSpec.upto signChallengesSpec)

/-- 'landfalllaw11.SignOnce', WHERE WHAT IT READS IS OF BULK AT MOST 1048576: true; the input reads as it did. -/
def signOnceUptoRow : OpenClaim := { program := "ytjinhojlnaplaaadoor", sum := "7e593f8a7ba440c63f1cbf02a3ae3df801fb482e7f64e7903b8a87569d7ac564", func := "landfall/landfalllaw11.SignOnce", spec := "signOnce", unfollowed := true, recurses := true, named := ["internal/strconv.uint64pow10", "math/bits.deBruijn32tab", "math/bits.deBruijn64tab"], apart := false, laid := [("math/bits.deBruijn32tab", laid_math_bits_deBruijn32tab), ("math/bits.deBruijn64tab", laid_math_bits_deBruijn64tab), ("internal/strconv.uint64pow10", laid_internal_strconv_uint64pow10)], narrowed := true }
def SignOnceUptoSaid : Prop := signOnceUptoRow.holds Tryd.pinned (OpenSpec.upto signOnceSpec)

/-- 'landfalllaw24.ReportMatchesReference', WHERE WHAT IT READS IS OF BULK AT MOST 1048576: true; the input reads as it did. -/
def reportMatchesReferenceUptoRow : OpenClaim := { program := "ytjinhojlnaplaaadoor", sum := "7e593f8a7ba440c63f1cbf02a3ae3df801fb482e7f64e7903b8a87569d7ac564", func := "landfall/landfalllaw24.ReportMatchesReference", spec := "reportMatchesReference", unfollowed := true, recurses := true, named := ["internal/strconv.uint64pow10", "math/bits.deBruijn32tab", "math/bits.deBruijn64tab"], apart := false, laid := [("math/bits.deBruijn32tab", laid_math_bits_deBruijn32tab), ("math/bits.deBruijn64tab", laid_math_bits_deBruijn64tab), ("internal/strconv.uint64pow10", laid_internal_strconv_uint64pow10)], narrowed := true }
def ReportMatchesReferenceUptoSaid : Prop := reportMatchesReferenceUptoRow.holds Tryd.pinned (OpenSpec.upto reportMatchesReferenceSpec)

/-- 'landfalllaw24.ReportChains', WHERE WHAT IT READS IS OF BULK AT MOST 1048576: true; the input reads as it did. -/
def reportChainsUptoRow : OpenClaim := { program := "ytjinhojlnaplaaadoor", sum := "7e593f8a7ba440c63f1cbf02a3ae3df801fb482e7f64e7903b8a87569d7ac564", func := "landfall/landfalllaw24.ReportChains", spec := "reportChains", unfollowed := true, recurses := true, named := ["internal/strconv.uint64pow10", "math/bits.deBruijn32tab", "math/bits.deBruijn64tab"], apart := false, laid := [("math/bits.deBruijn32tab", laid_math_bits_deBruijn32tab), ("math/bits.deBruijn64tab", laid_math_bits_deBruijn64tab), ("internal/strconv.uint64pow10", laid_internal_strconv_uint64pow10)], narrowed := true }
def ReportChainsUptoSaid : Prop := reportChainsUptoRow.holds Tryd.pinned (OpenSpec.upto reportChainsSpec)

/-- 'landfalllaw24.ReportDigits', WHERE WHAT IT READS IS OF BULK AT MOST 1048576: true; the input reads as it did. -/
def reportDigitsUptoRow : OpenClaim := { program := "ytjinhojlnaplaaadoor", sum := "7e593f8a7ba440c63f1cbf02a3ae3df801fb482e7f64e7903b8a87569d7ac564", func := "landfall/landfalllaw24.ReportDigits", spec := "reportDigits", unfollowed := true, recurses := true, named := ["internal/strconv.uint64pow10", "math/bits.deBruijn32tab", "math/bits.deBruijn64tab"], apart := false, laid := [("math/bits.deBruijn32tab", laid_math_bits_deBruijn32tab), ("math/bits.deBruijn64tab", laid_math_bits_deBruijn64tab), ("internal/strconv.uint64pow10", laid_internal_strconv_uint64pow10)], narrowed := true }
def ReportDigitsUptoSaid : Prop := reportDigitsUptoRow.holds Tryd.pinned (OpenSpec.upto reportDigitsSpec)

/-- 'landfalllaw24.ReportRight', WHERE WHAT IT READS IS OF BULK AT MOST 1048576: true; the input reads as it did. -/
def reportRightUptoRow : OpenClaim := { program := "ytjinhojlnaplaaadoor", sum := "7e593f8a7ba440c63f1cbf02a3ae3df801fb482e7f64e7903b8a87569d7ac564", func := "landfall/landfalllaw24.ReportRight", spec := "reportRight", unfollowed := true, recurses := true, named := ["internal/strconv.uint64pow10", "math/bits.deBruijn32tab", "math/bits.deBruijn64tab"], apart := false, laid := [("math/bits.deBruijn32tab", laid_math_bits_deBruijn32tab), ("math/bits.deBruijn64tab", laid_math_bits_deBruijn64tab), ("internal/strconv.uint64pow10", laid_internal_strconv_uint64pow10)], narrowed := true }
def ReportRightUptoSaid : Prop := reportRightUptoRow.holds Tryd.pinned (OpenSpec.upto reportRightSpec)

/-- 'landfalllaw24.ReportParts', WHERE WHAT IT READS IS OF BULK AT MOST 1048576: true; the input reads as it did. -/
def reportPartsUptoRow : OpenClaim := { program := "ytjinhojlnaplaaadoor", sum := "7e593f8a7ba440c63f1cbf02a3ae3df801fb482e7f64e7903b8a87569d7ac564", func := "landfall/landfalllaw24.ReportParts", spec := "reportParts", unfollowed := true, recurses := true, named := ["internal/strconv.uint64pow10", "math/bits.deBruijn32tab", "math/bits.deBruijn64tab"], apart := false, laid := [("math/bits.deBruijn32tab", laid_math_bits_deBruijn32tab), ("math/bits.deBruijn64tab", laid_math_bits_deBruijn64tab), ("internal/strconv.uint64pow10", laid_internal_strconv_uint64pow10)], narrowed := true }
def ReportPartsUptoSaid : Prop := reportPartsUptoRow.holds Tryd.pinned (OpenSpec.upto reportPartsSpec)

/-- 'landfalllaw24.ReportForged', WHERE WHAT IT READS IS OF BULK AT MOST 1048576: true; the input reads as it did. -/
def reportForgedUptoRow : OpenClaim := { program := "ytjinhojlnaplaaadoor", sum := "7e593f8a7ba440c63f1cbf02a3ae3df801fb482e7f64e7903b8a87569d7ac564", func := "landfall/landfalllaw24.ReportForged", spec := "reportForged", unfollowed := true, recurses := true, named := ["internal/strconv.uint64pow10", "math/bits.deBruijn32tab", "math/bits.deBruijn64tab"], apart := false, laid := [("math/bits.deBruijn32tab", laid_math_bits_deBruijn32tab), ("math/bits.deBruijn64tab", laid_math_bits_deBruijn64tab), ("internal/strconv.uint64pow10", laid_internal_strconv_uint64pow10)], narrowed := true }
def ReportForgedUptoSaid : Prop := reportForgedUptoRow.holds Tryd.pinned (OpenSpec.upto reportForgedSpec)

/-- 'landfalllaw24.ReportLogs', WHERE WHAT IT READS IS OF BULK AT MOST 1048576: true; the input reads as it did. -/
def reportLogsUptoRow : OpenClaim := { program := "ytjinhojlnaplaaadoor", sum := "7e593f8a7ba440c63f1cbf02a3ae3df801fb482e7f64e7903b8a87569d7ac564", func := "landfall/landfalllaw24.ReportLogs", spec := "reportLogs", unfollowed := true, recurses := true, named := ["internal/strconv.uint64pow10", "math/bits.deBruijn32tab", "math/bits.deBruijn64tab"], apart := false, laid := [("math/bits.deBruijn32tab", laid_math_bits_deBruijn32tab), ("math/bits.deBruijn64tab", laid_math_bits_deBruijn64tab), ("internal/strconv.uint64pow10", laid_internal_strconv_uint64pow10)], narrowed := true }
def ReportLogsUptoSaid : Prop := reportLogsUptoRow.holds Tryd.pinned (OpenSpec.upto reportLogsSpec)

end Rows
end Go.Proofs.YtjinhojlnaplaaaDoor
