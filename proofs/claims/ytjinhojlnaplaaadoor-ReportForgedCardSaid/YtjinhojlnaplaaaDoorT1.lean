/- WRITTEN BY gen.py: the chains of operations of some functions. -/
import Derived.Test.YtjinhojlnaplaaaDoorBaseA
import Derived.Test.YtjinhojlnaplaaaDoorProg
import Derived.KernelRfl
namespace Go.Proofs.YtjinhojlnaplaaaDoor
open Sh
set_option maxRecDepth 100000
theorem follows_mixed : Tryd.prog.follows .mixedOrders = true := by kernel_rfl
/- landfall/landfalllaw11.SignMatchesReference -/
def sh_landfalllaw11_SignMatchesReference (v0 v1 v2 v3 v4 : Value) (R : Ending → World → Prop) (w : World) : Prop := (
 DoV Tryd.prog (Instr.box 23 v3) w (fun t8_1 w1 =>
 CallF Tryd.prog 13 #[] w1 (fun t21_2 w2 =>
 CallF Tryd.prog 14 #[v4] w2 (fun t23_3 w3 =>
 JoinE [11] (fun K4 =>
 Gd t21_2 true (CallF Tryd.prog 15 #[v0] w3 (fun t27_5 w5 =>
 CallF Tryd.prog 16 #[v0] w5 (fun t29_6 w6 =>
 DoV Tryd.prog (binS BinOp.eql 4 (Operand.tmp 27) (Operand.tmp 29) t27_5 t29_6) w6 (fun t30_7 w7 =>
 K4 [t30_7] w7) (Pan R)) (Pan R)) (Pan R))
(K4 [(Value.bool false)] w3))
(fun h8 w8 =>
 CallF Tryd.prog 17 #[v0, v1] w8 (fun t35_9 w9 =>
 DoV Tryd.prog (Instr.extract t35_9 0) w9 (fun t36_10 w10 =>
 DoV Tryd.prog (Instr.extract t35_9 1) w10 (fun t37_11 w11 =>
 CallF Tryd.prog 18 #[v0, v1] w11 (fun t41_12 w12 =>
 DoV Tryd.prog (Instr.extract t41_12 0) w12 (fun t42_13 w13 =>
 DoV Tryd.prog (Instr.extract t41_12 1) w13 (fun t43_14 w14 =>
 JoinE [11] (fun K15 =>
 Gd (h8 11) true (DoV Tryd.prog (binS BinOp.eql 3 (Operand.tmp 46) (Operand.tmp 47) t36_10 t42_13) w14 (fun t48_16 w16 =>
 Gd t48_16 true (DoV Tryd.prog (binS BinOp.eql 28 (Operand.tmp 51) (Operand.tmp 52) t37_11 t43_14) w16 (fun t53_17 w17 =>
 K15 [t53_17] w17) (Pan R))
(K15 [(Value.bool false)] w16)) (Pan R))
(K15 [(Value.bool false)] w14))
(fun h18 w18 =>
 CallF Tryd.prog 19 #[v1] w18 (fun t57_19 w19 =>
 DoV Tryd.prog (Instr.extract t57_19 0) w19 (fun t58_20 w20 =>
 DoV Tryd.prog (Instr.extract t57_19 1) w20 (fun t59_21 w21 =>
 CallF Tryd.prog 20 #[v1] w21 (fun t62_22 w22 =>
 DoV Tryd.prog (Instr.extract t62_22 0) w22 (fun t63_23 w23 =>
 DoV Tryd.prog (Instr.extract t62_22 1) w23 (fun t64_24 w24 =>
 JoinE [11] (fun K25 =>
 Gd (h18 11) true (DoV Tryd.prog (binS BinOp.eql 3 (Operand.tmp 67) (Operand.tmp 68) t58_20 t63_23) w24 (fun t69_26 w26 =>
 Gd t69_26 true (DoV Tryd.prog (binS BinOp.eql 28 (Operand.tmp 72) (Operand.tmp 73) t59_21 t64_24) w26 (fun t74_27 w27 =>
 K25 [t74_27] w27) (Pan R))
(K25 [(Value.bool false)] w26)) (Pan R))
(K25 [(Value.bool false)] w24))
(fun h28 w28 =>
 CallF Tryd.prog 21 #[v1, v2, t23_3] w28 (fun t80_29 w29 =>
 DoV Tryd.prog (Instr.extract t80_29 0) w29 (fun t81_30 w30 =>
 DoV Tryd.prog (Instr.extract t80_29 1) w30 (fun t82_31 w31 =>
 DoV Tryd.prog (Instr.alloc 23 true (.tuple #[])) w31 (fun t17_32 w32 =>
 DoU Tryd.prog (Instr.storeAt 23 t17_32 t81_30) w32 (fun _ w33 =>
 CallF Tryd.prog 22 #[v1, v2, t23_3] w33 (fun t87_34 w34 =>
 DoV Tryd.prog (Instr.extract t87_34 0) w34 (fun t88_35 w35 =>
 DoV Tryd.prog (Instr.extract t87_34 1) w35 (fun t89_36 w36 =>
 DoV Tryd.prog (Instr.alloc 23 true (.tuple #[])) w36 (fun t18_37 w37 =>
 DoU Tryd.prog (Instr.storeAt 23 t18_37 t88_35) w37 (fun _ w38 =>
 JoinE [11] (fun K39 =>
 Gd (h28 11) true (DoV Tryd.prog (Instr.loadAt 23 t17_32) w38 (fun t92_40 w40 =>
 DoV Tryd.prog (Instr.loadAt 23 t18_37) w40 (fun t93_41 w41 =>
 DoV Tryd.prog (binS BinOp.eql 23 (Operand.tmp 92) (Operand.tmp 93) t92_40 t93_41) w41 (fun t94_42 w42 =>
 Gd t94_42 true (DoV Tryd.prog (binS BinOp.eql 28 (Operand.tmp 97) (Operand.tmp 98) t82_31 t89_36) w42 (fun t99_43 w43 =>
 K39 [t99_43] w43) (Pan R))
(K39 [(Value.bool false)] w42)) (Pan R)) (Pan R)) (Pan R))
(K39 [(Value.bool false)] w38))
(fun h44 w44 =>
 DoV Tryd.prog (Instr.loadAt 23 t8_1) w44 (fun t103_45 w45 =>
 CallF Tryd.prog 23 #[v0, t103_45, t23_3] w45 (fun t105_46 w46 =>
 DoV Tryd.prog (Instr.extract t105_46 0) w46 (fun t106_47 w47 =>
 DoV Tryd.prog (Instr.extract t105_46 1) w47 (fun t107_48 w48 =>
 DoV Tryd.prog (Instr.loadAt 23 t8_1) w48 (fun t110_49 w49 =>
 CallF Tryd.prog 24 #[v0, t110_49, t23_3] w49 (fun t112_50 w50 =>
 DoV Tryd.prog (Instr.extract t112_50 0) w50 (fun t113_51 w51 =>
 DoV Tryd.prog (Instr.extract t112_50 1) w51 (fun t114_52 w52 =>
 Gd (h44 11) true (DoV Tryd.prog (binS BinOp.eql 4 (Operand.tmp 117) (Operand.tmp 118) t106_47 t113_51) w52 (fun t119_53 w53 =>
 Gd t119_53 true (DoV Tryd.prog (binS BinOp.eql 28 (Operand.tmp 122) (Operand.tmp 123) t107_48 t114_52) w53 (fun t124_54 w54 =>
 R (.returned t124_54) w54) (Pan R))
(R (.returned (Value.bool false)) w53)) (Pan R))
(R (.returned (Value.bool false)) w52)) (Pan R)) (Pan R)) (Pan R)) (Pan R)) (Pan R)) (Pan R)) (Pan R)) (Pan R))) (Pan R)) (Pan R)) (Pan R)) (Pan R)) (Pan R)) (Pan R)) (Pan R)) (Pan R)) (Pan R)) (Pan R))) (Pan R)) (Pan R)) (Pan R)) (Pan R)) (Pan R)) (Pan R))) (Pan R)) (Pan R)) (Pan R)) (Pan R)) (Pan R)) (Pan R))) (Pan R)) (Pan R)) (Pan R))
theorem sh_landfalllaw11_SignMatchesReference_eq (v0 v1 v2 v3 v4 : Value) (R : Ending → World → Prop) (w : World) : vc Tryd.prog [] [11] (Tryd.f3.body.getD .skip) (endE Tryd.prog Tryd.f3.results R) (argsE [v0, v1, v2, v3, v4]) [] w = sh_landfalllaw11_SignMatchesReference v0 v1 v2 v3 v4 R w := by kernel_rfl
theorem sh_landfalllaw11_SignMatchesReference_ok (v0 v1 v2 v3 v4 : Value) {R : Ending → World → Prop} {w : World} (h : sh_landfalllaw11_SignMatchesReference v0 v1 v2 v3 v4 R w) : Calls Tryd.prog 3 #[v0, v1, v2, v3, v4] w R :=
  calls_of_vc (args := [v0, v1, v2, v3, v4]) [] [11] follows_mixed Tryd.func3 rfl (of_decide_eq_true (by kernel_rfl)) (by kernel_rfl) ((sh_landfalllaw11_SignMatchesReference_eq v0 v1 v2 v3 v4 R w).symm ▸ h)
/- landfall/landfalllaw11.SignChallenges -/
def sh_landfalllaw11_SignChallenges (v0 v1 v2 v3 v4 v5 : Value) (R : Ending → World → Prop) (w : World) : Prop := (
 DoV Tryd.prog (Instr.box 23 v5) w (fun t11_1 w1 =>
 CallF Tryd.prog 13 #[] w1 (fun t32_2 w2 =>
 CallF Tryd.prog 14 #[v3] w2 (fun t34_3 w3 =>
 CallF Tryd.prog 14 #[v4] w3 (fun t36_4 w4 =>
 CallF Tryd.prog 25 #[v0] w4 (fun t39_5 w5 =>
 CallF Tryd.prog 19 #[t39_5] w5 (fun t40_6 w6 =>
 DoV Tryd.prog (Instr.extract t40_6 0) w6 (fun t41_7 w7 =>
 DoV Tryd.prog (Instr.extract t40_6 1) w7 (fun t42_8 w8 =>
 CallF Tryd.prog 25 #[v2] w8 (fun t45_9 w9 =>
 CallF Tryd.prog 19 #[t45_9] w9 (fun t46_10 w10 =>
 DoV Tryd.prog (Instr.extract t46_10 0) w10 (fun t47_11 w11 =>
 DoV Tryd.prog (Instr.extract t46_10 1) w11 (fun t48_12 w12 =>
 CallF Tryd.prog 25 #[v0] w12 (fun t51_13 w13 =>
 CallF Tryd.prog 25 #[v1] w13 (fun t53_14 w14 =>
 CallF Tryd.prog 21 #[t51_13, t53_14, t34_3] w14 (fun t55_15 w15 =>
 DoV Tryd.prog (Instr.extract t55_15 0) w15 (fun t56_16 w16 =>
 DoV Tryd.prog (Instr.extract t55_15 1) w16 (fun t57_17 w17 =>
 DoV Tryd.prog (Instr.alloc 23 true (.tuple #[])) w17 (fun t20_18 w18 =>
 DoU Tryd.prog (Instr.storeAt 23 t20_18 t56_16) w18 (fun _ w19 =>
 JoinE [] (fun K20 =>
 JoinE [67] (fun K21 =>
 DoV Tryd.prog (binS BinOp.neq 28 (Operand.tmp 58) (Operand.const (Value.int IntKind.i64 0)) t42_8 (Value.int IntKind.i64 0)) w19 (fun t59_22 w22 =>
 Gd t59_22 false (DoV Tryd.prog (binS BinOp.neq 28 (Operand.tmp 61) (Operand.const (Value.int IntKind.i64 0)) t48_12 (Value.int IntKind.i64 0)) w22 (fun t62_23 w23 =>
 Gd t62_23 false (DoV Tryd.prog (binS BinOp.neq 28 (Operand.tmp 65) (Operand.const (Value.int IntKind.i64 0)) t57_17 (Value.int IntKind.i64 0)) w23 (fun t66_24 w24 =>
 K21 [t66_24] w24) (Pan R))
(K21 [(Value.bool true)] w23)) (Pan R))
(K21 [(Value.bool true)] w22)) (Pan R))
(fun h25 w25 =>
 Br (h25 67)
(R (.returned (Value.bool false)) w25)
(K20 [] w25)))
(fun _ w26 =>
 DoV Tryd.prog (Instr.fieldAt 23 t20_18 0) w26 (fun t68_27 w27 =>
 DoV Tryd.prog (Instr.loadAt 3 t68_27) w27 (fun t69_28 w28 =>
 DoV Tryd.prog (Instr.fieldAt 23 t11_1 0) w28 (fun t70_29 w29 =>
 DoV Tryd.prog (Instr.loadAt 3 t70_29) w29 (fun t71_30 w30 =>
 DoV Tryd.prog (binS BinOp.rem 3 (Operand.tmp 71) (Operand.const (Value.int IntKind.i64 1073741789)) t71_30 (Value.int IntKind.i64 1073741789)) w30 (fun t72_31 w31 =>
 DoV Tryd.prog (binS BinOp.add 3 (Operand.tmp 69) (Operand.tmp 72) t69_28 t72_31) w31 (fun t73_32 w32 =>
 DoV Tryd.prog (binS BinOp.rem 3 (Operand.tmp 73) (Operand.const (Value.int IntKind.i64 1073741789)) t73_32 (Value.int IntKind.i64 1073741789)) w32 (fun t74_33 w33 =>
 DoV Tryd.prog (binS BinOp.add 3 (Operand.tmp 74) (Operand.const (Value.int IntKind.i64 1073741789)) t74_33 (Value.int IntKind.i64 1073741789)) w33 (fun t75_34 w34 =>
 DoV Tryd.prog (binS BinOp.rem 3 (Operand.tmp 75) (Operand.const (Value.int IntKind.i64 1073741789)) t75_34 (Value.int IntKind.i64 1073741789)) w34 (fun t76_35 w35 =>
 DoV Tryd.prog (Instr.fieldAt 23 t20_18 1) w35 (fun t77_36 w36 =>
 DoV Tryd.prog (Instr.loadAt 3 t77_36) w36 (fun t78_37 w37 =>
 DoV Tryd.prog (Instr.fieldAt 23 t11_1 1) w37 (fun t79_38 w38 =>
 DoV Tryd.prog (Instr.loadAt 3 t79_38) w38 (fun t80_39 w39 =>
 DoV Tryd.prog (binS BinOp.rem 3 (Operand.tmp 80) (Operand.const (Value.int IntKind.i64 1073741789)) t80_39 (Value.int IntKind.i64 1073741789)) w39 (fun t81_40 w40 =>
 DoV Tryd.prog (binS BinOp.add 3 (Operand.tmp 78) (Operand.tmp 81) t78_37 t81_40) w40 (fun t82_41 w41 =>
 DoV Tryd.prog (binS BinOp.rem 3 (Operand.tmp 82) (Operand.const (Value.int IntKind.i64 1073741789)) t82_41 (Value.int IntKind.i64 1073741789)) w41 (fun t83_42 w42 =>
 DoV Tryd.prog (binS BinOp.add 3 (Operand.tmp 83) (Operand.const (Value.int IntKind.i64 1073741789)) t83_42 (Value.int IntKind.i64 1073741789)) w42 (fun t84_43 w43 =>
 DoV Tryd.prog (binS BinOp.rem 3 (Operand.tmp 84) (Operand.const (Value.int IntKind.i64 1073741789)) t84_43 (Value.int IntKind.i64 1073741789)) w43 (fun t85_44 w44 =>
 DoV Tryd.prog (Instr.build 23 #[(0, t76_35), (1, t85_44)]) w44 (fun t86_45 w45 =>
 DoV Tryd.prog (Instr.alloc 23 true (.tuple #[])) w45 (fun t22_46 w46 =>
 DoU Tryd.prog (Instr.storeAt 23 t22_46 t86_45) w46 (fun _ w47 =>
 DoV Tryd.prog (Instr.loadAt 23 t22_46) w47 (fun t89_48 w48 =>
 CallF Tryd.prog 23 #[t41_7, t89_48, t34_3] w48 (fun t91_49 w49 =>
 DoV Tryd.prog (Instr.extract t91_49 0) w49 (fun t92_50 w50 =>
 DoV Tryd.prog (Instr.extract t91_49 1) w50 (fun t93_51 w51 =>
 DoV Tryd.prog (Instr.loadAt 23 t20_18) w51 (fun t96_52 w52 =>
 CallF Tryd.prog 23 #[t41_7, t96_52, t36_4] w52 (fun t98_53 w53 =>
 DoV Tryd.prog (Instr.extract t98_53 0) w53 (fun t99_54 w54 =>
 DoV Tryd.prog (Instr.extract t98_53 1) w54 (fun t100_55 w55 =>
 DoV Tryd.prog (Instr.loadAt 23 t20_18) w55 (fun t103_56 w56 =>
 CallF Tryd.prog 23 #[t47_11, t103_56, t34_3] w56 (fun t105_57 w57 =>
 DoV Tryd.prog (Instr.extract t105_57 0) w57 (fun t106_58 w58 =>
 DoV Tryd.prog (Instr.extract t105_57 1) w58 (fun t107_59 w59 =>
 DrawR w59 (fun R60 S60 w60 =>
 DetOp R60 (Both R60 S60) w60 (fun w61 K61 => DoV Tryd.prog (Instr.loadAt 23 t22_46) w61 K61 (Pan R)) (fun c109_61 ψ61 =>
 DetOp R60 (Both R60 S60) w60 (fun w62 K62 => CallF Tryd.prog 27 #[t41_7, c109_61] w62 K62 (Pan R)) (fun c110_62 ψ62 =>
 DetOp R60 (Both R60 S60) w60 (fun w63 K63 => DoV Tryd.prog (Instr.fieldAt 23 t22_46 0) w63 K63 (Pan R)) (fun c116_63 ψ63 =>
 DetOp R60 (Both R60 S60) w60 (fun w64 K64 => DoV Tryd.prog (Instr.loadAt 3 c116_63) w64 K64 (Pan R)) (fun c117_64 ψ64 =>
 ThrE R60 S60 0 w60 (fun Θ60_0 T60_0 =>
 NdC R60 S60 0 w60 Θ60_0 (fun w65 K65 => DoV Tryd.prog (Instr.buildSlice 24 2 #[(0, c110_62), (1, t41_7)]) w65 K65 (Pan R)) (fun v112_65 φ65 =>
 NdC R60 S60 0 w60 φ65 (fun w66 K66 => CallB Tryd.prog Builtin.append #[24, 24] 24 #[false, false] #[v112_65, t34_3] w66 K66 (Pan R)) (fun v114_66 φ66 =>
 NdC R60 S60 0 w60 φ66 (fun w67 K67 => CallF Tryd.prog 26 #[v114_66] w67 K67 (Pan R)) (fun v115_67 φ67 =>
 T60_0 [v112_65, v114_66, v115_67] φ67)))) (fun Φ60_0 =>
 ∀ (h68 : Nat → Value) (w69 : World), R60 w60 w69 → ((((True ∧ ψ61 w69) ∧ ψ62 w69) ∧ ψ63 w69) ∧ ψ64 w69) ∧ (True ∧ Φ60_0 [(h68 112), (h68 114), (h68 115)] w69) →
 DoV Tryd.prog (binS BinOp.eql 3 (Operand.tmp 115) (Operand.tmp 117) (h68 115) c117_64) w69 (fun t118_70 w70 =>
 DrawR w70 (fun R71 S71 w71 =>
 DetOp R71 (Both R71 S71) w71 (fun w72 K72 => DoV Tryd.prog (Instr.loadAt 23 t20_18) w72 K72 (Pan R)) (fun c120_72 ψ72 =>
 DetOp R71 (Both R71 S71) w71 (fun w73 K73 => CallF Tryd.prog 27 #[t41_7, c120_72] w73 K73 (Pan R)) (fun c121_73 ψ73 =>
 DetOp R71 (Both R71 S71) w71 (fun w74 K74 => DoV Tryd.prog (Instr.fieldAt 23 t20_18 0) w74 K74 (Pan R)) (fun c127_74 ψ74 =>
 DetOp R71 (Both R71 S71) w71 (fun w75 K75 => DoV Tryd.prog (Instr.loadAt 3 c127_74) w75 K75 (Pan R)) (fun c128_75 ψ75 =>
 ThrE R71 S71 0 w71 (fun Θ71_0 T71_0 =>
 NdC R71 S71 0 w71 Θ71_0 (fun w76 K76 => DoV Tryd.prog (Instr.buildSlice 24 2 #[(0, c121_73), (1, t41_7)]) w76 K76 (Pan R)) (fun v123_76 φ76 =>
 NdC R71 S71 0 w71 φ76 (fun w77 K77 => CallB Tryd.prog Builtin.append #[24, 24] 24 #[false, false] #[v123_76, t36_4] w77 K77 (Pan R)) (fun v125_77 φ77 =>
 NdC R71 S71 0 w71 φ77 (fun w78 K78 => CallF Tryd.prog 26 #[v125_77] w78 K78 (Pan R)) (fun v126_78 φ78 =>
 T71_0 [v123_76, v125_77, v126_78] φ78)))) (fun Φ71_0 =>
 ∀ (h79 : Nat → Value) (w80 : World), R71 w71 w80 → ((((True ∧ ψ72 w80) ∧ ψ73 w80) ∧ ψ74 w80) ∧ ψ75 w80) ∧ (True ∧ Φ71_0 [(h79 123), (h79 125), (h79 126)] w80) →
 DoV Tryd.prog (binS BinOp.eql 3 (Operand.tmp 126) (Operand.tmp 128) (h79 126) c128_75) w80 (fun t129_81 w81 =>
 DrawR w81 (fun R82 S82 w82 =>
 DetOp R82 (Both R82 S82) w82 (fun w83 K83 => DoV Tryd.prog (Instr.loadAt 23 t20_18) w83 K83 (Pan R)) (fun c131_83 ψ83 =>
 DetOp R82 (Both R82 S82) w82 (fun w84 K84 => CallF Tryd.prog 27 #[t47_11, c131_83] w84 K84 (Pan R)) (fun c132_84 ψ84 =>
 DetOp R82 (Both R82 S82) w82 (fun w85 K85 => DoV Tryd.prog (Instr.fieldAt 23 t20_18 0) w85 K85 (Pan R)) (fun c138_85 ψ85 =>
 DetOp R82 (Both R82 S82) w82 (fun w86 K86 => DoV Tryd.prog (Instr.loadAt 3 c138_85) w86 K86 (Pan R)) (fun c139_86 ψ86 =>
 ThrE R82 S82 0 w82 (fun Θ82_0 T82_0 =>
 NdC R82 S82 0 w82 Θ82_0 (fun w87 K87 => DoV Tryd.prog (Instr.buildSlice 24 2 #[(0, c132_84), (1, t47_11)]) w87 K87 (Pan R)) (fun v134_87 φ87 =>
 NdC R82 S82 0 w82 φ87 (fun w88 K88 => CallB Tryd.prog Builtin.append #[24, 24] 24 #[false, false] #[v134_87, t34_3] w88 K88 (Pan R)) (fun v136_88 φ88 =>
 NdC R82 S82 0 w82 φ88 (fun w89 K89 => CallF Tryd.prog 26 #[v136_88] w89 K89 (Pan R)) (fun v137_89 φ89 =>
 T82_0 [v134_87, v136_88, v137_89] φ89)))) (fun Φ82_0 =>
 ∀ (h90 : Nat → Value) (w91 : World), R82 w82 w91 → ((((True ∧ ψ83 w91) ∧ ψ84 w91) ∧ ψ85 w91) ∧ ψ86 w91) ∧ (True ∧ Φ82_0 [(h90 134), (h90 136), (h90 137)] w91) →
 DoV Tryd.prog (binS BinOp.eql 3 (Operand.tmp 137) (Operand.tmp 139) (h90 137) c139_86) w91 (fun t140_92 w92 =>
 Gd t32_2 true (DoV Tryd.prog (binS BinOp.eql 28 (Operand.tmp 143) (Operand.const (Value.int IntKind.i64 0)) t93_51 (Value.int IntKind.i64 0)) w92 (fun t144_93 w93 =>
 Gd t144_93 true (DoV Tryd.prog (binS BinOp.eql 28 (Operand.tmp 147) (Operand.const (Value.int IntKind.i64 0)) t100_55 (Value.int IntKind.i64 0)) w93 (fun t148_94 w94 =>
 Gd t148_94 true (DoV Tryd.prog (binS BinOp.eql 28 (Operand.tmp 151) (Operand.const (Value.int IntKind.i64 0)) t107_59 (Value.int IntKind.i64 0)) w94 (fun t152_95 w95 =>
 Gd t152_95 true (DoV Tryd.prog (binS BinOp.eql 4 (Operand.tmp 155) (Operand.tmp 156) t92_50 t118_70) w95 (fun t157_96 w96 =>
 Gd t157_96 true (DoV Tryd.prog (binS BinOp.eql 4 (Operand.tmp 160) (Operand.tmp 161) t99_54 t129_81) w96 (fun t162_97 w97 =>
 Gd t162_97 true (DoV Tryd.prog (binS BinOp.eql 4 (Operand.tmp 165) (Operand.tmp 166) t106_58 t140_92) w97 (fun t167_98 w98 =>
 R (.returned t167_98) w98) (Pan R))
(R (.returned (Value.bool false)) w97)) (Pan R))
(R (.returned (Value.bool false)) w96)) (Pan R))
(R (.returned (Value.bool false)) w95)) (Pan R))
(R (.returned (Value.bool false)) w94)) (Pan R))
(R (.returned (Value.bool false)) w93)) (Pan R))
(R (.returned (Value.bool false)) w92)) (Pan R)))))))) (Pan R)))))))) (Pan R)))))))) (Pan R)) (Pan R)) (Pan R)) (Pan R)) (Pan R)) (Pan R)) (Pan R)) (Pan R)) (Pan R)) (Pan R)) (Pan R)) (Pan R)) (Pan R)) (Pan R)) (Pan R)) (Pan R)) (Pan R)) (Pan R)) (Pan R)) (Pan R)) (Pan R)) (Pan R)) (Pan R)) (Pan R)) (Pan R)) (Pan R)) (Pan R)) (Pan R)) (Pan R)) (Pan R)) (Pan R)) (Pan R)) (Pan R))) (Pan R)) (Pan R)) (Pan R)) (Pan R)) (Pan R)) (Pan R)) (Pan R)) (Pan R)) (Pan R)) (Pan R)) (Pan R)) (Pan R)) (Pan R)) (Pan R)) (Pan R)) (Pan R)) (Pan R)) (Pan R)) (Pan R))
theorem sh_landfalllaw11_SignChallenges_eq (v0 v1 v2 v3 v4 v5 : Value) (R : Ending → World → Prop) (w : World) : vc Tryd.prog [(12, 10, false, 2364392), (13, 10, false, 2364392), (14, 10, false, 2364392)] [] (Tryd.f4.body.getD .skip) (endE Tryd.prog Tryd.f4.results R) (argsE [v0, v1, v2, v3, v4, v5]) [] w = sh_landfalllaw11_SignChallenges v0 v1 v2 v3 v4 v5 R w := by kernel_rfl
theorem sh_landfalllaw11_SignChallenges_ok (v0 v1 v2 v3 v4 v5 : Value) {R : Ending → World → Prop} {w : World} (h : sh_landfalllaw11_SignChallenges v0 v1 v2 v3 v4 v5 R w) : Calls Tryd.prog 4 #[v0, v1, v2, v3, v4, v5] w R :=
  calls_of_vc (args := [v0, v1, v2, v3, v4, v5]) [(12, 10, false, 2364392), (13, 10, false, 2364392), (14, 10, false, 2364392)] [] follows_mixed Tryd.func4 rfl (of_decide_eq_true (by kernel_rfl)) (by kernel_rfl) ((sh_landfalllaw11_SignChallenges_eq v0 v1 v2 v3 v4 v5 R w).symm ▸ h)
/- landfall/landfalllaw11.SignOnce -/
def sh_landfalllaw11_SignOnce (v0 v1 v2 v3 : Value) (R : Ending → World → Prop) (w : World) : Prop := (
 CallF Tryd.prog 13 #[] w (fun t16_1 w1 =>
 CallF Tryd.prog 25 #[v0] w1 (fun t19_2 w2 =>
 CallF Tryd.prog 25 #[v1] w2 (fun t21_3 w3 =>
 CallF Tryd.prog 14 #[v2] w3 (fun t23_4 w4 =>
 CallF Tryd.prog 21 #[t19_2, t21_3, t23_4] w4 (fun t24_5 w5 =>
 DoV Tryd.prog (Instr.extract t24_5 0) w5 (fun t25_6 w6 =>
 DoV Tryd.prog (Instr.extract t24_5 1) w6 (fun t26_7 w7 =>
 DoV Tryd.prog (Instr.alloc 23 true (.tuple #[])) w7 (fun t10_8 w8 =>
 DoU Tryd.prog (Instr.storeAt 23 t10_8 t25_6) w8 (fun _ w9 =>
 CallF Tryd.prog 25 #[v0] w9 (fun t29_10 w10 =>
 CallF Tryd.prog 25 #[v1] w10 (fun t31_11 w11 =>
 CallF Tryd.prog 14 #[v3] w11 (fun t33_12 w12 =>
 CallF Tryd.prog 21 #[t29_10, t31_11, t33_12] w12 (fun t34_13 w13 =>
 DoV Tryd.prog (Instr.extract t34_13 0) w13 (fun t35_14 w14 =>
 DoV Tryd.prog (Instr.extract t34_13 1) w14 (fun t36_15 w15 =>
 DoV Tryd.prog (Instr.alloc 23 true (.tuple #[])) w15 (fun t12_16 w16 =>
 DoU Tryd.prog (Instr.storeAt 23 t12_16 t35_14) w16 (fun _ w17 =>
 JoinE [] (fun K18 =>
 JoinE [42] (fun K19 =>
 DoV Tryd.prog (binS BinOp.neq 28 (Operand.tmp 37) (Operand.const (Value.int IntKind.i64 0)) t26_7 (Value.int IntKind.i64 0)) w17 (fun t38_20 w20 =>
 Gd t38_20 false (DoV Tryd.prog (binS BinOp.neq 28 (Operand.tmp 40) (Operand.const (Value.int IntKind.i64 0)) t36_15 (Value.int IntKind.i64 0)) w20 (fun t41_21 w21 =>
 K19 [t41_21] w21) (Pan R))
(K19 [(Value.bool true)] w20)) (Pan R))
(fun h22 w22 =>
 Br (h22 42)
(R (.returned (Value.bool false)) w22)
(K18 [] w22)))
(fun _ w23 =>
 DoV Tryd.prog (Instr.fieldAt 23 t10_8 0) w23 (fun t43_24 w24 =>
 DoV Tryd.prog (Instr.loadAt 3 t43_24) w24 (fun t44_25 w25 =>
 DoV Tryd.prog (Instr.fieldAt 23 t12_16 0) w25 (fun t45_26 w26 =>
 DoV Tryd.prog (Instr.loadAt 3 t45_26) w26 (fun t46_27 w27 =>
 DoV Tryd.prog (binS BinOp.eql 3 (Operand.tmp 44) (Operand.tmp 46) t44_25 t46_27) w27 (fun t47_28 w28 =>
 Br t47_28
(Gd t16_1 true (DoV Tryd.prog (Instr.loadAt 23 t10_8) w28 (fun t50_29 w29 =>
 DoV Tryd.prog (Instr.loadAt 23 t12_16) w29 (fun t51_30 w30 =>
 DoV Tryd.prog (binS BinOp.eql 23 (Operand.tmp 50) (Operand.tmp 51) t50_29 t51_30) w30 (fun t52_31 w31 =>
 R (.returned t52_31) w31) (Pan R)) (Pan R)) (Pan R))
(R (.returned (Value.bool false)) w28))
(DoV Tryd.prog (Instr.fieldAt 23 t10_8 0) w28 (fun t54_32 w32 =>
 DoV Tryd.prog (Instr.loadAt 3 t54_32) w32 (fun t55_33 w33 =>
 DoV Tryd.prog (Instr.fieldAt 23 t12_16 0) w33 (fun t56_34 w34 =>
 DoV Tryd.prog (Instr.loadAt 3 t56_34) w34 (fun t57_35 w35 =>
 DoV Tryd.prog (binS BinOp.sub 3 (Operand.tmp 55) (Operand.tmp 57) t55_33 t57_35) w35 (fun t58_36 w36 =>
 DoV Tryd.prog (binS BinOp.add 3 (Operand.tmp 58) (Operand.const (Value.int IntKind.i64 1073741789)) t58_36 (Value.int IntKind.i64 1073741789)) w36 (fun t59_37 w37 =>
 DoV Tryd.prog (binS BinOp.rem 3 (Operand.tmp 59) (Operand.const (Value.int IntKind.i64 1073741789)) t59_37 (Value.int IntKind.i64 1073741789)) w37 (fun t60_38 w38 =>
 DrawE w38 (fun Rs39 Rb39 w39 =>
 DetOp Rb39 Rs39 w39 (fun w40 K40 => DoV Tryd.prog (Instr.fieldAt 23 t10_8 1) w40 K40 (Pan R)) (fun c61_40 ψ40 =>
 DetOp Rb39 Rs39 w39 (fun w41 K41 => DoV Tryd.prog (Instr.loadAt 3 c61_40) w41 K41 (Pan R)) (fun c62_41 ψ41 =>
 DetOp Rb39 Rs39 w39 (fun w42 K42 => DoV Tryd.prog (Instr.fieldAt 23 t12_16 1) w42 K42 (Pan R)) (fun c63_42 ψ42 =>
 DetOp Rb39 Rs39 w39 (fun w43 K43 => DoV Tryd.prog (Instr.loadAt 3 c63_42) w43 K43 (Pan R)) (fun c64_43 ψ43 =>
 DetOp Rb39 Rs39 w39 (fun w44 K44 => DoV Tryd.prog (binS BinOp.sub 3 (Operand.tmp 62) (Operand.tmp 64) c62_41 c64_43) w44 K44 (Pan R)) (fun c65_44 ψ44 =>
 DetOp Rb39 Rs39 w39 (fun w45 K45 => DoV Tryd.prog (binS BinOp.add 3 (Operand.tmp 65) (Operand.const (Value.int IntKind.i64 1073741789)) c65_44 (Value.int IntKind.i64 1073741789)) w45 K45 (Pan R)) (fun c66_45 ψ45 =>
 DetOp Rb39 Rs39 w39 (fun w46 K46 => DoV Tryd.prog (binS BinOp.rem 3 (Operand.tmp 66) (Operand.const (Value.int IntKind.i64 1073741789)) c66_45 (Value.int IntKind.i64 1073741789)) w46 K46 (Pan R)) (fun c67_46 ψ46 =>
 DetOp Rs39 Rb39 w39 (fun w47 K47 => CallF Tryd.prog 28 #[t60_38, (Value.int IntKind.i64 1073741787), (Value.int IntKind.i64 1073741789)] w47 K47 (Pan R)) (fun c69_47 ψ47 =>
 ∀ w48, Rb39 w39 w48 → ((((((((True ∧ ψ40 w48) ∧ ψ41 w48) ∧ ψ42 w48) ∧ ψ43 w48) ∧ ψ44 w48) ∧ ψ45 w48) ∧ ψ46 w48) ∧ ψ47 w48) →
 DoV Tryd.prog (binS BinOp.mul 3 (Operand.tmp 67) (Operand.tmp 69) c67_46 c69_47) w48 (fun t70_49 w49 =>
 DoV Tryd.prog (binS BinOp.rem 3 (Operand.tmp 70) (Operand.const (Value.int IntKind.i64 1073741789)) t70_49 (Value.int IntKind.i64 1073741789)) w49 (fun t71_50 w50 =>
 Gd t16_1 true (CallF Tryd.prog 25 #[v0] w50 (fun t76_51 w51 =>
 DoV Tryd.prog (binS BinOp.eql 3 (Operand.tmp 74) (Operand.tmp 76) t71_50 t76_51) w51 (fun t77_52 w52 =>
 R (.returned t77_52) w52) (Pan R)) (Pan R))
(R (.returned (Value.bool false)) w50)) (Pan R)) (Pan R))))))))))) (Pan R)) (Pan R)) (Pan R)) (Pan R)) (Pan R)) (Pan R)) (Pan R))) (Pan R)) (Pan R)) (Pan R)) (Pan R)) (Pan R))) (Pan R)) (Pan R)) (Pan R)) (Pan R)) (Pan R)) (Pan R)) (Pan R)) (Pan R)) (Pan R)) (Pan R)) (Pan R)) (Pan R)) (Pan R)) (Pan R)) (Pan R)) (Pan R)) (Pan R))
theorem sh_landfalllaw11_SignOnce_eq (v0 v1 v2 v3 : Value) (R : Ending → World → Prop) (w : World) : vc Tryd.prog [(9, 9, false, 9)] [] (Tryd.f5.body.getD .skip) (endE Tryd.prog Tryd.f5.results R) (argsE [v0, v1, v2, v3]) [] w = sh_landfalllaw11_SignOnce v0 v1 v2 v3 R w := by kernel_rfl
theorem sh_landfalllaw11_SignOnce_ok (v0 v1 v2 v3 : Value) {R : Ending → World → Prop} {w : World} (h : sh_landfalllaw11_SignOnce v0 v1 v2 v3 R w) : Calls Tryd.prog 5 #[v0, v1, v2, v3] w R :=
  calls_of_vc (args := [v0, v1, v2, v3]) [(9, 9, false, 9)] [] follows_mixed Tryd.func5 rfl (of_decide_eq_true (by kernel_rfl)) (by kernel_rfl) ((sh_landfalllaw11_SignOnce_eq v0 v1 v2 v3 R w).symm ▸ h)
/- landfall/landfalllaw11.head -/
def sh_landfalllaw11_head (R : Ending → World → Prop) (w : World) : Prop := (
 CallF Tryd.prog 17 #[(Value.int IntKind.i64 4), (Value.int IntKind.i64 3)] w (fun t13_1 w1 =>
 DoV Tryd.prog (Instr.extract t13_1 0) w1 (fun t14_2 w2 =>
 DoV Tryd.prog (Instr.extract t13_1 1) w2 (fun t15_3 w3 =>
 CallF Tryd.prog 19 #[(Value.int IntKind.i64 5)] w3 (fun t17_4 w4 =>
 DoV Tryd.prog (Instr.extract t17_4 0) w4 (fun t18_5 w5 =>
 DoV Tryd.prog (Instr.extract t17_4 1) w5 (fun t19_6 w6 =>
 DoV Tryd.prog (Instr.buildSlice 24 2 #[(0, (Value.int IntKind.i64 1)), (1, (Value.int IntKind.i64 2))]) w6 (fun t21_7 w7 =>
 CallF Tryd.prog 21 #[(Value.int IntKind.i64 5), (Value.int IntKind.i64 7), t21_7] w7 (fun t22_8 w8 =>
 DoV Tryd.prog (Instr.extract t22_8 0) w8 (fun t23_9 w9 =>
 DoV Tryd.prog (Instr.extract t22_8 1) w9 (fun t24_10 w10 =>
 DoV Tryd.prog (Instr.alloc 23 true (.tuple #[])) w10 (fun t5_11 w11 =>
 DoU Tryd.prog (Instr.storeAt 23 t5_11 t23_9) w11 (fun _ w12 =>
 DoV Tryd.prog (Instr.loadAt 23 t5_11) w12 (fun t26_13 w13 =>
 DoV Tryd.prog (Instr.buildSlice 24 2 #[(0, (Value.int IntKind.i64 1)), (1, (Value.int IntKind.i64 2))]) w13 (fun t27_14 w14 =>
 CallF Tryd.prog 23 #[(Value.int IntKind.i64 1024), t26_13, t27_14] w14 (fun t28_15 w15 =>
 DoV Tryd.prog (Instr.extract t28_15 0) w15 (fun t29_16 w16 =>
 DoV Tryd.prog (Instr.extract t28_15 1) w16 (fun t30_17 w17 =>
 CallF Tryd.prog 19 #[(Value.int IntKind.i64 0)] w17 (fun t32_18 w18 =>
 DoV Tryd.prog (Instr.extract t32_18 0) w18 (fun _ w19 =>
 DoV Tryd.prog (Instr.extract t32_18 1) w19 (fun t34_20 w20 =>
 JoinE [11] (fun K21 =>
 DoV Tryd.prog (binS BinOp.eql 28 (Operand.tmp 35) (Operand.const (Value.int IntKind.i64 0)) t15_3 (Value.int IntKind.i64 0)) w20 (fun t36_22 w22 =>
 Gd t36_22 true (DoV Tryd.prog (binS BinOp.eql 28 (Operand.tmp 38) (Operand.const (Value.int IntKind.i64 0)) t19_6 (Value.int IntKind.i64 0)) w22 (fun t39_23 w23 =>
 Gd t39_23 true (DoV Tryd.prog (binS BinOp.eql 28 (Operand.tmp 42) (Operand.const (Value.int IntKind.i64 0)) t24_10 (Value.int IntKind.i64 0)) w23 (fun t43_24 w24 =>
 Gd t43_24 true (DoV Tryd.prog (binS BinOp.eql 28 (Operand.tmp 46) (Operand.const (Value.int IntKind.i64 0)) t30_17 (Value.int IntKind.i64 0)) w24 (fun t47_25 w25 =>
 Gd t47_25 true (DoV Tryd.prog (binS BinOp.eql 28 (Operand.tmp 50) (Operand.const (Value.int IntKind.i64 1)) t34_20 (Value.int IntKind.i64 1)) w25 (fun t51_26 w26 =>
 K21 [t51_26] w26) (Pan R))
(K21 [(Value.bool false)] w25)) (Pan R))
(K21 [(Value.bool false)] w24)) (Pan R))
(K21 [(Value.bool false)] w23)) (Pan R))
(K21 [(Value.bool false)] w22)) (Pan R))
(fun h27 w27 =>
 Gd (h27 11) true (DoV Tryd.prog (binS BinOp.eql 3 (Operand.tmp 55) (Operand.const (Value.int IntKind.i64 64)) t14_2 (Value.int IntKind.i64 64)) w27 (fun t56_28 w28 =>
 Gd t56_28 true (DoV Tryd.prog (binS BinOp.eql 3 (Operand.tmp 59) (Operand.const (Value.int IntKind.i64 1024)) t18_5 (Value.int IntKind.i64 1024)) w28 (fun t60_29 w29 =>
 Gd t60_29 true (Gd t29_16 true (CallF Tryd.prog 15 #[(Value.int IntKind.i64 4)] w29 (fun t66_30 w30 =>
 Gd t66_30 true (CallF Tryd.prog 15 #[(Value.int IntKind.i64 9)] w30 (fun t69_31 w31 =>
 Gd t69_31 true (CallF Tryd.prog 15 #[(Value.int IntKind.i64 2)] w31 (fun t72_32 w32 =>
 DoV Tryd.prog (Op.unary UnOp.not t72_32) w32 (fun t73_33 w33 =>
 Gd t73_33 true (CallF Tryd.prog 15 #[(Value.int IntKind.i64 0)] w33 (fun t76_34 w34 =>
 DoV Tryd.prog (Op.unary UnOp.not t76_34) w34 (fun t77_35 w35 =>
 R (.returned t77_35) w35) (Pan R)) (Pan R))
(R (.returned (Value.bool false)) w33)) (Pan R)) (Pan R))
(R (.returned (Value.bool false)) w31)) (Pan R))
(R (.returned (Value.bool false)) w30)) (Pan R))
(R (.returned (Value.bool false)) w29))
(R (.returned (Value.bool false)) w29)) (Pan R))
(R (.returned (Value.bool false)) w28)) (Pan R))
(R (.returned (Value.bool false)) w27))) (Pan R)) (Pan R)) (Pan R)) (Pan R)) (Pan R)) (Pan R)) (Pan R)) (Pan R)) (Pan R)) (Pan R)) (Pan R)) (Pan R)) (Pan R)) (Pan R)) (Pan R)) (Pan R)) (Pan R)) (Pan R)) (Pan R)) (Pan R))
theorem sh_landfalllaw11_head_eq (R : Ending → World → Prop) (w : World) : vc Tryd.prog [] [11] (Tryd.f13.body.getD .skip) (endE Tryd.prog Tryd.f13.results R) (argsE []) [] w = sh_landfalllaw11_head  R w := by kernel_rfl
theorem sh_landfalllaw11_head_ok {R : Ending → World → Prop} {w : World} (h : sh_landfalllaw11_head  R w) : Calls Tryd.prog 13 #[] w R :=
  calls_of_vc (args := []) [] [11] follows_mixed Tryd.func13 rfl (of_decide_eq_true (by kernel_rfl)) (by kernel_rfl) ((sh_landfalllaw11_head_eq  R w).symm ▸ h)
/- landfall/landfalllaw11.few -/
def sh_landfalllaw11_few (v0 : Value) (R : Ending → World → Prop) (w : World) : Prop := (
 CallB Tryd.prog Builtin.len #[24] 3 #[false] #[v0] w (fun t5_1 w1 =>
 CallB Tryd.prog Builtin.min #[3, 3] 3 #[false, true] #[t5_1, (Value.int IntKind.i64 20)] w1 (fun t6_2 w2 =>
 DoV Tryd.prog (Instr.sliceAt 24 v0 none (some t6_2) none) w2 (fun t7_3 w3 =>
 R (.returned t7_3) w3) (Pan R)) (Pan R)) (Pan R))
theorem sh_landfalllaw11_few_eq (v0 : Value) (R : Ending → World → Prop) (w : World) : vc Tryd.prog [] [] (Tryd.f14.body.getD .skip) (endE Tryd.prog Tryd.f14.results R) (argsE [v0]) [] w = sh_landfalllaw11_few v0 R w := by kernel_rfl
theorem sh_landfalllaw11_few_ok (v0 : Value) {R : Ending → World → Prop} {w : World} (h : sh_landfalllaw11_few v0 R w) : Calls Tryd.prog 14 #[v0] w R :=
  calls_of_vc (args := [v0]) [] [] follows_mixed Tryd.func14 rfl (of_decide_eq_true (by kernel_rfl)) (by kernel_rfl) ((sh_landfalllaw11_few_eq v0 R w).symm ▸ h)
/- landfall/sign.Member -/
def sh_sign_Member (v0 : Value) (R : Ending → World → Prop) (w : World) : Prop := (
 DoV Tryd.prog (binS BinOp.geq 3 (Operand.tmp 3) (Operand.const (Value.int IntKind.i64 1)) v0 (Value.int IntKind.i64 1)) w (fun t4_1 w1 =>
 Gd t4_1 true (DoV Tryd.prog (binS BinOp.lss 3 (Operand.tmp 6) (Operand.const (Value.int IntKind.i64 2147483579)) v0 (Value.int IntKind.i64 2147483579)) w1 (fun t7_2 w2 =>
 Gd t7_2 true (CallF Tryd.prog 50 #[v0, (Value.int IntKind.i64 1073741789)] w2 (fun t11_3 w3 =>
 DoV Tryd.prog (binS BinOp.eql 3 (Operand.tmp 11) (Operand.const (Value.int IntKind.i64 1)) t11_3 (Value.int IntKind.i64 1)) w3 (fun t12_4 w4 =>
 R (.returned t12_4) w4) (Pan R)) (Pan R))
(R (.returned (Value.bool false)) w2)) (Pan R))
(R (.returned (Value.bool false)) w1)) (Pan R))
theorem sh_sign_Member_eq (v0 : Value) (R : Ending → World → Prop) (w : World) : vc Tryd.prog [] [] (Tryd.f15.body.getD .skip) (endE Tryd.prog Tryd.f15.results R) (argsE [v0]) [] w = sh_sign_Member v0 R w := by kernel_rfl
theorem sh_sign_Member_ok (v0 : Value) {R : Ending → World → Prop} {w : World} (h : sh_sign_Member v0 R w) : Calls Tryd.prog 15 #[v0] w R :=
  calls_of_vc (args := [v0]) [] [] follows_mixed Tryd.func15 rfl (of_decide_eq_true (by kernel_rfl)) (by kernel_rfl) ((sh_sign_Member_eq v0 R w).symm ▸ h)
/- landfall/landfallref11.Member -/
def sh_landfallref11_Member (v0 : Value) (R : Ending → World → Prop) (w : World) : Prop := (
 DoV Tryd.prog (binS BinOp.geq 3 (Operand.tmp 3) (Operand.const (Value.int IntKind.i64 1)) v0 (Value.int IntKind.i64 1)) w (fun t4_1 w1 =>
 Gd t4_1 true (DoV Tryd.prog (binS BinOp.lss 3 (Operand.tmp 6) (Operand.const (Value.int IntKind.i64 2147483579)) v0 (Value.int IntKind.i64 2147483579)) w1 (fun t7_2 w2 =>
 Gd t7_2 true (CallF Tryd.prog 28 #[v0, (Value.int IntKind.i64 1073741789), (Value.int IntKind.i64 2147483579)] w2 (fun t11_3 w3 =>
 DoV Tryd.prog (binS BinOp.eql 3 (Operand.tmp 11) (Operand.const (Value.int IntKind.i64 1)) t11_3 (Value.int IntKind.i64 1)) w3 (fun t12_4 w4 =>
 R (.returned t12_4) w4) (Pan R)) (Pan R))
(R (.returned (Value.bool false)) w2)) (Pan R))
(R (.returned (Value.bool false)) w1)) (Pan R))
theorem sh_landfallref11_Member_eq (v0 : Value) (R : Ending → World → Prop) (w : World) : vc Tryd.prog [] [] (Tryd.f16.body.getD .skip) (endE Tryd.prog Tryd.f16.results R) (argsE [v0]) [] w = sh_landfallref11_Member v0 R w := by kernel_rfl
theorem sh_landfallref11_Member_ok (v0 : Value) {R : Ending → World → Prop} {w : World} (h : sh_landfallref11_Member v0 R w) : Calls Tryd.prog 16 #[v0] w R :=
  calls_of_vc (args := [v0]) [] [] follows_mixed Tryd.func16 rfl (of_decide_eq_true (by kernel_rfl)) (by kernel_rfl) ((sh_landfallref11_Member_eq v0 R w).symm ▸ h)
/- landfall/sign.Exp -/
def sh_sign_Exp (v0 v1 : Value) (R : Ending → World → Prop) (w : World) : Prop := (
 JoinE [] (fun K1 =>
 JoinE [13] (fun K2 =>
 CallF Tryd.prog 15 #[v0] w (fun t7_3 w3 =>
 DoV Tryd.prog (Op.unary UnOp.not t7_3) w3 (fun t8_4 w4 =>
 Gd t8_4 false (CallF Tryd.prog 51 #[v1, (Value.int IntKind.i64 0)] w4 (fun t11_5 w5 =>
 DoV Tryd.prog (Op.unary UnOp.not t11_5) w5 (fun t12_6 w6 =>
 K2 [t12_6] w6) (Pan R)) (Pan R))
(K2 [(Value.bool true)] w4)) (Pan R)) (Pan R))
(fun h7 w7 =>
 Br (h7 13)
(R (.returned (Value.tuple #[(Value.int IntKind.i64 0), (Value.int IntKind.i64 1)])) w7)
(K1 [] w7)))
(fun _ w8 =>
 CallF Tryd.prog 50 #[v0, v1] w8 (fun t16_9 w9 =>
 R (.returned (Value.tuple #[t16_9, (Value.int IntKind.i64 0)])) w9) (Pan R)))
theorem sh_sign_Exp_eq (v0 v1 : Value) (R : Ending → World → Prop) (w : World) : vc Tryd.prog [] [] (Tryd.f17.body.getD .skip) (endE Tryd.prog Tryd.f17.results R) (argsE [v0, v1]) [] w = sh_sign_Exp v0 v1 R w := by kernel_rfl
theorem sh_sign_Exp_ok (v0 v1 : Value) {R : Ending → World → Prop} {w : World} (h : sh_sign_Exp v0 v1 R w) : Calls Tryd.prog 17 #[v0, v1] w R :=
  calls_of_vc (args := [v0, v1]) [] [] follows_mixed Tryd.func17 rfl (of_decide_eq_true (by kernel_rfl)) (by kernel_rfl) ((sh_sign_Exp_eq v0 v1 R w).symm ▸ h)
/- landfall/landfallref11.Exp -/
def sh_landfallref11_Exp (v0 v1 : Value) (R : Ending → World → Prop) (w : World) : Prop := (
 CallF Tryd.prog 16 #[v0] w (fun t9_1 w1 =>
 CallF Tryd.prog 52 #[v1] w1 (fun t11_2 w2 =>
 JoinE [] (fun K3 =>
 JoinE [17] (fun K4 =>
 DoV Tryd.prog (Op.unary UnOp.not t9_1) w2 (fun t13_5 w5 =>
 Gd t13_5 false (DoV Tryd.prog (Op.unary UnOp.not t11_2) w5 (fun t16_6 w6 =>
 K4 [t16_6] w6) (Pan R))
(K4 [(Value.bool true)] w5)) (Pan R))
(fun h7 w7 =>
 Br (h7 17)
(R (.returned (Value.tuple #[(Value.int IntKind.i64 0), (Value.int IntKind.i64 1)])) w7)
(K3 [] w7)))
(fun _ w8 =>
 CallF Tryd.prog 28 #[v0, v1, (Value.int IntKind.i64 2147483579)] w8 (fun t20_9 w9 =>
 R (.returned (Value.tuple #[t20_9, (Value.int IntKind.i64 0)])) w9) (Pan R))) (Pan R)) (Pan R))
theorem sh_landfallref11_Exp_eq (v0 v1 : Value) (R : Ending → World → Prop) (w : World) : vc Tryd.prog [] [] (Tryd.f18.body.getD .skip) (endE Tryd.prog Tryd.f18.results R) (argsE [v0, v1]) [] w = sh_landfallref11_Exp v0 v1 R w := by kernel_rfl
theorem sh_landfallref11_Exp_ok (v0 v1 : Value) {R : Ending → World → Prop} {w : World} (h : sh_landfallref11_Exp v0 v1 R w) : Calls Tryd.prog 18 #[v0, v1] w R :=
  calls_of_vc (args := [v0, v1]) [] [] follows_mixed Tryd.func18 rfl (of_decide_eq_true (by kernel_rfl)) (by kernel_rfl) ((sh_landfallref11_Exp_eq v0 v1 R w).symm ▸ h)
/- landfall/sign.Public -/
def sh_sign_Public (v0 : Value) (R : Ending → World → Prop) (w : World) : Prop := (
 CallF Tryd.prog 51 #[v0, (Value.int IntKind.i64 1)] w (fun t5_1 w1 =>
 DoV Tryd.prog (Op.unary UnOp.not t5_1) w1 (fun t6_2 w2 =>
 Br t6_2
(R (.returned (Value.tuple #[(Value.int IntKind.i64 0), (Value.int IntKind.i64 1)])) w2)
(CallF Tryd.prog 50 #[(Value.int IntKind.i64 4), v0] w2 (fun t8_3 w3 =>
 R (.returned (Value.tuple #[t8_3, (Value.int IntKind.i64 0)])) w3) (Pan R))) (Pan R)) (Pan R))
theorem sh_sign_Public_eq (v0 : Value) (R : Ending → World → Prop) (w : World) : vc Tryd.prog [] [] (Tryd.f19.body.getD .skip) (endE Tryd.prog Tryd.f19.results R) (argsE [v0]) [] w = sh_sign_Public v0 R w := by kernel_rfl
theorem sh_sign_Public_ok (v0 : Value) {R : Ending → World → Prop} {w : World} (h : sh_sign_Public v0 R w) : Calls Tryd.prog 19 #[v0] w R :=
  calls_of_vc (args := [v0]) [] [] follows_mixed Tryd.func19 rfl (of_decide_eq_true (by kernel_rfl)) (by kernel_rfl) ((sh_sign_Public_eq v0 R w).symm ▸ h)
/- landfall/landfallref11.Public -/
def sh_landfallref11_Public (v0 : Value) (R : Ending → World → Prop) (w : World) : Prop := (
 CallF Tryd.prog 53 #[v0] w (fun t6_1 w1 =>
 DoV Tryd.prog (Op.unary UnOp.not t6_1) w1 (fun t8_2 w2 =>
 Br t8_2
(R (.returned (Value.tuple #[(Value.int IntKind.i64 0), (Value.int IntKind.i64 1)])) w2)
(CallF Tryd.prog 28 #[(Value.int IntKind.i64 4), v0, (Value.int IntKind.i64 2147483579)] w2 (fun t10_3 w3 =>
 R (.returned (Value.tuple #[t10_3, (Value.int IntKind.i64 0)])) w3) (Pan R))) (Pan R)) (Pan R))
theorem sh_landfallref11_Public_eq (v0 : Value) (R : Ending → World → Prop) (w : World) : vc Tryd.prog [] [] (Tryd.f20.body.getD .skip) (endE Tryd.prog Tryd.f20.results R) (argsE [v0]) [] w = sh_landfallref11_Public v0 R w := by kernel_rfl
theorem sh_landfallref11_Public_ok (v0 : Value) {R : Ending → World → Prop} {w : World} (h : sh_landfallref11_Public v0 R w) : Calls Tryd.prog 20 #[v0] w R :=
  calls_of_vc (args := [v0]) [] [] follows_mixed Tryd.func20 rfl (of_decide_eq_true (by kernel_rfl)) (by kernel_rfl) ((sh_landfallref11_Public_eq v0 R w).symm ▸ h)
/- landfall/sign.Sign -/
def sh_sign_Sign (v0 v1 v2 : Value) (R : Ending → World → Prop) (w : World) : Prop := (
 DoV Tryd.prog (Instr.alloc 23 true (.tuple #[])) w (fun t6_1 w1 =>
 JoinE [] (fun K2 =>
 JoinE [15] (fun K3 =>
 CallF Tryd.prog 51 #[v0, (Value.int IntKind.i64 1)] w1 (fun t9_4 w4 =>
 DoV Tryd.prog (Op.unary UnOp.not t9_4) w4 (fun t10_5 w5 =>
 Gd t10_5 false (CallF Tryd.prog 51 #[v1, (Value.int IntKind.i64 1)] w5 (fun t13_6 w6 =>
 DoV Tryd.prog (Op.unary UnOp.not t13_6) w6 (fun t14_7 w7 =>
 K3 [t14_7] w7) (Pan R)) (Pan R))
(K3 [(Value.bool true)] w5)) (Pan R)) (Pan R))
(fun h8 w8 =>
 Br (h8 15)
(DoV Tryd.prog (Instr.build 23 #[]) w8 (fun t16_9 w9 =>
 DoU Tryd.prog (Instr.storeAt 23 t6_1 t16_9) w9 (fun _ w10 =>
 Res Tryd.prog [.cell t6_1 23, .tmp (Value.int IntKind.i64 1)] w10 R) (Pan R)) (Pan R))
(K2 [] w8)))
(fun _ w11 =>
 CallF Tryd.prog 54 #[v0, v1, v2] w11 (fun t20_12 w12 =>
 DoU Tryd.prog (Instr.storeAt 23 t6_1 t20_12) w12 (fun _ w13 =>
 Res Tryd.prog [.cell t6_1 23, .tmp (Value.int IntKind.i64 0)] w13 R) (Pan R)) (Pan R))) (Pan R))
theorem sh_sign_Sign_eq (v0 v1 v2 : Value) (R : Ending → World → Prop) (w : World) : vc Tryd.prog [] [] (Tryd.f21.body.getD .skip) (endE Tryd.prog Tryd.f21.results R) (argsE [v0, v1, v2]) [] w = sh_sign_Sign v0 v1 v2 R w := by kernel_rfl
theorem sh_sign_Sign_ok (v0 v1 v2 : Value) {R : Ending → World → Prop} {w : World} (h : sh_sign_Sign v0 v1 v2 R w) : Calls Tryd.prog 21 #[v0, v1, v2] w R :=
  calls_of_vc (args := [v0, v1, v2]) [] [] follows_mixed Tryd.func21 rfl (of_decide_eq_true (by kernel_rfl)) (by kernel_rfl) ((sh_sign_Sign_eq v0 v1 v2 R w).symm ▸ h)
/- landfall/landfallref11.Sign -/
def sh_landfallref11_Sign (v0 v1 v2 : Value) (R : Ending → World → Prop) (w : World) : Prop := (
 DoV Tryd.prog (Instr.alloc 23 true (.tuple #[])) w (fun t6_1 w1 =>
 CallF Tryd.prog 53 #[v0] w1 (fun t12_2 w2 =>
 CallF Tryd.prog 53 #[v1] w2 (fun t14_3 w3 =>
 JoinE [] (fun K4 =>
 JoinE [20] (fun K5 =>
 DoV Tryd.prog (Op.unary UnOp.not t12_2) w3 (fun t16_6 w6 =>
 Gd t16_6 false (DoV Tryd.prog (Op.unary UnOp.not t14_3) w6 (fun t19_7 w7 =>
 K5 [t19_7] w7) (Pan R))
(K5 [(Value.bool true)] w6)) (Pan R))
(fun h8 w8 =>
 Br (h8 20)
(DoV Tryd.prog (Instr.build 23 #[]) w8 (fun t21_9 w9 =>
 DoU Tryd.prog (Instr.storeAt 23 t6_1 t21_9) w9 (fun _ w10 =>
 Res Tryd.prog [.cell t6_1 23, .tmp (Value.int IntKind.i64 1)] w10 R) (Pan R)) (Pan R))
(K4 [] w8)))
(fun _ w11 =>
 CallF Tryd.prog 28 #[(Value.int IntKind.i64 4), v1, (Value.int IntKind.i64 2147483579)] w11 (fun t23_12 w12 =>
 CallF Tryd.prog 28 #[(Value.int IntKind.i64 4), v0, (Value.int IntKind.i64 2147483579)] w12 (fun t25_13 w13 =>
 CallF Tryd.prog 55 #[t23_12, t25_13, v2] w13 (fun t27_14 w14 =>
 CallF Tryd.prog 26 #[t27_14] w14 (fun t28_15 w15 =>
 DoV Tryd.prog (binS BinOp.mul 3 (Operand.tmp 31) (Operand.tmp 32) t28_15 v0) w15 (fun t33_16 w16 =>
 DoV Tryd.prog (binS BinOp.add 3 (Operand.tmp 30) (Operand.tmp 33) v1 t33_16) w16 (fun t34_17 w17 =>
 DoV Tryd.prog (binS BinOp.rem 3 (Operand.tmp 34) (Operand.const (Value.int IntKind.i64 1073741789)) t34_17 (Value.int IntKind.i64 1073741789)) w17 (fun t35_18 w18 =>
 DoV Tryd.prog (Instr.build 23 #[(0, t28_15), (1, t35_18)]) w18 (fun t36_19 w19 =>
 DoU Tryd.prog (Instr.storeAt 23 t6_1 t36_19) w19 (fun _ w20 =>
 Res Tryd.prog [.cell t6_1 23, .tmp (Value.int IntKind.i64 0)] w20 R) (Pan R)) (Pan R)) (Pan R)) (Pan R)) (Pan R)) (Pan R)) (Pan R)) (Pan R)) (Pan R))) (Pan R)) (Pan R)) (Pan R))
theorem sh_landfallref11_Sign_eq (v0 v1 v2 : Value) (R : Ending → World → Prop) (w : World) : vc Tryd.prog [] [] (Tryd.f22.body.getD .skip) (endE Tryd.prog Tryd.f22.results R) (argsE [v0, v1, v2]) [] w = sh_landfallref11_Sign v0 v1 v2 R w := by kernel_rfl
theorem sh_landfallref11_Sign_ok (v0 v1 v2 : Value) {R : Ending → World → Prop} {w : World} (h : sh_landfallref11_Sign v0 v1 v2 R w) : Calls Tryd.prog 22 #[v0, v1, v2] w R :=
  calls_of_vc (args := [v0, v1, v2]) [] [] follows_mixed Tryd.func22 rfl (of_decide_eq_true (by kernel_rfl)) (by kernel_rfl) ((sh_landfallref11_Sign_eq v0 v1 v2 R w).symm ▸ h)
/- landfall/sign.Verify -/
def sh_sign_Verify (v0 v1 v2 : Value) (R : Ending → World → Prop) (w : World) : Prop := (
 DoV Tryd.prog (Instr.box 23 v1) w (fun t4_1 w1 =>
 JoinE [] (fun K2 =>
 JoinE [23] (fun K3 =>
 CallF Tryd.prog 15 #[v0] w1 (fun t10_4 w4 =>
 DoV Tryd.prog (Op.unary UnOp.not t10_4) w4 (fun t11_5 w5 =>
 Gd t11_5 false (DoV Tryd.prog (Instr.fieldAt 23 t4_1 0) w5 (fun t13_6 w6 =>
 DoV Tryd.prog (Instr.loadAt 3 t13_6) w6 (fun t14_7 w7 =>
 CallF Tryd.prog 51 #[t14_7, (Value.int IntKind.i64 0)] w7 (fun t15_8 w8 =>
 DoV Tryd.prog (Op.unary UnOp.not t15_8) w8 (fun t16_9 w9 =>
 Gd t16_9 false (DoV Tryd.prog (Instr.fieldAt 23 t4_1 1) w9 (fun t19_10 w10 =>
 DoV Tryd.prog (Instr.loadAt 3 t19_10) w10 (fun t20_11 w11 =>
 CallF Tryd.prog 51 #[t20_11, (Value.int IntKind.i64 0)] w11 (fun t21_12 w12 =>
 DoV Tryd.prog (Op.unary UnOp.not t21_12) w12 (fun t22_13 w13 =>
 K3 [t22_13] w13) (Pan R)) (Pan R)) (Pan R)) (Pan R))
(K3 [(Value.bool true)] w9)) (Pan R)) (Pan R)) (Pan R)) (Pan R))
(K3 [(Value.bool true)] w5)) (Pan R)) (Pan R))
(fun h14 w14 =>
 Br (h14 23)
(R (.returned (Value.tuple #[(Value.bool false), (Value.int IntKind.i64 1)])) w14)
(K2 [] w14)))
(fun _ w15 =>
 DrawE w15 (fun Rs16 Rb16 w16 =>
 DetOp Rb16 Rs16 w16 (fun w17 K17 => DoV Tryd.prog (Instr.fieldAt 23 t4_1 1) w17 K17 (Pan R)) (fun c24_17 ψ17 =>
 DetOp Rb16 Rs16 w16 (fun w18 K18 => DoV Tryd.prog (Instr.loadAt 3 c24_17) w18 K18 (Pan R)) (fun c25_18 ψ18 =>
 DetOp Rs16 Rb16 w16 (fun w19 K19 => CallF Tryd.prog 50 #[(Value.int IntKind.i64 4), c25_18] w19 K19 (Pan R)) (fun c26_19 ψ19 =>
 DetOp Rb16 Rs16 w16 (fun w20 K20 => DoV Tryd.prog (Instr.fieldAt 23 t4_1 0) w20 K20 (Pan R)) (fun c28_20 ψ20 =>
 DetOp Rb16 Rs16 w16 (fun w21 K21 => DoV Tryd.prog (Instr.loadAt 3 c28_20) w21 K21 (Pan R)) (fun c29_21 ψ21 =>
 DetOp Rb16 Rs16 w16 (fun w22 K22 => DoV Tryd.prog (binS BinOp.sub 3 (Operand.const (Value.int IntKind.i64 1073741789)) (Operand.tmp 29) (Value.int IntKind.i64 1073741789) c29_21) w22 K22 (Pan R)) (fun c30_22 ψ22 =>
 DetOp Rb16 Rs16 w16 (fun w23 K23 => DoV Tryd.prog (binS BinOp.rem 3 (Operand.tmp 30) (Operand.const (Value.int IntKind.i64 1073741789)) c30_22 (Value.int IntKind.i64 1073741789)) w23 K23 (Pan R)) (fun c31_23 ψ23 =>
 ∀ w24, Rb16 w16 w24 → (((((((True ∧ ψ17 w24) ∧ ψ18 w24) ∧ ψ19 w24) ∧ ψ20 w24) ∧ ψ21 w24) ∧ ψ22 w24) ∧ ψ23 w24) →
 CallF Tryd.prog 50 #[v0, c31_23] w24 (fun t32_25 w25 =>
 DoV Tryd.prog (binS BinOp.mul 3 (Operand.tmp 26) (Operand.tmp 32) c26_19 t32_25) w25 (fun t33_26 w26 =>
 DoV Tryd.prog (binS BinOp.rem 3 (Operand.tmp 33) (Operand.const (Value.int IntKind.i64 2147483579)) t33_26 (Value.int IntKind.i64 2147483579)) w26 (fun t34_27 w27 =>
 DrawE w27 (fun Rs28 Rb28 w28 =>
 DetOp Rb28 Rs28 w28 (fun w29 K29 => DoV Tryd.prog (Instr.loadAt 23 t4_1) w29 K29 (Pan R)) (fun c35_29 ψ29 =>
 DetOp Rs28 Rb28 w28 (fun w30 K30 => CallF Tryd.prog 56 #[t34_27, v0, v2] w30 K30 (Pan R)) (fun c39_30 ψ30 =>
 DetOp Rb28 Rs28 w28 (fun w31 K31 => DoV Tryd.prog (Instr.fieldAt 23 t4_1 1) w31 K31 (Pan R)) (fun c40_31 ψ31 =>
 DetOp Rb28 Rs28 w28 (fun w32 K32 => DoV Tryd.prog (Instr.loadAt 3 c40_31) w32 K32 (Pan R)) (fun c41_32 ψ32 =>
 DetOp Rb28 Rs28 w28 (fun w33 K33 => DoV Tryd.prog (Instr.build 23 #[(0, c39_30), (1, c41_32)]) w33 K33 (Pan R)) (fun c42_33 ψ33 =>
 ∀ w34, Rb28 w28 w34 → (((((True ∧ ψ29 w34) ∧ ψ30 w34) ∧ ψ31 w34) ∧ ψ32 w34) ∧ ψ33 w34) →
 DoV Tryd.prog (binS BinOp.eql 23 (Operand.tmp 35) (Operand.tmp 42) c35_29 c42_33) w34 (fun t43_35 w35 =>
 R (.returned (Value.tuple #[t43_35, (Value.int IntKind.i64 0)])) w35) (Pan R)))))))) (Pan R)) (Pan R)) (Pan R))))))))))) (Pan R))
theorem sh_sign_Verify_eq (v0 v1 v2 : Value) (R : Ending → World → Prop) (w : World) : vc Tryd.prog [(3, 8, false, 3), (4, 8, false, 5)] [] (Tryd.f23.body.getD .skip) (endE Tryd.prog Tryd.f23.results R) (argsE [v0, v1, v2]) [] w = sh_sign_Verify v0 v1 v2 R w := by kernel_rfl
theorem sh_sign_Verify_ok (v0 v1 v2 : Value) {R : Ending → World → Prop} {w : World} (h : sh_sign_Verify v0 v1 v2 R w) : Calls Tryd.prog 23 #[v0, v1, v2] w R :=
  calls_of_vc (args := [v0, v1, v2]) [(3, 8, false, 3), (4, 8, false, 5)] [] follows_mixed Tryd.func23 rfl (of_decide_eq_true (by kernel_rfl)) (by kernel_rfl) ((sh_sign_Verify_eq v0 v1 v2 R w).symm ▸ h)
/- landfall/landfallref11.Verify -/
def sh_landfallref11_Verify (v0 v1 v2 : Value) (R : Ending → World → Prop) (w : World) : Prop := (
 DoV Tryd.prog (Instr.box 23 v1) w (fun t4_1 w1 =>
 CallF Tryd.prog 16 #[v0] w1 (fun t12_2 w2 =>
 DoV Tryd.prog (Instr.fieldAt 23 t4_1 0) w2 (fun t13_3 w3 =>
 DoV Tryd.prog (Instr.loadAt 3 t13_3) w3 (fun t14_4 w4 =>
 CallF Tryd.prog 52 #[t14_4] w4 (fun t15_5 w5 =>
 DoV Tryd.prog (Instr.fieldAt 23 t4_1 1) w5 (fun t16_6 w6 =>
 DoV Tryd.prog (Instr.loadAt 3 t16_6) w6 (fun t17_7 w7 =>
 CallF Tryd.prog 52 #[t17_7] w7 (fun t18_8 w8 =>
 JoinE [] (fun K9 =>
 JoinE [28] (fun K10 =>
 DoV Tryd.prog (Op.unary UnOp.not t12_2) w8 (fun t20_11 w11 =>
 Gd t20_11 false (DoV Tryd.prog (Op.unary UnOp.not t15_5) w11 (fun t23_12 w12 =>
 Gd t23_12 false (DoV Tryd.prog (Op.unary UnOp.not t18_8) w12 (fun t27_13 w13 =>
 K10 [t27_13] w13) (Pan R))
(K10 [(Value.bool true)] w12)) (Pan R))
(K10 [(Value.bool true)] w11)) (Pan R))
(fun h14 w14 =>
 Br (h14 28)
(R (.returned (Value.tuple #[(Value.bool false), (Value.int IntKind.i64 1)])) w14)
(K9 [] w14)))
(fun _ w15 =>
 DrawR w15 (fun R16 S16 w16 =>
 DetOp R16 (Both R16 S16) w16 (fun w17 K17 => DoV Tryd.prog (Instr.loadAt 23 t4_1) w17 K17 (Pan R)) (fun c30_17 ψ17 =>
 DetOp R16 (Both R16 S16) w16 (fun w18 K18 => CallF Tryd.prog 27 #[v0, c30_17] w18 K18 (Pan R)) (fun c31_18 ψ18 =>
 DetOp R16 (Both R16 S16) w16 (fun w19 K19 => DoV Tryd.prog (Instr.fieldAt 23 t4_1 0) w19 K19 (Pan R)) (fun c36_19 ψ19 =>
 DetOp R16 (Both R16 S16) w16 (fun w20 K20 => DoV Tryd.prog (Instr.loadAt 3 c36_19) w20 K20 (Pan R)) (fun c37_20 ψ20 =>
 ThrE R16 S16 0 w16 (fun Θ16_0 T16_0 =>
 NdC R16 S16 0 w16 Θ16_0 (fun w21 K21 => CallF Tryd.prog 55 #[c31_18, v0, v2] w21 K21 (Pan R)) (fun v34_21 φ21 =>
 NdC R16 S16 0 w16 φ21 (fun w22 K22 => CallF Tryd.prog 26 #[v34_21] w22 K22 (Pan R)) (fun v35_22 φ22 =>
 T16_0 [v34_21, v35_22] φ22))) (fun Φ16_0 =>
 ∀ (h23 : Nat → Value) (w24 : World), R16 w16 w24 → ((((True ∧ ψ17 w24) ∧ ψ18 w24) ∧ ψ19 w24) ∧ ψ20 w24) ∧ (True ∧ Φ16_0 [(h23 34), (h23 35)] w24) →
 DoV Tryd.prog (binS BinOp.eql 3 (Operand.tmp 35) (Operand.tmp 37) (h23 35) c37_20) w24 (fun t38_25 w25 =>
 R (.returned (Value.tuple #[t38_25, (Value.int IntKind.i64 0)])) w25) (Pan R))))))))) (Pan R)) (Pan R)) (Pan R)) (Pan R)) (Pan R)) (Pan R)) (Pan R)) (Pan R))
theorem sh_landfallref11_Verify_eq (v0 v1 v2 : Value) (R : Ending → World → Prop) (w : World) : vc Tryd.prog [(6, 9, false, 295912)] [] (Tryd.f24.body.getD .skip) (endE Tryd.prog Tryd.f24.results R) (argsE [v0, v1, v2]) [] w = sh_landfallref11_Verify v0 v1 v2 R w := by kernel_rfl
theorem sh_landfallref11_Verify_ok (v0 v1 v2 : Value) {R : Ending → World → Prop} {w : World} (h : sh_landfallref11_Verify v0 v1 v2 R w) : Calls Tryd.prog 24 #[v0, v1, v2] w R :=
  calls_of_vc (args := [v0, v1, v2]) [(6, 9, false, 295912)] [] follows_mixed Tryd.func24 rfl (of_decide_eq_true (by kernel_rfl)) (by kernel_rfl) ((sh_landfallref11_Verify_eq v0 v1 v2 R w).symm ▸ h)
/- landfall/landfalllaw11.secret -/
def sh_landfalllaw11_secret (v0 : Value) (R : Ending → World → Prop) (w : World) : Prop := (
 DoV Tryd.prog (binS BinOp.rem 39 (Operand.tmp 3) (Operand.const (Value.int IntKind.u64 1073741788)) v0 (Value.int IntKind.u64 1073741788)) w (fun t4_1 w1 =>
 DoV Tryd.prog (convert 39 3 t4_1) w1 (fun t5_2 w2 =>
 DoV Tryd.prog (binS BinOp.add 3 (Operand.const (Value.int IntKind.i64 1)) (Operand.tmp 5) (Value.int IntKind.i64 1) t5_2) w2 (fun t6_3 w3 =>
 R (.returned t6_3) w3) (Pan R)) (Pan R)) (Pan R))
theorem sh_landfalllaw11_secret_eq (v0 : Value) (R : Ending → World → Prop) (w : World) : vc Tryd.prog [] [] (Tryd.f25.body.getD .skip) (endE Tryd.prog Tryd.f25.results R) (argsE [v0]) [] w = sh_landfalllaw11_secret v0 R w := by kernel_rfl
theorem sh_landfalllaw11_secret_ok (v0 : Value) {R : Ending → World → Prop} {w : World} (h : sh_landfalllaw11_secret v0 R w) : Calls Tryd.prog 25 #[v0] w R :=
  calls_of_vc (args := [v0]) [] [] follows_mixed Tryd.func25 rfl (of_decide_eq_true (by kernel_rfl)) (by kernel_rfl) ((sh_landfalllaw11_secret_eq v0 R w).symm ▸ h)
/- landfall/landfallref11.Challenge -/
def sh_landfallref11_Challenge (v0 : Value) (R : Ending → World → Prop) (w : World) : Prop := (
 CallF Tryd.prog 57 #[v0] w (fun t4_1 w1 =>
 DoV Tryd.prog (binS BinOp.rem 39 (Operand.tmp 4) (Operand.const (Value.int IntKind.u64 1073741789)) t4_1 (Value.int IntKind.u64 1073741789)) w1 (fun t5_2 w2 =>
 DoV Tryd.prog (convert 39 3 t5_2) w2 (fun t6_3 w3 =>
 R (.returned t6_3) w3) (Pan R)) (Pan R)) (Pan R))
theorem sh_landfallref11_Challenge_eq (v0 : Value) (R : Ending → World → Prop) (w : World) : vc Tryd.prog [] [] (Tryd.f26.body.getD .skip) (endE Tryd.prog Tryd.f26.results R) (argsE [v0]) [] w = sh_landfallref11_Challenge v0 R w := by kernel_rfl
theorem sh_landfallref11_Challenge_ok (v0 : Value) {R : Ending → World → Prop} {w : World} (h : sh_landfallref11_Challenge v0 R w) : Calls Tryd.prog 26 #[v0] w R :=
  calls_of_vc (args := [v0]) [] [] follows_mixed Tryd.func26 rfl (of_decide_eq_true (by kernel_rfl)) (by kernel_rfl) ((sh_landfallref11_Challenge_eq v0 R w).symm ▸ h)
/- landfall/landfallref11.Back -/
def sh_landfallref11_Back (v0 v1 : Value) (R : Ending → World → Prop) (w : World) : Prop := (
 DoV Tryd.prog (Instr.box 23 v1) w (fun t3_1 w1 =>
 DrawE w1 (fun Rs2 Rb2 w2 =>
 DetOp Rb2 Rs2 w2 (fun w3 K3 => DoV Tryd.prog (Instr.fieldAt 23 t3_1 1) w3 K3 (Pan R)) (fun c5_3 ψ3 =>
 DetOp Rb2 Rs2 w2 (fun w4 K4 => DoV Tryd.prog (Instr.loadAt 3 c5_3) w4 K4 (Pan R)) (fun c6_4 ψ4 =>
 DetOp Rs2 Rb2 w2 (fun w5 K5 => CallF Tryd.prog 28 #[(Value.int IntKind.i64 4), c6_4, (Value.int IntKind.i64 2147483579)] w5 K5 (Pan R)) (fun c7_5 ψ5 =>
 DetOp Rb2 Rs2 w2 (fun w6 K6 => DoV Tryd.prog (Instr.fieldAt 23 t3_1 0) w6 K6 (Pan R)) (fun c9_6 ψ6 =>
 DetOp Rb2 Rs2 w2 (fun w7 K7 => DoV Tryd.prog (Instr.loadAt 3 c9_6) w7 K7 (Pan R)) (fun c10_7 ψ7 =>
 DetOp Rb2 Rs2 w2 (fun w8 K8 => DoV Tryd.prog (binS BinOp.sub 3 (Operand.const (Value.int IntKind.i64 1073741789)) (Operand.tmp 10) (Value.int IntKind.i64 1073741789) c10_7) w8 K8 (Pan R)) (fun c11_8 ψ8 =>
 DetOp Rb2 Rs2 w2 (fun w9 K9 => DoV Tryd.prog (binS BinOp.rem 3 (Operand.tmp 11) (Operand.const (Value.int IntKind.i64 1073741789)) c11_8 (Value.int IntKind.i64 1073741789)) w9 K9 (Pan R)) (fun c12_9 ψ9 =>
 ∀ w10, Rb2 w2 w10 → (((((((True ∧ ψ3 w10) ∧ ψ4 w10) ∧ ψ5 w10) ∧ ψ6 w10) ∧ ψ7 w10) ∧ ψ8 w10) ∧ ψ9 w10) →
 CallF Tryd.prog 28 #[v0, c12_9, (Value.int IntKind.i64 2147483579)] w10 (fun t13_11 w11 =>
 DoV Tryd.prog (binS BinOp.mul 3 (Operand.tmp 7) (Operand.tmp 13) c7_5 t13_11) w11 (fun t14_12 w12 =>
 DoV Tryd.prog (binS BinOp.rem 3 (Operand.tmp 14) (Operand.const (Value.int IntKind.i64 2147483579)) t14_12 (Value.int IntKind.i64 2147483579)) w12 (fun t15_13 w13 =>
 R (.returned t15_13) w13) (Pan R)) (Pan R)) (Pan R)))))))))) (Pan R))
theorem sh_landfallref11_Back_eq (v0 v1 : Value) (R : Ending → World → Prop) (w : World) : vc Tryd.prog [(1, 8, false, 3)] [] (Tryd.f27.body.getD .skip) (endE Tryd.prog Tryd.f27.results R) (argsE [v0, v1]) [] w = sh_landfallref11_Back v0 v1 R w := by kernel_rfl
theorem sh_landfallref11_Back_ok (v0 v1 : Value) {R : Ending → World → Prop} {w : World} (h : sh_landfallref11_Back v0 v1 R w) : Calls Tryd.prog 27 #[v0, v1] w R :=
  calls_of_vc (args := [v0, v1]) [(1, 8, false, 3)] [] follows_mixed Tryd.func27 rfl (of_decide_eq_true (by kernel_rfl)) (by kernel_rfl) ((sh_landfallref11_Back_eq v0 v1 R w).symm ▸ h)
/- landfall/landfallref11.Power -/
def sh_landfallref11_Power (v0 v1 v2 : Value) (R : Ending → World → Prop) (w : World) : Prop := (
 LoopE [0, 1, 7] [v0, v1, (Value.int IntKind.i64 1)] w (fun h1 w1 K1 =>
 DoV Tryd.prog (binS BinOp.gtr 3 (Operand.tmp 8) (Operand.const (Value.int IntKind.i64 0)) (h1 1) (Value.int IntKind.i64 0)) w1 (fun t9_2 w2 =>
 Br t9_2
(JoinE [7] (fun K3 =>
 DoV Tryd.prog (binS BinOp.rem 3 (Operand.tmp 10) (Operand.const (Value.int IntKind.i64 2)) (h1 1) (Value.int IntKind.i64 2)) w2 (fun t11_4 w4 =>
 DoV Tryd.prog (binS BinOp.eql 3 (Operand.tmp 11) (Operand.const (Value.int IntKind.i64 1)) t11_4 (Value.int IntKind.i64 1)) w4 (fun t12_5 w5 =>
 Br t12_5
(DoV Tryd.prog (binS BinOp.mul 3 (Operand.tmp 13) (Operand.tmp 14) (h1 7) (h1 0)) w5 (fun t15_6 w6 =>
 DoV Tryd.prog (binS BinOp.rem 3 (Operand.tmp 15) (Operand.tmp 16) t15_6 v2) w6 (fun t17_7 w7 =>
 K3 [t17_7] w7) (Pan R)) (Pan R))
(K3 [(h1 7)] w5)) (Pan R)) (Pan R))
(fun h8 w8 =>
 DoV Tryd.prog (binS BinOp.mul 3 (Operand.tmp 18) (Operand.tmp 19) (h1 0) (h1 0)) w8 (fun t20_9 w9 =>
 DoV Tryd.prog (binS BinOp.rem 3 (Operand.tmp 20) (Operand.tmp 21) t20_9 v2) w9 (fun t22_10 w10 =>
 DoV Tryd.prog (binS BinOp.quo 3 (Operand.tmp 23) (Operand.const (Value.int IntKind.i64 2)) (h1 1) (Value.int IntKind.i64 2)) w10 (fun t24_11 w11 =>
 K1 [t22_10, t24_11, (h8 7)] w11) (Pan R)) (Pan R)) (Pan R)))
(R (.returned (h1 7)) w2)) (Pan R)))
theorem sh_landfallref11_Power_eq (v0 v1 v2 : Value) (R : Ending → World → Prop) (w : World) : vc Tryd.prog [] [0, 1, 7] (Tryd.f28.body.getD .skip) (endE Tryd.prog Tryd.f28.results R) (argsE [v0, v1, v2]) [] w = sh_landfallref11_Power v0 v1 v2 R w := by kernel_rfl
theorem sh_landfallref11_Power_ok (v0 v1 v2 : Value) {R : Ending → World → Prop} {w : World} (h : sh_landfallref11_Power v0 v1 v2 R w) : Calls Tryd.prog 28 #[v0, v1, v2] w R :=
  calls_of_vc (args := [v0, v1, v2]) [] [0, 1, 7] follows_mixed Tryd.func28 rfl (of_decide_eq_true (by kernel_rfl)) (by kernel_rfl) ((sh_landfallref11_Power_eq v0 v1 v2 R w).symm ▸ h)
/- landfall/digest.Sum -/
def sh_digest_Sum (v0 : Value) (R : Ending → World → Prop) (w : World) : Prop := (
 CallF Tryd.prog 42 #[(Value.int IntKind.u64 14695981039346656037), v0] w (fun t4_1 w1 =>
 R (.returned t4_1) w1) (Pan R))
theorem sh_digest_Sum_eq (v0 : Value) (R : Ending → World → Prop) (w : World) : vc Tryd.prog [] [] (Tryd.f41.body.getD .skip) (endE Tryd.prog Tryd.f41.results R) (argsE [v0]) [] w = sh_digest_Sum v0 R w := by kernel_rfl
theorem sh_digest_Sum_ok (v0 : Value) {R : Ending → World → Prop} {w : World} (h : sh_digest_Sum v0 R w) : Calls Tryd.prog 41 #[v0] w R :=
  calls_of_vc (args := [v0]) [] [] follows_mixed Tryd.func41 rfl (of_decide_eq_true (by kernel_rfl)) (by kernel_rfl) ((sh_digest_Sum_eq v0 R w).symm ▸ h)
/- landfall/digest.Next -/
def sh_digest_Next (v0 v1 : Value) (R : Ending → World → Prop) (w : World) : Prop := (
 CallF Tryd.prog 72 #[] w (fun t13_1 w1 =>
 DoV Tryd.prog (Instr.extract t13_1 0) w1 (fun t14_2 w2 =>
 DoV Tryd.prog (Instr.extract t13_1 1) w2 (fun t15_3 w3 =>
 LoopE [7] [(Value.int IntKind.i64 56)] w3 (fun h4 w4 K4 =>
 DoV Tryd.prog (binS BinOp.geq 3 (Operand.tmp 16) (Operand.const (Value.int IntKind.i64 0)) (h4 7) (Value.int IntKind.i64 0)) w4 (fun t17_5 w5 =>
 Br t17_5
(DoV Tryd.prog (binS BinOp.shr 39 (Operand.tmp 21) (Operand.tmp 22) v0 (h4 7)) w5 (fun t23_6 w6 =>
 DoV Tryd.prog (convert 39 5 t23_6) w6 (fun t24_7 w7 =>
 DoV Tryd.prog (Instr.buildSlice 113 1 #[(0, t24_7)]) w7 (fun t25_8 w8 =>
 CallV Tryd.prog t14_2 #[t25_8] w8 (fun _ w9 =>
 DoV Tryd.prog (binS BinOp.sub 3 (Operand.tmp 18) (Operand.const (Value.int IntKind.i64 8)) (h4 7) (Value.int IntKind.i64 8)) w9 (fun t19_10 w10 =>
 K4 [t19_10] w10) (Pan R)) (Pan R)) (Pan R)) (Pan R)) (Pan R))
(CallB Tryd.prog Builtin.len #[24] 3 #[false] #[v1] w5 (fun t28_11 w11 =>
 LoopE [29] [(Value.int IntKind.i64 0)] w11 (fun h12 w12 K12 =>
 DoV Tryd.prog (binS BinOp.lss 3 (Operand.tmp 29) (Operand.tmp 28) (h12 29) t28_11) w12 (fun t30_13 w13 =>
 Br t30_13
(DoV Tryd.prog (Instr.indexAt 24 v1 (h12 29)) w13 (fun t31_14 w14 =>
 DoV Tryd.prog (Instr.loadAt 3 t31_14) w14 (fun t32_15 w15 =>
 CallF Tryd.prog 73 #[t32_15] w15 (fun t34_16 w16 =>
 DoV Tryd.prog (Instr.range 9 t34_16) w16 (fun t35_17 w17 =>
 LoopE [] [] w17 (fun h18 w18 K18 =>
 DoV Tryd.prog (Instr.next t35_17 true 0) w18 (fun t36_19 w19 =>
 DoV Tryd.prog (Instr.extract t36_19 0) w19 (fun t37_20 w20 =>
 Br t37_20
(DoV Tryd.prog (Instr.extract t36_19 2) w20 (fun t38_21 w21 =>
 DoV Tryd.prog (convert 21 5 t38_21) w21 (fun t41_22 w22 =>
 DoV Tryd.prog (Instr.buildSlice 113 1 #[(0, t41_22)]) w22 (fun t42_23 w23 =>
 CallV Tryd.prog t14_2 #[t42_23] w23 (fun _ w24 =>
 K18 [] w24) (Pan R)) (Pan R)) (Pan R)) (Pan R))
(DoV Tryd.prog (Instr.buildSlice 113 1 #[(0, (Value.int IntKind.u8 32))]) w20 (fun t45_25 w25 =>
 CallV Tryd.prog t14_2 #[t45_25] w25 (fun _ w26 =>
 DoV Tryd.prog (binS BinOp.add 3 (Operand.tmp 29) (Operand.const (Value.int IntKind.i64 1)) (h12 29) (Value.int IntKind.i64 1)) w26 (fun t47_27 w27 =>
 K12 [t47_27] w27) (Pan R)) (Pan R)) (Pan R))) (Pan R)) (Pan R))) (Pan R)) (Pan R)) (Pan R)) (Pan R))
(CallV Tryd.prog t15_3 #[] w13 (fun t49_28 w28 =>
 R (.returned t49_28) w28) (Pan R))) (Pan R))) (Pan R))) (Pan R))) (Pan R)) (Pan R)) (Pan R))
theorem sh_digest_Next_eq (v0 v1 : Value) (R : Ending → World → Prop) (w : World) : vc Tryd.prog [] [7, 29] (Tryd.f42.body.getD .skip) (endE Tryd.prog Tryd.f42.results R) (argsE [v0, v1]) [] w = sh_digest_Next v0 v1 R w := by kernel_rfl
theorem sh_digest_Next_ok (v0 v1 : Value) {R : Ending → World → Prop} {w : World} (h : sh_digest_Next v0 v1 R w) : Calls Tryd.prog 42 #[v0, v1] w R :=
  calls_of_vc (args := [v0, v1]) [] [7, 29] follows_mixed Tryd.func42 rfl (of_decide_eq_true (by kernel_rfl)) (by kernel_rfl) ((sh_digest_Next_eq v0 v1 R w).symm ▸ h)
/- landfall/sign.power -/
def sh_sign_power (v0 v1 : Value) (R : Ending → World → Prop) (w : World) : Prop := (
 DoV Tryd.prog (Instr.box 3 v0) w (fun t2_1 w1 =>
 DoV Tryd.prog (Instr.alloc 3 true (.tuple #[])) w1 (fun t5_2 w2 =>
 DoU Tryd.prog (Instr.storeAt 3 t5_2 (Value.int IntKind.i64 1)) w2 (fun _ w3 =>
 LoopE [1] [v1] w3 (fun h4 w4 K4 =>
 DoV Tryd.prog (binS BinOp.gtr 3 (Operand.tmp 7) (Operand.const (Value.int IntKind.i64 0)) (h4 1) (Value.int IntKind.i64 0)) w4 (fun t8_5 w5 =>
 Br t8_5
(JoinE [] (fun K6 =>
 JoinE [] (fun K7 =>
 DoV Tryd.prog (binS BinOp.rem 3 (Operand.tmp 11) (Operand.const (Value.int IntKind.i64 2)) (h4 1) (Value.int IntKind.i64 2)) w5 (fun t12_8 w8 =>
 DoV Tryd.prog (binS BinOp.eql 3 (Operand.tmp 12) (Operand.const (Value.int IntKind.i64 1)) t12_8 (Value.int IntKind.i64 1)) w8 (fun t13_9 w9 =>
 Br t13_9
(DoV Tryd.prog (Instr.loadAt 3 t2_1) w9 (fun t15_10 w10 =>
 CallV Tryd.prog (Value.func (Fn.func 76) #[] #[]) #[t5_2, t15_10] w10 (fun _ w11 =>
 K7 [] w11) (Pan R)) (Pan R))
(K7 [] w9)) (Pan R)) (Pan R))
(fun _ w12 =>
 DoV Tryd.prog (Instr.loadAt 3 t2_1) w12 (fun t18_13 w13 =>
 CallV Tryd.prog (Value.func (Fn.func 76) #[] #[]) #[t2_1, t18_13] w13 (fun _ w14 =>
 K6 [] w14) (Pan R)) (Pan R)))
(fun _ w15 =>
 DoV Tryd.prog (binS BinOp.quo 3 (Operand.tmp 9) (Operand.const (Value.int IntKind.i64 2)) (h4 1) (Value.int IntKind.i64 2)) w15 (fun t10_16 w16 =>
 K4 [t10_16] w16) (Pan R)))
(DoV Tryd.prog (Instr.loadAt 3 t5_2) w5 (fun t20_17 w17 =>
 R (.returned t20_17) w17) (Pan R))) (Pan R))) (Pan R)) (Pan R)) (Pan R))
theorem sh_sign_power_eq (v0 v1 : Value) (R : Ending → World → Prop) (w : World) : vc Tryd.prog [] [1] (Tryd.f50.body.getD .skip) (endE Tryd.prog Tryd.f50.results R) (argsE [v0, v1]) [] w = sh_sign_power v0 v1 R w := by kernel_rfl
theorem sh_sign_power_ok (v0 v1 : Value) {R : Ending → World → Prop} {w : World} (h : sh_sign_power v0 v1 R w) : Calls Tryd.prog 50 #[v0, v1] w R :=
  calls_of_vc (args := [v0, v1]) [] [1] follows_mixed Tryd.func50 rfl (of_decide_eq_true (by kernel_rfl)) (by kernel_rfl) ((sh_sign_power_eq v0 v1 R w).symm ▸ h)
/- landfall/sign.within -/
def sh_sign_within (v0 v1 : Value) (R : Ending → World → Prop) (w : World) : Prop := (
 DoV Tryd.prog (binS BinOp.leq 3 (Operand.tmp 5) (Operand.tmp 6) v1 v0) w (fun t7_1 w1 =>
 Gd t7_1 true (DoV Tryd.prog (binS BinOp.lss 3 (Operand.tmp 9) (Operand.const (Value.int IntKind.i64 1073741789)) v0 (Value.int IntKind.i64 1073741789)) w1 (fun t10_2 w2 =>
 R (.returned t10_2) w2) (Pan R))
(R (.returned (Value.bool false)) w1)) (Pan R))
theorem sh_sign_within_eq (v0 v1 : Value) (R : Ending → World → Prop) (w : World) : vc Tryd.prog [] [] (Tryd.f51.body.getD .skip) (endE Tryd.prog Tryd.f51.results R) (argsE [v0, v1]) [] w = sh_sign_within v0 v1 R w := by kernel_rfl
theorem sh_sign_within_ok (v0 v1 : Value) {R : Ending → World → Prop} {w : World} (h : sh_sign_within v0 v1 R w) : Calls Tryd.prog 51 #[v0, v1] w R :=
  calls_of_vc (args := [v0, v1]) [] [] follows_mixed Tryd.func51 rfl (of_decide_eq_true (by kernel_rfl)) (by kernel_rfl) ((sh_sign_within_eq v0 v1 R w).symm ▸ h)
/- landfall/landfallref11.Exponent -/
def sh_landfallref11_Exponent (v0 : Value) (R : Ending → World → Prop) (w : World) : Prop := (
 DoV Tryd.prog (binS BinOp.geq 3 (Operand.tmp 3) (Operand.const (Value.int IntKind.i64 0)) v0 (Value.int IntKind.i64 0)) w (fun t4_1 w1 =>
 Gd t4_1 true (DoV Tryd.prog (binS BinOp.lss 3 (Operand.tmp 6) (Operand.const (Value.int IntKind.i64 1073741789)) v0 (Value.int IntKind.i64 1073741789)) w1 (fun t7_2 w2 =>
 R (.returned t7_2) w2) (Pan R))
(R (.returned (Value.bool false)) w1)) (Pan R))
theorem sh_landfallref11_Exponent_eq (v0 : Value) (R : Ending → World → Prop) (w : World) : vc Tryd.prog [] [] (Tryd.f52.body.getD .skip) (endE Tryd.prog Tryd.f52.results R) (argsE [v0]) [] w = sh_landfallref11_Exponent v0 R w := by kernel_rfl
theorem sh_landfallref11_Exponent_ok (v0 : Value) {R : Ending → World → Prop} {w : World} (h : sh_landfallref11_Exponent v0 R w) : Calls Tryd.prog 52 #[v0] w R :=
  calls_of_vc (args := [v0]) [] [] follows_mixed Tryd.func52 rfl (of_decide_eq_true (by kernel_rfl)) (by kernel_rfl) ((sh_landfallref11_Exponent_eq v0 R w).symm ▸ h)
/- landfall/landfallref11.Secret -/
def sh_landfallref11_Secret (v0 : Value) (R : Ending → World → Prop) (w : World) : Prop := (
 DoV Tryd.prog (binS BinOp.geq 3 (Operand.tmp 3) (Operand.const (Value.int IntKind.i64 1)) v0 (Value.int IntKind.i64 1)) w (fun t4_1 w1 =>
 Gd t4_1 true (DoV Tryd.prog (binS BinOp.lss 3 (Operand.tmp 6) (Operand.const (Value.int IntKind.i64 1073741789)) v0 (Value.int IntKind.i64 1073741789)) w1 (fun t7_2 w2 =>
 R (.returned t7_2) w2) (Pan R))
(R (.returned (Value.bool false)) w1)) (Pan R))
theorem sh_landfallref11_Secret_eq (v0 : Value) (R : Ending → World → Prop) (w : World) : vc Tryd.prog [] [] (Tryd.f53.body.getD .skip) (endE Tryd.prog Tryd.f53.results R) (argsE [v0]) [] w = sh_landfallref11_Secret v0 R w := by kernel_rfl
theorem sh_landfallref11_Secret_ok (v0 : Value) {R : Ending → World → Prop} {w : World} (h : sh_landfallref11_Secret v0 R w) : Calls Tryd.prog 53 #[v0] w R :=
  calls_of_vc (args := [v0]) [] [] follows_mixed Tryd.func53 rfl (of_decide_eq_true (by kernel_rfl)) (by kernel_rfl) ((sh_landfallref11_Secret_eq v0 R w).symm ▸ h)
/- landfall/sign.signature -/
def sh_sign_signature (v0 v1 v2 : Value) (R : Ending → World → Prop) (w : World) : Prop := (
 DoV Tryd.prog (Instr.alloc 23 true (.tuple #[])) w (fun t6_1 w1 =>
 CallF Tryd.prog 50 #[(Value.int IntKind.i64 4), v1] w1 (fun t9_2 w2 =>
 CallF Tryd.prog 50 #[(Value.int IntKind.i64 4), v0] w2 (fun t11_3 w3 =>
 CallF Tryd.prog 56 #[t9_2, t11_3, v2] w3 (fun t13_4 w4 =>
 DoV Tryd.prog (binS BinOp.mul 3 (Operand.tmp 16) (Operand.tmp 17) t13_4 v0) w4 (fun t18_5 w5 =>
 DoV Tryd.prog (binS BinOp.add 3 (Operand.tmp 15) (Operand.tmp 18) v1 t18_5) w5 (fun t19_6 w6 =>
 DoV Tryd.prog (binS BinOp.rem 3 (Operand.tmp 19) (Operand.const (Value.int IntKind.i64 1073741789)) t19_6 (Value.int IntKind.i64 1073741789)) w6 (fun t20_7 w7 =>
 DoV Tryd.prog (Instr.build 23 #[(0, t13_4), (1, t20_7)]) w7 (fun t21_8 w8 =>
 DoU Tryd.prog (Instr.storeAt 23 t6_1 t21_8) w8 (fun _ w9 =>
 Res Tryd.prog [.cell t6_1 23] w9 R) (Pan R)) (Pan R)) (Pan R)) (Pan R)) (Pan R)) (Pan R)) (Pan R)) (Pan R)) (Pan R))
theorem sh_sign_signature_eq (v0 v1 v2 : Value) (R : Ending → World → Prop) (w : World) : vc Tryd.prog [] [] (Tryd.f54.body.getD .skip) (endE Tryd.prog Tryd.f54.results R) (argsE [v0, v1, v2]) [] w = sh_sign_signature v0 v1 v2 R w := by kernel_rfl
theorem sh_sign_signature_ok (v0 v1 v2 : Value) {R : Ending → World → Prop} {w : World} (h : sh_sign_signature v0 v1 v2 R w) : Calls Tryd.prog 54 #[v0, v1, v2] w R :=
  calls_of_vc (args := [v0, v1, v2]) [] [] follows_mixed Tryd.func54 rfl (of_decide_eq_true (by kernel_rfl)) (by kernel_rfl) ((sh_sign_signature_eq v0 v1 v2 R w).symm ▸ h)
/- landfall/landfallref11.after -/
def sh_landfallref11_after (v0 v1 v2 : Value) (R : Ending → World → Prop) (w : World) : Prop := (
 DoV Tryd.prog (Instr.buildSlice 24 2 #[(0, v0), (1, v1)]) w (fun t11_1 w1 =>
 LoopE [7, 8] [t11_1, (Value.int IntKind.i64 0)] w1 (fun h2 w2 K2 =>
 CallB Tryd.prog Builtin.len #[24] 3 #[false] #[v2] w2 (fun t14_3 w3 =>
 DoV Tryd.prog (binS BinOp.lss 3 (Operand.tmp 12) (Operand.tmp 14) (h2 8) t14_3) w3 (fun t15_4 w4 =>
 Br t15_4
(DoV Tryd.prog (Instr.indexAt 24 v2 (h2 8)) w4 (fun t21_5 w5 =>
 DoV Tryd.prog (Instr.loadAt 3 t21_5) w5 (fun t22_6 w6 =>
 DoV Tryd.prog (Instr.buildSlice 24 1 #[(0, t22_6)]) w6 (fun t23_7 w7 =>
 CallB Tryd.prog Builtin.append #[24, 24] 24 #[false, false] #[(h2 7), t23_7] w7 (fun t24_8 w8 =>
 DoV Tryd.prog (binS BinOp.add 3 (Operand.tmp 16) (Operand.const (Value.int IntKind.i64 1)) (h2 8) (Value.int IntKind.i64 1)) w8 (fun t17_9 w9 =>
 K2 [t24_8, t17_9] w9) (Pan R)) (Pan R)) (Pan R)) (Pan R)) (Pan R))
(R (.returned (h2 7)) w4)) (Pan R)) (Pan R))) (Pan R))
theorem sh_landfallref11_after_eq (v0 v1 v2 : Value) (R : Ending → World → Prop) (w : World) : vc Tryd.prog [] [7, 8] (Tryd.f55.body.getD .skip) (endE Tryd.prog Tryd.f55.results R) (argsE [v0, v1, v2]) [] w = sh_landfallref11_after v0 v1 v2 R w := by kernel_rfl
theorem sh_landfallref11_after_ok (v0 v1 v2 : Value) {R : Ending → World → Prop} {w : World} (h : sh_landfallref11_after v0 v1 v2 R w) : Calls Tryd.prog 55 #[v0, v1, v2] w R :=
  calls_of_vc (args := [v0, v1, v2]) [] [7, 8] follows_mixed Tryd.func55 rfl (of_decide_eq_true (by kernel_rfl)) (by kernel_rfl) ((sh_landfallref11_after_eq v0 v1 v2 R w).symm ▸ h)
/- landfall/sign.challenge -/
def sh_sign_challenge (v0 v1 v2 : Value) (R : Ending → World → Prop) (w : World) : Prop := (
 DoV Tryd.prog (Instr.buildSlice 24 2 #[(0, v0), (1, v1)]) w (fun t9_1 w1 =>
 CallB Tryd.prog Builtin.append #[24, 24] 24 #[false, false] #[t9_1, v2] w1 (fun t11_2 w2 =>
 CallF Tryd.prog 41 #[t11_2] w2 (fun t12_3 w3 =>
 DoV Tryd.prog (binS BinOp.rem 39 (Operand.tmp 12) (Operand.const (Value.int IntKind.u64 1073741789)) t12_3 (Value.int IntKind.u64 1073741789)) w3 (fun t13_4 w4 =>
 DoV Tryd.prog (convert 39 3 t13_4) w4 (fun t14_5 w5 =>
 R (.returned t14_5) w5) (Pan R)) (Pan R)) (Pan R)) (Pan R)) (Pan R))
theorem sh_sign_challenge_eq (v0 v1 v2 : Value) (R : Ending → World → Prop) (w : World) : vc Tryd.prog [] [] (Tryd.f56.body.getD .skip) (endE Tryd.prog Tryd.f56.results R) (argsE [v0, v1, v2]) [] w = sh_sign_challenge v0 v1 v2 R w := by kernel_rfl
theorem sh_sign_challenge_ok (v0 v1 v2 : Value) {R : Ending → World → Prop} {w : World} (h : sh_sign_challenge v0 v1 v2 R w) : Calls Tryd.prog 56 #[v0, v1, v2] w R :=
  calls_of_vc (args := [v0, v1, v2]) [] [] follows_mixed Tryd.func56 rfl (of_decide_eq_true (by kernel_rfl)) (by kernel_rfl) ((sh_sign_challenge_eq v0 v1 v2 R w).symm ▸ h)
/- landfall/landfallref05.Sum -/
def sh_landfallref05_Sum (v0 : Value) (R : Ending → World → Prop) (w : World) : Prop := (
 CallF Tryd.prog 78 #[(Value.string { data := #[] })] w (fun t3_1 w1 =>
 CallF Tryd.prog 77 #[t3_1, v0] w1 (fun t5_2 w2 =>
 R (.returned t5_2) w2) (Pan R)) (Pan R))
theorem sh_landfallref05_Sum_eq (v0 : Value) (R : Ending → World → Prop) (w : World) : vc Tryd.prog [] [] (Tryd.f57.body.getD .skip) (endE Tryd.prog Tryd.f57.results R) (argsE [v0]) [] w = sh_landfallref05_Sum v0 R w := by kernel_rfl
theorem sh_landfallref05_Sum_ok (v0 : Value) {R : Ending → World → Prop} {w : World} (h : sh_landfallref05_Sum v0 R w) : Calls Tryd.prog 57 #[v0] w R :=
  calls_of_vc (args := [v0]) [] [] follows_mixed Tryd.func57 rfl (of_decide_eq_true (by kernel_rfl)) (by kernel_rfl) ((sh_landfallref05_Sum_eq v0 R w).symm ▸ h)
/- landfall/digest.run -/
def sh_digest_run (R : Ending → World → Prop) (w : World) : Prop := (
 DoV Tryd.prog (Instr.alloc 39 true (.tuple #[])) w (fun t2_1 w1 =>
 DoU Tryd.prog (Instr.storeAt 39 t2_1 (Value.int IntKind.u64 14695981039346656037)) w1 (fun _ w2 =>
 DoV Tryd.prog (Instr.makeFunc (Fn.func 83) #[] #[t2_1]) w2 (fun t4_3 w3 =>
 DoV Tryd.prog (Instr.makeFunc (Fn.func 84) #[] #[t2_1]) w3 (fun t6_4 w4 =>
 R (.returned (Value.tuple #[t4_3, t6_4])) w4) (Pan R)) (Pan R)) (Pan R)) (Pan R))
theorem sh_digest_run_eq (R : Ending → World → Prop) (w : World) : vc Tryd.prog [] [] (Tryd.f72.body.getD .skip) (endE Tryd.prog Tryd.f72.results R) (argsE []) [] w = sh_digest_run  R w := by kernel_rfl
theorem sh_digest_run_ok {R : Ending → World → Prop} {w : World} (h : sh_digest_run  R w) : Calls Tryd.prog 72 #[] w R :=
  calls_of_vc (args := []) [] [] follows_mixed Tryd.func72 rfl (of_decide_eq_true (by kernel_rfl)) (by kernel_rfl) ((sh_digest_run_eq  R w).symm ▸ h)
/- landfall/sign.power$1 -/
def sh_sign_power_1 (v0 v1 : Value) (R : Ending → World → Prop) (w : World) : Prop := (
 NilC Tryd.prog v0 w (fun t6_1 w1 =>
 DoV Tryd.prog (Instr.loadAt 3 t6_1) w1 (fun t7_2 w2 =>
 DoV Tryd.prog (binS BinOp.mul 3 (Operand.tmp 7) (Operand.tmp 8) t7_2 v1) w2 (fun t9_3 w3 =>
 DoV Tryd.prog (binS BinOp.rem 3 (Operand.tmp 9) (Operand.const (Value.int IntKind.i64 2147483579)) t9_3 (Value.int IntKind.i64 2147483579)) w3 (fun t10_4 w4 =>
 NilC Tryd.prog v0 w4 (fun t11_5 w5 =>
 DoU Tryd.prog (Instr.storeAt 3 t11_5 t10_4) w5 (fun _ w6 =>
 R (.returned (Value.tuple #[])) w6) (Pan R)) (Pan R)) (Pan R)) (Pan R)) (Pan R)) (Pan R))
theorem sh_sign_power_1_eq (v0 v1 : Value) (R : Ending → World → Prop) (w : World) : vc Tryd.prog [] [] (Tryd.f76.body.getD .skip) (endE Tryd.prog Tryd.f76.results R) (argsE [v0, v1]) [] w = sh_sign_power_1 v0 v1 R w := by kernel_rfl
theorem sh_sign_power_1_ok (v0 v1 : Value) {R : Ending → World → Prop} {w : World} (h : sh_sign_power_1 v0 v1 R w) : Calls Tryd.prog 76 #[v0, v1] w R :=
  calls_of_vc (args := [v0, v1]) [] [] follows_mixed Tryd.func76 rfl (of_decide_eq_true (by kernel_rfl)) (by kernel_rfl) ((sh_sign_power_1_eq v0 v1 R w).symm ▸ h)
/- landfall/landfallref05.Next -/
def sh_landfallref05_Next (v0 v1 : Value) (R : Ending → World → Prop) (w : World) : Prop := (
 CallF Tryd.prog 88 #[v0, v1] w (fun t7_1 w1 =>
 DoV Tryd.prog (convert 113 9 t7_1) w1 (fun t8_2 w2 =>
 CallF Tryd.prog 78 #[t8_2] w2 (fun t9_3 w3 =>
 R (.returned t9_3) w3) (Pan R)) (Pan R)) (Pan R))
theorem sh_landfallref05_Next_eq (v0 v1 : Value) (R : Ending → World → Prop) (w : World) : vc Tryd.prog [] [] (Tryd.f77.body.getD .skip) (endE Tryd.prog Tryd.f77.results R) (argsE [v0, v1]) [] w = sh_landfallref05_Next v0 v1 R w := by kernel_rfl
theorem sh_landfallref05_Next_ok (v0 v1 : Value) {R : Ending → World → Prop} {w : World} (h : sh_landfallref05_Next v0 v1 R w) : Calls Tryd.prog 77 #[v0, v1] w R :=
  calls_of_vc (args := [v0, v1]) [] [] follows_mixed Tryd.func77 rfl (of_decide_eq_true (by kernel_rfl)) (by kernel_rfl) ((sh_landfallref05_Next_eq v0 v1 R w).symm ▸ h)
/- landfall/landfallref05.Text -/
def sh_landfallref05_Text (v0 : Value) (R : Ending → World → Prop) (w : World) : Prop := (
 LoopE [3, 4] [(Value.int IntKind.u64 14695981039346656037), (Value.int IntKind.i64 0)] w (fun h1 w1 K1 =>
 CallB Tryd.prog Builtin.len #[9] 3 #[false] #[v0] w1 (fun t7_2 w2 =>
 DoV Tryd.prog (binS BinOp.lss 3 (Operand.tmp 5) (Operand.tmp 7) (h1 4) t7_2) w2 (fun t8_3 w3 =>
 Br t8_3
(DoV Tryd.prog (Instr.index 9 v0 (h1 4)) w3 (fun t14_4 w4 =>
 DoV Tryd.prog (convert 5 39 t14_4) w4 (fun t15_5 w5 =>
 DoV Tryd.prog (binS BinOp.xor 39 (Operand.tmp 11) (Operand.tmp 15) (h1 3) t15_5) w5 (fun t16_6 w6 =>
 DoV Tryd.prog (binS BinOp.mul 39 (Operand.tmp 16) (Operand.const (Value.int IntKind.u64 1099511628211)) t16_6 (Value.int IntKind.u64 1099511628211)) w6 (fun t17_7 w7 =>
 DoV Tryd.prog (binS BinOp.add 3 (Operand.tmp 9) (Operand.const (Value.int IntKind.i64 1)) (h1 4) (Value.int IntKind.i64 1)) w7 (fun t10_8 w8 =>
 K1 [t17_7, t10_8] w8) (Pan R)) (Pan R)) (Pan R)) (Pan R)) (Pan R))
(R (.returned (h1 3)) w3)) (Pan R)) (Pan R)))
theorem sh_landfallref05_Text_eq (v0 : Value) (R : Ending → World → Prop) (w : World) : vc Tryd.prog [] [3, 4] (Tryd.f78.body.getD .skip) (endE Tryd.prog Tryd.f78.results R) (argsE [v0]) [] w = sh_landfallref05_Text v0 R w := by kernel_rfl
theorem sh_landfallref05_Text_ok (v0 : Value) {R : Ending → World → Prop} {w : World} (h : sh_landfallref05_Text v0 R w) : Calls Tryd.prog 78 #[v0] w R :=
  calls_of_vc (args := [v0]) [] [3, 4] follows_mixed Tryd.func78 rfl (of_decide_eq_true (by kernel_rfl)) (by kernel_rfl) ((sh_landfallref05_Text_eq v0 R w).symm ▸ h)
/- landfall/digest.run$1 -/
def sh_digest_run_1 (v0 v1 : Value) (R : Ending → World → Prop) (w : World) : Prop := (
 CallB Tryd.prog Builtin.len #[113] 3 #[false] #[v0] w (fun t6_1 w1 =>
 LoopE [7] [(Value.int IntKind.i64 0)] w1 (fun h2 w2 K2 =>
 DoV Tryd.prog (binS BinOp.lss 3 (Operand.tmp 7) (Operand.tmp 6) (h2 7) t6_1) w2 (fun t8_3 w3 =>
 Br t8_3
(DoV Tryd.prog (Instr.indexAt 113 v0 (h2 7)) w3 (fun t9_4 w4 =>
 DoV Tryd.prog (Instr.loadAt 5 t9_4) w4 (fun t10_5 w5 =>
 DoV Tryd.prog (Instr.loadAt 39 v1) w5 (fun t11_6 w6 =>
 DoV Tryd.prog (convert 5 39 t10_5) w6 (fun t13_7 w7 =>
 DoV Tryd.prog (binS BinOp.xor 39 (Operand.tmp 11) (Operand.tmp 13) t11_6 t13_7) w7 (fun t14_8 w8 =>
 DoV Tryd.prog (binS BinOp.mul 39 (Operand.tmp 14) (Operand.const (Value.int IntKind.u64 1099511628211)) t14_8 (Value.int IntKind.u64 1099511628211)) w8 (fun t15_9 w9 =>
 DoU Tryd.prog (Instr.storeAt 39 v1 t15_9) w9 (fun _ w10 =>
 DoV Tryd.prog (binS BinOp.add 3 (Operand.tmp 7) (Operand.const (Value.int IntKind.i64 1)) (h2 7) (Value.int IntKind.i64 1)) w10 (fun t16_11 w11 =>
 K2 [t16_11] w11) (Pan R)) (Pan R)) (Pan R)) (Pan R)) (Pan R)) (Pan R)) (Pan R)) (Pan R))
(R (.returned (Value.tuple #[])) w3)) (Pan R))) (Pan R))
theorem sh_digest_run_1_eq (v0 v1 : Value) (R : Ending → World → Prop) (w : World) : vc Tryd.prog [] [7] (Tryd.f83.body.getD .skip) (endE Tryd.prog Tryd.f83.results R) (argsE [v0, v1]) [] w = sh_digest_run_1 v0 v1 R w := by kernel_rfl
theorem sh_digest_run_1_ok (v0 v1 : Value) {R : Ending → World → Prop} {w : World} (h : sh_digest_run_1 v0 v1 R w) : Calls Tryd.prog 83 #[v0, v1] w R :=
  calls_of_vc (args := [v0, v1]) [] [7] follows_mixed Tryd.func83 rfl (of_decide_eq_true (by kernel_rfl)) (by kernel_rfl) ((sh_digest_run_1_eq v0 v1 R w).symm ▸ h)
/- landfall/digest.run$2 -/
def sh_digest_run_2 (v0 : Value) (R : Ending → World → Prop) (w : World) : Prop := (
 DoV Tryd.prog (Instr.loadAt 39 v0) w (fun t2_1 w1 =>
 R (.returned t2_1) w1) (Pan R))
theorem sh_digest_run_2_eq (v0 : Value) (R : Ending → World → Prop) (w : World) : vc Tryd.prog [] [] (Tryd.f84.body.getD .skip) (endE Tryd.prog Tryd.f84.results R) (argsE [v0]) [] w = sh_digest_run_2 v0 R w := by kernel_rfl
theorem sh_digest_run_2_ok (v0 : Value) {R : Ending → World → Prop} {w : World} (h : sh_digest_run_2 v0 R w) : Calls Tryd.prog 84 #[v0] w R :=
  calls_of_vc (args := [v0]) [] [] follows_mixed Tryd.func84 rfl (of_decide_eq_true (by kernel_rfl)) (by kernel_rfl) ((sh_digest_run_2_eq v0 R w).symm ▸ h)
/- landfall/landfallref05.Bytes -/
def sh_landfallref05_Bytes (v0 v1 : Value) (R : Ending → World → Prop) (w : World) : Prop := (
 LoopE [5, 6] [(Value.slice none 0 0), (Value.int IntKind.i64 0)] w (fun h1 w1 K1 =>
 DoV Tryd.prog (binS BinOp.lss 3 (Operand.tmp 8) (Operand.const (Value.int IntKind.i64 8)) (h1 6) (Value.int IntKind.i64 8)) w1 (fun t9_2 w2 =>
 Br t9_2
(DoV Tryd.prog (binS BinOp.mul 3 (Operand.const (Value.int IntKind.i64 8)) (Operand.tmp 14) (Value.int IntKind.i64 8) (h1 6)) w2 (fun t15_3 w3 =>
 DoV Tryd.prog (binS BinOp.sub 3 (Operand.const (Value.int IntKind.i64 56)) (Operand.tmp 15) (Value.int IntKind.i64 56) t15_3) w3 (fun t16_4 w4 =>
 DoV Tryd.prog (binS BinOp.shr 39 (Operand.tmp 13) (Operand.tmp 16) v0 t16_4) w4 (fun t17_5 w5 =>
 DoV Tryd.prog (convert 39 5 t17_5) w5 (fun t18_6 w6 =>
 DoV Tryd.prog (Instr.buildSlice 113 1 #[(0, t18_6)]) w6 (fun t19_7 w7 =>
 CallB Tryd.prog Builtin.append #[113, 113] 113 #[false, false] #[(h1 5), t19_7] w7 (fun t20_8 w8 =>
 DoV Tryd.prog (binS BinOp.add 3 (Operand.tmp 10) (Operand.const (Value.int IntKind.i64 1)) (h1 6) (Value.int IntKind.i64 1)) w8 (fun t11_9 w9 =>
 K1 [t20_8, t11_9] w9) (Pan R)) (Pan R)) (Pan R)) (Pan R)) (Pan R)) (Pan R)) (Pan R))
(LoopE [5, 7] [(h1 5), (Value.int IntKind.i64 0)] w2 (fun h10 w10 K10 =>
 CallB Tryd.prog Builtin.len #[24] 3 #[false] #[v1] w10 (fun t23_11 w11 =>
 DoV Tryd.prog (binS BinOp.lss 3 (Operand.tmp 21) (Operand.tmp 23) (h10 7) t23_11) w11 (fun t24_12 w12 =>
 Br t24_12
(DoV Tryd.prog (Instr.indexAt 24 v1 (h10 7)) w12 (fun t30_13 w13 =>
 DoV Tryd.prog (Instr.loadAt 3 t30_13) w13 (fun t31_14 w14 =>
 CallF Tryd.prog 95 #[t31_14] w14 (fun t32_15 w15 =>
 CallB Tryd.prog Builtin.append #[113, 9] 113 #[false, false] #[(h10 5), t32_15] w15 (fun t33_16 w16 =>
 DoV Tryd.prog (Instr.buildSlice 113 1 #[(0, (Value.int IntKind.u8 32))]) w16 (fun t35_17 w17 =>
 CallB Tryd.prog Builtin.append #[113, 113] 113 #[false, false] #[t33_16, t35_17] w17 (fun t36_18 w18 =>
 DoV Tryd.prog (binS BinOp.add 3 (Operand.tmp 25) (Operand.const (Value.int IntKind.i64 1)) (h10 7) (Value.int IntKind.i64 1)) w18 (fun t26_19 w19 =>
 K10 [t36_18, t26_19] w19) (Pan R)) (Pan R)) (Pan R)) (Pan R)) (Pan R)) (Pan R)) (Pan R))
(R (.returned (h10 5)) w12)) (Pan R)) (Pan R)))) (Pan R)))
theorem sh_landfallref05_Bytes_eq (v0 v1 : Value) (R : Ending → World → Prop) (w : World) : vc Tryd.prog [] [5, 6, 7] (Tryd.f88.body.getD .skip) (endE Tryd.prog Tryd.f88.results R) (argsE [v0, v1]) [] w = sh_landfallref05_Bytes v0 v1 R w := by kernel_rfl
theorem sh_landfallref05_Bytes_ok (v0 v1 : Value) {R : Ending → World → Prop} {w : World} (h : sh_landfallref05_Bytes v0 v1 R w) : Calls Tryd.prog 88 #[v0, v1] w R :=
  calls_of_vc (args := [v0, v1]) [] [5, 6, 7] follows_mixed Tryd.func88 rfl (of_decide_eq_true (by kernel_rfl)) (by kernel_rfl) ((sh_landfallref05_Bytes_eq v0 v1 R w).symm ▸ h)
/- landfall/landfallref05.Decimal -/
def sh_landfallref05_Decimal (v0 : Value) (R : Ending → World → Prop) (w : World) : Prop := (
 DoV Tryd.prog (binS BinOp.eql 3 (Operand.tmp 8) (Operand.const (Value.int IntKind.i64 0)) v0 (Value.int IntKind.i64 0)) w (fun t9_1 w1 =>
 Br t9_1
(R (.returned (Value.string { data := #[48] })) w1)
(LoopE [3, 4, 5] [(Value.slice none 0 0), v0, undef] w1 (fun h2 w2 K2 =>
 DoV Tryd.prog (binS BinOp.neq 3 (Operand.tmp 11) (Operand.const (Value.int IntKind.i64 0)) (h2 4) (Value.int IntKind.i64 0)) w2 (fun t12_3 w3 =>
 Br t12_3
(JoinE [3, 5] (fun K4 =>
 DoV Tryd.prog (binS BinOp.rem 3 (Operand.tmp 15) (Operand.const (Value.int IntKind.i64 10)) (h2 4) (Value.int IntKind.i64 10)) w3 (fun t16_5 w5 =>
 JoinE [5] (fun K6 =>
 DoV Tryd.prog (binS BinOp.lss 3 (Operand.tmp 17) (Operand.const (Value.int IntKind.i64 0)) t16_5 (Value.int IntKind.i64 0)) w5 (fun t18_7 w7 =>
 Br t18_7
(DoV Tryd.prog (Op.unary UnOp.neg t16_5) w7 (fun t20_8 w8 =>
 K6 [t20_8] w8) (Pan R))
(K6 [t16_5] w7)) (Pan R))
(fun h9 w9 =>
 DoV Tryd.prog (binS BinOp.add 3 (Operand.const (Value.int IntKind.i64 48)) (Operand.tmp 22) (Value.int IntKind.i64 48) (h9 5)) w9 (fun t23_10 w10 =>
 DoV Tryd.prog (convert 3 5 t23_10) w10 (fun t24_11 w11 =>
 DoV Tryd.prog (Instr.buildSlice 113 1 #[(0, t24_11)]) w11 (fun t25_12 w12 =>
 CallB Tryd.prog Builtin.append #[113, 113] 113 #[false, false] #[(h2 3), t25_12] w12 (fun t26_13 w13 =>
 K4 [t26_13, (h9 5)] w13) (Pan R)) (Pan R)) (Pan R)) (Pan R))) (Pan R))
(fun h14 w14 =>
 DoV Tryd.prog (binS BinOp.quo 3 (Operand.tmp 13) (Operand.const (Value.int IntKind.i64 10)) (h2 4) (Value.int IntKind.i64 10)) w14 (fun t14_15 w15 =>
 K2 [(h14 3), t14_15, (h14 5)] w15) (Pan R)))
(JoinE [3] (fun K16 =>
 DoV Tryd.prog (binS BinOp.lss 3 (Operand.tmp 27) (Operand.const (Value.int IntKind.i64 0)) v0 (Value.int IntKind.i64 0)) w3 (fun t28_17 w17 =>
 Br t28_17
(DoV Tryd.prog (Instr.buildSlice 113 1 #[(0, (Value.int IntKind.u8 45))]) w17 (fun t30_18 w18 =>
 CallB Tryd.prog Builtin.append #[113, 113] 113 #[false, false] #[(h2 3), t30_18] w18 (fun t31_19 w19 =>
 K16 [t31_19] w19) (Pan R)) (Pan R))
(K16 [(h2 3)] w17)) (Pan R))
(fun h20 w20 =>
 CallB Tryd.prog Builtin.len #[113] 3 #[false] #[(h20 3)] w20 (fun t33_21 w21 =>
 DoV Tryd.prog (binS BinOp.sub 3 (Operand.tmp 33) (Operand.const (Value.int IntKind.i64 1)) t33_21 (Value.int IntKind.i64 1)) w21 (fun t34_22 w22 =>
 LoopE [6, 7] [(Value.slice none 0 0), t34_22] w22 (fun h23 w23 K23 =>
 DoV Tryd.prog (binS BinOp.geq 3 (Operand.tmp 35) (Operand.const (Value.int IntKind.i64 0)) (h23 7) (Value.int IntKind.i64 0)) w23 (fun t36_24 w24 =>
 Br t36_24
(DoV Tryd.prog (Instr.indexAt 113 (h20 3) (h23 7)) w24 (fun t42_25 w25 =>
 DoV Tryd.prog (Instr.loadAt 5 t42_25) w25 (fun t43_26 w26 =>
 DoV Tryd.prog (Instr.buildSlice 113 1 #[(0, t43_26)]) w26 (fun t44_27 w27 =>
 CallB Tryd.prog Builtin.append #[113, 113] 113 #[false, false] #[(h23 6), t44_27] w27 (fun t45_28 w28 =>
 DoV Tryd.prog (binS BinOp.sub 3 (Operand.tmp 37) (Operand.const (Value.int IntKind.i64 1)) (h23 7) (Value.int IntKind.i64 1)) w28 (fun t38_29 w29 =>
 K23 [t45_28, t38_29] w29) (Pan R)) (Pan R)) (Pan R)) (Pan R)) (Pan R))
(DoV Tryd.prog (convert 113 9 (h23 6)) w24 (fun t47_30 w30 =>
 R (.returned t47_30) w30) (Pan R))) (Pan R))) (Pan R)) (Pan R)))) (Pan R)))) (Pan R))
theorem sh_landfallref05_Decimal_eq (v0 : Value) (R : Ending → World → Prop) (w : World) : vc Tryd.prog [] [3, 4, 5, 6, 7] (Tryd.f95.body.getD .skip) (endE Tryd.prog Tryd.f95.results R) (argsE [v0]) [] w = sh_landfallref05_Decimal v0 R w := by kernel_rfl
theorem sh_landfallref05_Decimal_ok (v0 : Value) {R : Ending → World → Prop} {w : World} (h : sh_landfallref05_Decimal v0 R w) : Calls Tryd.prog 95 #[v0] w R :=
  calls_of_vc (args := [v0]) [] [3, 4, 5, 6, 7] follows_mixed Tryd.func95 rfl (of_decide_eq_true (by kernel_rfl)) (by kernel_rfl) ((sh_landfallref05_Decimal_eq v0 R w).symm ▸ h)
end Go.Proofs.YtjinhojlnaplaaaDoor
