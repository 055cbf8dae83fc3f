/- WRITTEN BY gen.py: the chains of operations of some functions. -/
import Derived.Test.YtjinhojlnaplaaaDoorT1
import Derived.Test.YtjinhojlnaplaaaDoorBaseA
import Derived.Test.YtjinhojlnaplaaaDoorProg
import Derived.KernelRfl
namespace Go.Proofs.YtjinhojlnaplaaaDoor
open Sh
set_option maxRecDepth 100000
/- landfall/landfalllaw24.ReportMatchesReference -/
def sh_landfalllaw24_ReportMatchesReference (v0 v1 v2 v3 v4 v5 v6 : Value) (R : Ending → World → Prop) (w : World) : Prop := (
 DoV Tryd.prog (Instr.box 49 v0) w (fun t7_1 w1 =>
 DoV Tryd.prog (Instr.box 51 v1) w1 (fun t8_2 w2 =>
 CallF Tryd.prog 29 #[] w2 (fun t24_3 w3 =>
 JoinE [] (fun K4 =>
 JoinE [33] (fun K5 =>
 DoV Tryd.prog (Instr.loadAt 49 t7_1) w3 (fun t25_6 w6 =>
 CallF Tryd.prog 30 #[t25_6] w6 (fun t26_7 w7 =>
 DoV Tryd.prog (Op.unary UnOp.not t26_7) w7 (fun t27_8 w8 =>
 Gd t27_8 false (DoV Tryd.prog (Instr.fieldAt 51 t8_2 2) w8 (fun t29_9 w9 =>
 DoV Tryd.prog (Instr.loadAt 47 t29_9) w9 (fun t30_10 w10 =>
 CallB Tryd.prog Builtin.len #[47] 3 #[false] #[t30_10] w10 (fun t31_11 w11 =>
 DoV Tryd.prog (binS BinOp.gtr 3 (Operand.tmp 31) (Operand.const (Value.int IntKind.i64 40)) t31_11 (Value.int IntKind.i64 40)) w11 (fun t32_12 w12 =>
 K5 [t32_12] w12) (Pan R)) (Pan R)) (Pan R)) (Pan R))
(K5 [(Value.bool true)] w8)) (Pan R)) (Pan R)) (Pan R))
(fun h13 w13 =>
 Br (h13 33)
(R (.returned t24_3) w13)
(K4 [] w13)))
(fun _ w14 =>
 DoV Tryd.prog (Instr.loadAt 49 t7_1) w14 (fun t36_15 w15 =>
 CallF Tryd.prog 31 #[t36_15, v3] w15 (fun t38_16 w16 =>
 DoV Tryd.prog (Instr.extract t38_16 0) w16 (fun t39_17 w17 =>
 DoV Tryd.prog (Instr.extract t38_16 1) w17 (fun t40_18 w18 =>
 DoV Tryd.prog (Instr.loadAt 49 t7_1) w18 (fun t42_19 w19 =>
 CallF Tryd.prog 32 #[t42_19, v3] w19 (fun t44_20 w20 =>
 DoV Tryd.prog (Instr.extract t44_20 0) w20 (fun t45_21 w21 =>
 DoV Tryd.prog (Instr.extract t44_20 1) w21 (fun t46_22 w22 =>
 JoinE [15] (fun K23 =>
 DrawE w22 (fun Rs24 Rb24 w24 =>
 Gd t24_3 true (DetOp Rb24 Rs24 w24 (fun w25 K25 => DoV Tryd.prog (binS BinOp.eql 39 (Operand.tmp 49) (Operand.tmp 50) t39_17 t45_21) w25 K25 (Pan R)) (fun c51_25 ψ25 =>
 Gd c51_25 true (DetOp Rb24 Rs24 w24 (fun w26 K26 => DoV Tryd.prog (binS BinOp.eql 28 (Operand.tmp 54) (Operand.tmp 55) t40_18 t46_22) w26 K26 (Pan R)) (fun c56_26 ψ26 =>
 Gd c56_26 true (DetOp Rb24 Rs24 w24 (fun w27 K27 => DoV Tryd.prog (Instr.loadAt 49 t7_1) w27 K27 (Pan R)) (fun c59_27 ψ27 =>
 DetOp Rs24 Rb24 w24 (fun w28 K28 => CallF Tryd.prog 33 #[c59_27] w28 K28 (Pan R)) (fun c60_28 ψ28 =>
 DetOp Rb24 Rs24 w24 (fun w29 K29 => DoV Tryd.prog (Instr.loadAt 49 t7_1) w29 K29 (Pan R)) (fun c61_29 ψ29 =>
 ∀ w30, Rb24 w24 w30 → (((((True ∧ ψ25 w30) ∧ ψ26 w30) ∧ ψ27 w30) ∧ ψ28 w30) ∧ ψ29 w30) →
 CallF Tryd.prog 34 #[c61_29] w30 (fun t62_31 w31 =>
 DoV Tryd.prog (binS BinOp.eql 4 (Operand.tmp 60) (Operand.tmp 62) c60_28 t62_31) w31 (fun t63_32 w32 =>
 K23 [t63_32] w32) (Pan R)) (Pan R)))))
(∀ w33, Rb24 w24 w33 → ((True ∧ ψ25 w33) ∧ ψ26 w33) →
 K23 [(Value.bool false)] w33)))
(∀ w34, Rb24 w24 w34 → (True ∧ ψ25 w34) →
 K23 [(Value.bool false)] w34)))
(∀ w35, Rb24 w24 w35 → True →
 K23 [(Value.bool false)] w35)))
(fun h36 w36 =>
 DoV Tryd.prog (Instr.loadAt 49 t7_1) w36 (fun t66_37 w37 =>
 CallF Tryd.prog 35 #[t66_37, v2, v3, v4, v5] w37 (fun t71_38 w38 =>
 DoV Tryd.prog (Instr.extract t71_38 0) w38 (fun t72_39 w39 =>
 DoV Tryd.prog (Instr.extract t71_38 1) w39 (fun t73_40 w40 =>
 DoV Tryd.prog (Instr.alloc 51 true (.tuple #[])) w40 (fun t20_41 w41 =>
 DoU Tryd.prog (Instr.storeAt 51 t20_41 t72_39) w41 (fun _ w42 =>
 DoV Tryd.prog (Instr.loadAt 49 t7_1) w42 (fun t75_43 w43 =>
 CallF Tryd.prog 36 #[t75_43, v2, v3, v4, v5] w43 (fun t80_44 w44 =>
 DoV Tryd.prog (Instr.extract t80_44 0) w44 (fun t81_45 w45 =>
 DoV Tryd.prog (Instr.extract t80_44 1) w45 (fun t82_46 w46 =>
 DoV Tryd.prog (Instr.alloc 51 true (.tuple #[])) w46 (fun t21_47 w47 =>
 DoU Tryd.prog (Instr.storeAt 51 t21_47 t81_45) w47 (fun _ w48 =>
 JoinE [15] (fun K49 =>
 Gd (h36 15) true (DoV Tryd.prog (Instr.loadAt 51 t20_41) w48 (fun t85_50 w50 =>
 DoV Tryd.prog (Instr.loadAt 51 t21_47) w50 (fun t86_51 w51 =>
 CallF Tryd.prog 37 #[t85_50, t86_51] w51 (fun t87_52 w52 =>
 Gd t87_52 true (DoV Tryd.prog (binS BinOp.eql 28 (Operand.tmp 90) (Operand.tmp 91) t73_40 t82_46) w52 (fun t92_53 w53 =>
 K49 [t92_53] w53) (Pan R))
(K49 [(Value.bool false)] w52)) (Pan R)) (Pan R)) (Pan R))
(K49 [(Value.bool false)] w48))
(fun h54 w54 =>
 DoV Tryd.prog (Instr.loadAt 51 t8_2) w54 (fun t95_55 w55 =>
 CallF Tryd.prog 38 #[t95_55, v6] w55 (fun t97_56 w56 =>
 DoV Tryd.prog (Instr.extract t97_56 0) w56 (fun t98_57 w57 =>
 DoV Tryd.prog (Instr.extract t97_56 1) w57 (fun t99_58 w58 =>
 DoV Tryd.prog (Instr.loadAt 51 t8_2) w58 (fun t101_59 w59 =>
 CallF Tryd.prog 39 #[t101_59, v6] w59 (fun t103_60 w60 =>
 DoV Tryd.prog (Instr.extract t103_60 0) w60 (fun t104_61 w61 =>
 DoV Tryd.prog (Instr.extract t103_60 1) w61 (fun t105_62 w62 =>
 Gd (h54 15) true (DoV Tryd.prog (binS BinOp.eql 4 (Operand.tmp 108) (Operand.tmp 109) t98_57 t104_61) w62 (fun t110_63 w63 =>
 Gd t110_63 true (DoV Tryd.prog (binS BinOp.eql 28 (Operand.tmp 113) (Operand.tmp 114) t99_58 t105_62) w63 (fun t115_64 w64 =>
 R (.returned t115_64) w64) (Pan R))
(R (.returned (Value.bool false)) w63)) (Pan R))
(R (.returned (Value.bool false)) w62)) (Pan R)) (Pan R)) (Pan R)) (Pan R)) (Pan R)) (Pan R)) (Pan R)) (Pan R))) (Pan R)) (Pan R)) (Pan R)) (Pan R)) (Pan R)) (Pan R)) (Pan R)) (Pan R)) (Pan R)) (Pan R)) (Pan R)) (Pan R))) (Pan R)) (Pan R)) (Pan R)) (Pan R)) (Pan R)) (Pan R)) (Pan R)) (Pan R))) (Pan R)) (Pan R)) (Pan R))
theorem sh_landfalllaw24_ReportMatchesReference_eq (v0 v1 v2 v3 v4 v5 v6 : Value) (R : Ending → World → Prop) (w : World) : vc Tryd.prog [(6, 15, false, 14)] [15] (Tryd.f6.body.getD .skip) (endE Tryd.prog Tryd.f6.results R) (argsE [v0, v1, v2, v3, v4, v5, v6]) [] w = sh_landfalllaw24_ReportMatchesReference v0 v1 v2 v3 v4 v5 v6 R w := by kernel_rfl
theorem sh_landfalllaw24_ReportMatchesReference_ok (v0 v1 v2 v3 v4 v5 v6 : Value) {R : Ending → World → Prop} {w : World} (h : sh_landfalllaw24_ReportMatchesReference v0 v1 v2 v3 v4 v5 v6 R w) : Calls Tryd.prog 6 #[v0, v1, v2, v3, v4, v5, v6] w R :=
  calls_of_vc (args := [v0, v1, v2, v3, v4, v5, v6]) [(6, 15, false, 14)] [15] follows_mixed Tryd.func6 rfl (of_decide_eq_true (by kernel_rfl)) (by kernel_rfl) ((sh_landfalllaw24_ReportMatchesReference_eq v0 v1 v2 v3 v4 v5 v6 R w).symm ▸ h)
/- landfall/landfalllaw24.ReportChains -/
def sh_landfalllaw24_ReportChains (v0 v1 v2 : Value) (R : Ending → World → Prop) (w : World) : Prop := (
 DoV Tryd.prog (Instr.box 49 v0) w (fun t3_1 w1 =>
 CallF Tryd.prog 29 #[] w1 (fun t18_2 w2 =>
 DoV Tryd.prog (Instr.loadAt 49 t3_1) w2 (fun t19_3 w3 =>
 CallF Tryd.prog 40 #[t19_3] w3 (fun t20_4 w4 =>
 DoV Tryd.prog (Op.unary UnOp.not t20_4) w4 (fun t21_5 w5 =>
 Br t21_5
(R (.returned t18_2) w5)
(DoV Tryd.prog (convert 5 3 v1) w5 (fun t24_6 w6 =>
 DoV Tryd.prog (Instr.fieldAt 49 t3_1 2) w6 (fun t25_7 w7 =>
 DoV Tryd.prog (Instr.loadAt 47 t25_7) w7 (fun t26_8 w8 =>
 CallB Tryd.prog Builtin.len #[47] 3 #[false] #[t26_8] w8 (fun t27_9 w9 =>
 DoV Tryd.prog (binS BinOp.add 3 (Operand.tmp 27) (Operand.const (Value.int IntKind.i64 1)) t27_9 (Value.int IntKind.i64 1)) w9 (fun t28_10 w10 =>
 DoV Tryd.prog (binS BinOp.rem 3 (Operand.tmp 24) (Operand.tmp 28) t24_6 t28_10) w10 (fun t29_11 w11 =>
 DoV Tryd.prog (Instr.loadAt 49 t3_1) w11 (fun t31_12 w12 =>
 CallF Tryd.prog 31 #[t31_12, t29_11] w12 (fun t33_13 w13 =>
 DoV Tryd.prog (Instr.extract t33_13 0) w13 (fun t34_14 w14 =>
 DoV Tryd.prog (Instr.extract t33_13 1) w14 (fun t35_15 w15 =>
 DoV Tryd.prog (Instr.loadAt 49 t3_1) w15 (fun t36_16 w16 =>
 DoV Tryd.prog (Instr.alloc 49 true (.tuple #[])) w16 (fun t11_17 w17 =>
 DoU Tryd.prog (Instr.storeAt 49 t11_17 t36_16) w17 (fun _ w18 =>
 DoV Tryd.prog (Instr.fieldAt 49 t3_1 2) w18 (fun t37_19 w19 =>
 DoV Tryd.prog (Instr.loadAt 47 t37_19) w19 (fun t38_20 w20 =>
 DoV Tryd.prog (Instr.sliceAt 47 t38_20 none (some t29_11) none) w20 (fun t40_21 w21 =>
 DoV Tryd.prog (Instr.fieldAt 49 t11_17 2) w21 (fun t41_22 w22 =>
 DoU Tryd.prog (Instr.storeAt 47 t41_22 t40_21) w22 (fun _ w23 =>
 JoinE [] (fun K24 =>
 DoV Tryd.prog (Instr.fieldAt 49 t3_1 0) w23 (fun t42_25 w25 =>
 DoV Tryd.prog (Instr.loadAt 3 t42_25) w25 (fun t43_26 w26 =>
 DoV Tryd.prog (Instr.build 49 #[(0, t43_26), (1, v2)]) w26 (fun t45_27 w27 =>
 DoV Tryd.prog (Instr.alloc 49 true (.tuple #[])) w27 (fun t12_28 w28 =>
 DoU Tryd.prog (Instr.storeAt 49 t12_28 t45_27) w28 (fun _ w29 =>
 DoV Tryd.prog (Instr.loadAt 49 t12_28) w29 (fun t46_30 w30 =>
 CallF Tryd.prog 40 #[t46_30] w30 (fun t47_31 w31 =>
 Br t47_31
(DoV Tryd.prog (Instr.fieldAt 49 t11_17 1) w31 (fun t49_32 w32 =>
 DoU Tryd.prog (Instr.storeAt 46 t49_32 v2) w32 (fun _ w33 =>
 K24 [] w33) (Pan R)) (Pan R))
(K24 [] w31)) (Pan R)) (Pan R)) (Pan R)) (Pan R)) (Pan R)) (Pan R)) (Pan R))
(fun _ w34 =>
 DoV Tryd.prog (Instr.loadAt 49 t11_17) w34 (fun t51_35 w35 =>
 CallF Tryd.prog 31 #[t51_35, t29_11] w35 (fun t53_36 w36 =>
 DoV Tryd.prog (Instr.extract t53_36 0) w36 (fun t54_37 w37 =>
 DoV Tryd.prog (Instr.extract t53_36 1) w37 (fun t55_38 w38 =>
 DoV Tryd.prog (Instr.fieldAt 49 t3_1 0) w38 (fun t56_39 w39 =>
 DoV Tryd.prog (Instr.loadAt 3 t56_39) w39 (fun t57_40 w40 =>
 DoV Tryd.prog (Instr.buildSlice 24 1 #[(0, t57_40)]) w40 (fun t58_41 w41 =>
 CallF Tryd.prog 41 #[t58_41] w41 (fun t59_42 w42 =>
 DoV Tryd.prog (Instr.fieldAt 49 t3_1 2) w42 (fun t60_43 w43 =>
 DoV Tryd.prog (Instr.loadAt 47 t60_43) w43 (fun t61_44 w44 =>
 DoV Tryd.prog (Instr.sliceAt 47 t61_44 none (some t29_11) none) w44 (fun t63_45 w45 =>
 CallB Tryd.prog Builtin.len #[47] 3 #[false] #[t63_45] w45 (fun t64_46 w46 =>
 LoopE [15, 65] [t59_42, (Value.int IntKind.i64 0)] w46 (fun h47 w47 K47 =>
 DoV Tryd.prog (binS BinOp.lss 3 (Operand.tmp 65) (Operand.tmp 64) (h47 65) t64_46) w47 (fun t66_48 w48 =>
 Br t66_48
(DoV Tryd.prog (Instr.indexAt 47 t63_45 (h47 65)) w48 (fun t67_49 w49 =>
 DoV Tryd.prog (Instr.loadAt 64 t67_49) w49 (fun t68_50 w50 =>
 DoV Tryd.prog (Instr.alloc 64 true (.tuple #[])) w50 (fun t17_51 w51 =>
 DoU Tryd.prog (Instr.storeAt 64 t17_51 t68_50) w51 (fun _ w52 =>
 DoV Tryd.prog (Instr.loadAt 64 t17_51) w52 (fun t70_53 w53 =>
 CallF Tryd.prog 43 #[t70_53] w53 (fun t71_54 w54 =>
 CallF Tryd.prog 42 #[(h47 15), t71_54] w54 (fun t72_55 w55 =>
 DoV Tryd.prog (binS BinOp.add 3 (Operand.tmp 65) (Operand.const (Value.int IntKind.i64 1)) (h47 65) (Value.int IntKind.i64 1)) w55 (fun t73_56 w56 =>
 K47 [t72_55, t73_56] w56) (Pan R)) (Pan R)) (Pan R)) (Pan R)) (Pan R)) (Pan R)) (Pan R)) (Pan R))
(Gd t18_2 true (DoV Tryd.prog (binS BinOp.eql 28 (Operand.tmp 76) (Operand.const (Value.int IntKind.i64 0)) t35_15 (Value.int IntKind.i64 0)) w48 (fun t77_57 w57 =>
 Gd t77_57 true (DoV Tryd.prog (binS BinOp.eql 28 (Operand.tmp 80) (Operand.const (Value.int IntKind.i64 0)) t55_38 (Value.int IntKind.i64 0)) w57 (fun t81_58 w58 =>
 Gd t81_58 true (DoV Tryd.prog (binS BinOp.eql 39 (Operand.tmp 84) (Operand.tmp 85) t34_14 t54_37) w58 (fun t86_59 w59 =>
 Gd t86_59 true (DoV Tryd.prog (binS BinOp.eql 39 (Operand.tmp 89) (Operand.tmp 90) t34_14 (h47 15)) w59 (fun t91_60 w60 =>
 R (.returned t91_60) w60) (Pan R))
(R (.returned (Value.bool false)) w59)) (Pan R))
(R (.returned (Value.bool false)) w58)) (Pan R))
(R (.returned (Value.bool false)) w57)) (Pan R))
(R (.returned (Value.bool false)) w48))) (Pan R))) (Pan R)) (Pan R)) (Pan R)) (Pan R)) (Pan R)) (Pan R)) (Pan R)) (Pan R)) (Pan R)) (Pan R)) (Pan R)) (Pan R))) (Pan R)) (Pan R)) (Pan R)) (Pan R)) (Pan R)) (Pan R)) (Pan R)) (Pan R)) (Pan R)) (Pan R)) (Pan R)) (Pan R)) (Pan R)) (Pan R)) (Pan R)) (Pan R)) (Pan R)) (Pan R))) (Pan R)) (Pan R)) (Pan R)) (Pan R)) (Pan R))
theorem sh_landfalllaw24_ReportChains_eq (v0 v1 v2 : Value) (R : Ending → World → Prop) (w : World) : vc Tryd.prog [] [15, 65] (Tryd.f7.body.getD .skip) (endE Tryd.prog Tryd.f7.results R) (argsE [v0, v1, v2]) [] w = sh_landfalllaw24_ReportChains v0 v1 v2 R w := by kernel_rfl
theorem sh_landfalllaw24_ReportChains_ok (v0 v1 v2 : Value) {R : Ending → World → Prop} {w : World} (h : sh_landfalllaw24_ReportChains v0 v1 v2 R w) : Calls Tryd.prog 7 #[v0, v1, v2] w R :=
  calls_of_vc (args := [v0, v1, v2]) [] [15, 65] follows_mixed Tryd.func7 rfl (of_decide_eq_true (by kernel_rfl)) (by kernel_rfl) ((sh_landfalllaw24_ReportChains_eq v0 v1 v2 R w).symm ▸ h)
/- landfall/landfalllaw24.ReportDigits -/
def sh_landfalllaw24_ReportDigits (v0 v1 v2 : Value) (R : Ending → World → Prop) (w : World) : Prop := (
 DoV Tryd.prog (Instr.box 49 v0) w (fun t3_1 w1 =>
 CallF Tryd.prog 29 #[] w1 (fun t14_2 w2 =>
 DoV Tryd.prog (Instr.fieldAt 49 t3_1 2) w2 (fun t15_3 w3 =>
 DoV Tryd.prog (Instr.loadAt 47 t15_3) w3 (fun t16_4 w4 =>
 CallB Tryd.prog Builtin.len #[47] 3 #[false] #[t16_4] w4 (fun t17_5 w5 =>
 JoinE [] (fun K6 =>
 JoinE [24] (fun K7 =>
 DoV Tryd.prog (Instr.loadAt 49 t3_1) w5 (fun t18_8 w8 =>
 CallF Tryd.prog 40 #[t18_8] w8 (fun t19_9 w9 =>
 DoV Tryd.prog (Op.unary UnOp.not t19_9) w9 (fun t20_10 w10 =>
 Gd t20_10 false (DoV Tryd.prog (binS BinOp.eql 3 (Operand.tmp 22) (Operand.const (Value.int IntKind.i64 0)) t17_5 (Value.int IntKind.i64 0)) w10 (fun t23_11 w11 =>
 K7 [t23_11] w11) (Pan R))
(K7 [(Value.bool true)] w10)) (Pan R)) (Pan R)) (Pan R))
(fun h12 w12 =>
 Br (h12 24)
(R (.returned t14_2) w12)
(K6 [] w12)))
(fun _ w13 =>
 DoV Tryd.prog (Instr.loadAt 49 t3_1) w13 (fun t26_14 w14 =>
 DoV Tryd.prog (Instr.alloc 49 true (.tuple #[])) w14 (fun t9_15 w15 =>
 DoU Tryd.prog (Instr.storeAt 49 t9_15 t26_14) w15 (fun _ w16 =>
 DrawE w16 (fun Rs17 Rb17 w17 =>
 DetOp Rb17 Rs17 w17 (fun w18 K18 => DoV Tryd.prog (Instr.fieldAt 49 t3_1 2) w18 K18 (Pan R)) (fun c27_18 ψ18 =>
 DetOp Rb17 Rs17 w17 (fun w19 K19 => DoV Tryd.prog (Instr.loadAt 47 c27_18) w19 K19 (Pan R)) (fun c28_19 ψ19 =>
 DetOp Rb17 Rs17 w17 (fun w20 K20 => DoV Tryd.prog (Instr.fieldAt 49 t3_1 2) w20 K20 (Pan R)) (fun c29_20 ψ20 =>
 DetOp Rb17 Rs17 w17 (fun w21 K21 => DoV Tryd.prog (Instr.loadAt 47 c29_20) w21 K21 (Pan R)) (fun c30_21 ψ21 =>
 DetOp Rb17 Rs17 w17 (fun w22 K22 => DoV Tryd.prog (binS BinOp.sub 3 (Operand.tmp 31) (Operand.const (Value.int IntKind.i64 1)) t17_5 (Value.int IntKind.i64 1)) w22 K22 (Pan R)) (fun c32_22 ψ22 =>
 DetOp Rb17 Rs17 w17 (fun w23 K23 => DoV Tryd.prog (Instr.indexAt 47 c30_21 c32_22) w23 K23 (Pan R)) (fun c33_23 ψ23 =>
 DetOp Rb17 Rs17 w17 (fun w24 K24 => DoV Tryd.prog (Instr.loadAt 64 c33_23) w24 K24 (Pan R)) (fun c34_24 ψ24 =>
 DetOp Rs17 Rb17 w17 (fun w25 K25 => CallF Tryd.prog 45 #[c34_24, v1, v2] w25 K25 (Pan R)) (fun c37_25 ψ25 =>
 ∀ w26, Rb17 w17 w26 → ((((((((True ∧ ψ18 w26) ∧ ψ19 w26) ∧ ψ20 w26) ∧ ψ21 w26) ∧ ψ22 w26) ∧ ψ23 w26) ∧ ψ24 w26) ∧ ψ25 w26) →
 CallF Tryd.prog 44 #[c28_19, c37_25] w26 (fun t38_27 w27 =>
 DoV Tryd.prog (Instr.fieldAt 49 t9_15 2) w27 (fun t39_28 w28 =>
 DoU Tryd.prog (Instr.storeAt 47 t39_28 t38_27) w28 (fun _ w29 =>
 DoV Tryd.prog (Instr.loadAt 49 t3_1) w29 (fun t41_30 w30 =>
 CallF Tryd.prog 31 #[t41_30, t17_5] w30 (fun t43_31 w31 =>
 DoV Tryd.prog (Instr.extract t43_31 0) w31 (fun t44_32 w32 =>
 DoV Tryd.prog (Instr.extract t43_31 1) w32 (fun t45_33 w33 =>
 DoV Tryd.prog (Instr.loadAt 49 t9_15) w33 (fun t47_34 w34 =>
 CallF Tryd.prog 31 #[t47_34, t17_5] w34 (fun t49_35 w35 =>
 DoV Tryd.prog (Instr.extract t49_35 0) w35 (fun t50_36 w36 =>
 DoV Tryd.prog (Instr.extract t49_35 1) w36 (fun t51_37 w37 =>
 JoinE [] (fun K38 =>
 JoinE [57] (fun K39 =>
 DoV Tryd.prog (binS BinOp.neq 28 (Operand.tmp 52) (Operand.const (Value.int IntKind.i64 0)) t45_33 (Value.int IntKind.i64 0)) w37 (fun t53_40 w40 =>
 Gd t53_40 false (DoV Tryd.prog (binS BinOp.neq 28 (Operand.tmp 55) (Operand.const (Value.int IntKind.i64 0)) t51_37 (Value.int IntKind.i64 0)) w40 (fun t56_41 w41 =>
 K39 [t56_41] w41) (Pan R))
(K39 [(Value.bool true)] w40)) (Pan R))
(fun h42 w42 =>
 Br (h42 57)
(Gd t14_2 true (DoV Tryd.prog (binS BinOp.eql 28 (Operand.tmp 60) (Operand.const (Value.int IntKind.i64 0)) t45_33 (Value.int IntKind.i64 0)) w42 (fun t61_43 w43 =>
 Gd t61_43 true (DoV Tryd.prog (binS BinOp.eql 28 (Operand.tmp 64) (Operand.const (Value.int IntKind.i64 1)) t51_37 (Value.int IntKind.i64 1)) w43 (fun t65_44 w44 =>
 Gd t65_44 true (DoV Tryd.prog (Instr.loadAt 49 t9_15) w44 (fun t68_45 w45 =>
 CallF Tryd.prog 33 #[t68_45] w45 (fun t69_46 w46 =>
 DoV Tryd.prog (Op.unary UnOp.not t69_46) w46 (fun t70_47 w47 =>
 R (.returned t70_47) w47) (Pan R)) (Pan R)) (Pan R))
(R (.returned (Value.bool false)) w44)) (Pan R))
(R (.returned (Value.bool false)) w43)) (Pan R))
(R (.returned (Value.bool false)) w42))
(K38 [] w42)))
(fun _ w48 =>
 DrawE w48 (fun Rs49 Rb49 w49 =>
 Gd t14_2 true (DetOp Rb49 Rs49 w49 (fun w50 K50 => DoV Tryd.prog (binS BinOp.neq 39 (Operand.tmp 74) (Operand.tmp 75) t44_32 t50_36) w50 K50 (Pan R)) (fun c76_50 ψ50 =>
 Gd c76_50 false (DetOp Rb49 Rs49 w49 (fun w51 K51 => DoV Tryd.prog (Instr.fieldAt 49 t9_15 2) w51 K51 (Pan R)) (fun c78_51 ψ51 =>
 DetOp Rb49 Rs49 w49 (fun w52 K52 => DoV Tryd.prog (Instr.loadAt 47 c78_51) w52 K52 (Pan R)) (fun c79_52 ψ52 =>
 DetOp Rb49 Rs49 w49 (fun w53 K53 => DoV Tryd.prog (binS BinOp.sub 3 (Operand.tmp 80) (Operand.const (Value.int IntKind.i64 1)) t17_5 (Value.int IntKind.i64 1)) w53 K53 (Pan R)) (fun c81_53 ψ53 =>
 DetOp Rb49 Rs49 w49 (fun w54 K54 => DoV Tryd.prog (Instr.indexAt 47 c79_52 c81_53) w54 K54 (Pan R)) (fun c82_54 ψ54 =>
 DetOp Rb49 Rs49 w49 (fun w55 K55 => DoV Tryd.prog (Instr.loadAt 64 c82_54) w55 K55 (Pan R)) (fun c83_55 ψ55 =>
 DetOp Rb49 Rs49 w49 (fun w56 K56 => DoV Tryd.prog (Instr.fieldAt 49 t3_1 2) w56 K56 (Pan R)) (fun c84_56 ψ56 =>
 DetOp Rb49 Rs49 w49 (fun w57 K57 => DoV Tryd.prog (Instr.loadAt 47 c84_56) w57 K57 (Pan R)) (fun c85_57 ψ57 =>
 DetOp Rb49 Rs49 w49 (fun w58 K58 => DoV Tryd.prog (binS BinOp.sub 3 (Operand.tmp 86) (Operand.const (Value.int IntKind.i64 1)) t17_5 (Value.int IntKind.i64 1)) w58 K58 (Pan R)) (fun c87_58 ψ58 =>
 DetOp Rb49 Rs49 w49 (fun w59 K59 => DoV Tryd.prog (Instr.indexAt 47 c85_57 c87_58) w59 K59 (Pan R)) (fun c88_59 ψ59 =>
 DetOp Rb49 Rs49 w49 (fun w60 K60 => DoV Tryd.prog (Instr.loadAt 64 c88_59) w60 K60 (Pan R)) (fun c89_60 ψ60 =>
 ∀ w61, Rb49 w49 w61 → (((((((((((True ∧ ψ50 w61) ∧ ψ51 w61) ∧ ψ52 w61) ∧ ψ53 w61) ∧ ψ54 w61) ∧ ψ55 w61) ∧ ψ56 w61) ∧ ψ57 w61) ∧ ψ58 w61) ∧ ψ59 w61) ∧ ψ60 w61) →
 DoV Tryd.prog (binS BinOp.eql 64 (Operand.tmp 83) (Operand.tmp 89) c83_55 c89_60) w61 (fun t90_62 w62 =>
 R (.returned t90_62) w62) (Pan R))))))))))))
(∀ w63, Rb49 w49 w63 → (True ∧ ψ50 w63) →
 R (.returned (Value.bool true)) w63)))
(∀ w64, Rb49 w49 w64 → True →
 R (.returned (Value.bool false)) w64)))) (Pan R)) (Pan R)) (Pan R)) (Pan R)) (Pan R)) (Pan R)) (Pan R)) (Pan R)) (Pan R)) (Pan R)) (Pan R))))))))))) (Pan R)) (Pan R)) (Pan R))) (Pan R)) (Pan R)) (Pan R)) (Pan R)) (Pan R))
theorem sh_landfalllaw24_ReportDigits_eq (v0 v1 v2 : Value) (R : Ending → World → Prop) (w : World) : vc Tryd.prog [(6, 11, false, 11), (11, 18, false, 0)] [] (Tryd.f8.body.getD .skip) (endE Tryd.prog Tryd.f8.results R) (argsE [v0, v1, v2]) [] w = sh_landfalllaw24_ReportDigits v0 v1 v2 R w := by kernel_rfl
theorem sh_landfalllaw24_ReportDigits_ok (v0 v1 v2 : Value) {R : Ending → World → Prop} {w : World} (h : sh_landfalllaw24_ReportDigits v0 v1 v2 R w) : Calls Tryd.prog 8 #[v0, v1, v2] w R :=
  calls_of_vc (args := [v0, v1, v2]) [(6, 11, false, 11), (11, 18, false, 0)] [] follows_mixed Tryd.func8 rfl (of_decide_eq_true (by kernel_rfl)) (by kernel_rfl) ((sh_landfalllaw24_ReportDigits_eq v0 v1 v2 R w).symm ▸ h)
/- landfall/landfalllaw24.ReportRight -/
def sh_landfalllaw24_ReportRight (v0 v1 v2 v3 v4 : Value) (R : Ending → World → Prop) (w : World) : Prop := (
 DoV Tryd.prog (Instr.box 49 v0) w (fun t5_1 w1 =>
 CallF Tryd.prog 29 #[] w1 (fun t27_2 w2 =>
 DoV Tryd.prog (Instr.fieldAt 49 t5_1 2) w2 (fun t28_3 w3 =>
 DoV Tryd.prog (Instr.loadAt 47 t28_3) w3 (fun t29_4 w4 =>
 CallB Tryd.prog Builtin.len #[47] 3 #[false] #[t29_4] w4 (fun t30_5 w5 =>
 JoinE [] (fun K6 =>
 JoinE [37] (fun K7 =>
 DoV Tryd.prog (Instr.loadAt 49 t5_1) w5 (fun t31_8 w8 =>
 CallF Tryd.prog 40 #[t31_8] w8 (fun t32_9 w9 =>
 DoV Tryd.prog (Op.unary UnOp.not t32_9) w9 (fun t33_10 w10 =>
 Gd t33_10 false (DoV Tryd.prog (binS BinOp.eql 3 (Operand.tmp 35) (Operand.const (Value.int IntKind.i64 0)) t30_5 (Value.int IntKind.i64 0)) w10 (fun t36_11 w11 =>
 K7 [t36_11] w11) (Pan R))
(K7 [(Value.bool true)] w10)) (Pan R)) (Pan R)) (Pan R))
(fun h12 w12 =>
 Br (h12 37)
(R (.returned t27_2) w12)
(K6 [] w12)))
(fun _ w13 =>
 DoV Tryd.prog (convert 5 3 v1) w13 (fun t40_14 w14 =>
 DoV Tryd.prog (binS BinOp.rem 3 (Operand.tmp 40) (Operand.tmp 41) t40_14 t30_5) w14 (fun t42_15 w15 =>
 DoV Tryd.prog (binS BinOp.add 3 (Operand.const (Value.int IntKind.i64 1)) (Operand.tmp 42) (Value.int IntKind.i64 1) t42_15) w15 (fun t43_16 w16 =>
 DoV Tryd.prog (convert 5 3 v2) w16 (fun t46_17 w17 =>
 DoV Tryd.prog (binS BinOp.add 3 (Operand.tmp 47) (Operand.const (Value.int IntKind.i64 1)) t30_5 (Value.int IntKind.i64 1)) w17 (fun t48_18 w18 =>
 DoV Tryd.prog (binS BinOp.sub 3 (Operand.tmp 48) (Operand.tmp 49) t48_18 t43_16) w18 (fun t50_19 w19 =>
 DoV Tryd.prog (binS BinOp.rem 3 (Operand.tmp 46) (Operand.tmp 50) t46_17 t50_19) w19 (fun t51_20 w20 =>
 DoV Tryd.prog (binS BinOp.add 3 (Operand.tmp 44) (Operand.tmp 51) t43_16 t51_20) w20 (fun t52_21 w21 =>
 CallF Tryd.prog 46 #[v3, v4] w21 (fun t56_22 w22 =>
 DoV Tryd.prog (Instr.extract t56_22 0) w22 (fun t57_23 w23 =>
 DoV Tryd.prog (Instr.extract t56_22 1) w23 (fun t58_24 w24 =>
 DoV Tryd.prog (Instr.extract t56_22 2) w24 (fun t59_25 w25 =>
 DoV Tryd.prog (Instr.extract t56_22 3) w25 (fun t60_26 w26 =>
 DoV Tryd.prog (Instr.loadAt 49 t5_1) w26 (fun t62_27 w27 =>
 CallF Tryd.prog 35 #[t62_27, t43_16, t52_21, t57_23, t58_24] w27 (fun t67_28 w28 =>
 DoV Tryd.prog (Instr.extract t67_28 0) w28 (fun t68_29 w29 =>
 DoV Tryd.prog (Instr.extract t67_28 1) w29 (fun t69_30 w30 =>
 DoV Tryd.prog (Instr.alloc 51 true (.tuple #[])) w30 (fun t19_31 w31 =>
 DoU Tryd.prog (Instr.storeAt 51 t19_31 t68_29) w31 (fun _ w32 =>
 DoV Tryd.prog (Instr.loadAt 51 t19_31) w32 (fun t71_33 w33 =>
 CallF Tryd.prog 38 #[t71_33, t59_25] w33 (fun t73_34 w34 =>
 DoV Tryd.prog (Instr.extract t73_34 0) w34 (fun t74_35 w35 =>
 DoV Tryd.prog (Instr.extract t73_34 1) w35 (fun t75_36 w36 =>
 DoV Tryd.prog (Instr.loadAt 49 t5_1) w36 (fun t77_37 w37 =>
 DoV Tryd.prog (binS BinOp.sub 3 (Operand.tmp 78) (Operand.const (Value.int IntKind.i64 1)) t43_16 (Value.int IntKind.i64 1)) w37 (fun t79_38 w38 =>
 CallF Tryd.prog 31 #[t77_37, t79_38] w38 (fun t80_39 w39 =>
 DoV Tryd.prog (Instr.extract t80_39 0) w39 (fun t81_40 w40 =>
 DoV Tryd.prog (Instr.extract t80_39 1) w40 (fun t82_41 w41 =>
 DoV Tryd.prog (Instr.loadAt 49 t5_1) w41 (fun t84_42 w42 =>
 CallF Tryd.prog 31 #[t84_42, t52_21] w42 (fun t86_43 w43 =>
 DoV Tryd.prog (Instr.extract t86_43 0) w43 (fun t87_44 w44 =>
 DoV Tryd.prog (Instr.extract t86_43 1) w44 (fun t88_45 w45 =>
 JoinE [] (fun K46 =>
 JoinE [110] (fun K47 =>
 DoV Tryd.prog (Op.unary UnOp.not t60_26) w45 (fun t90_48 w48 =>
 Gd t90_48 false (DoV Tryd.prog (binS BinOp.neq 28 (Operand.tmp 92) (Operand.const (Value.int IntKind.i64 0)) t69_30 (Value.int IntKind.i64 0)) w48 (fun t93_49 w49 =>
 Gd t93_49 false (DoV Tryd.prog (binS BinOp.neq 28 (Operand.tmp 96) (Operand.const (Value.int IntKind.i64 0)) t75_36 (Value.int IntKind.i64 0)) w49 (fun t97_50 w50 =>
 Gd t97_50 false (DoV Tryd.prog (binS BinOp.neq 28 (Operand.tmp 100) (Operand.const (Value.int IntKind.i64 0)) t82_41 (Value.int IntKind.i64 0)) w50 (fun t101_51 w51 =>
 Gd t101_51 false (DoV Tryd.prog (binS BinOp.neq 28 (Operand.tmp 104) (Operand.const (Value.int IntKind.i64 0)) t88_45 (Value.int IntKind.i64 0)) w51 (fun t105_52 w52 =>
 Gd t105_52 false (DoV Tryd.prog (Op.unary UnOp.not t74_35) w52 (fun t109_53 w53 =>
 K47 [t109_53] w53) (Pan R))
(K47 [(Value.bool true)] w52)) (Pan R))
(K47 [(Value.bool true)] w51)) (Pan R))
(K47 [(Value.bool true)] w50)) (Pan R))
(K47 [(Value.bool true)] w49)) (Pan R))
(K47 [(Value.bool true)] w48)) (Pan R))
(fun h54 w54 =>
 Br (h54 110)
(R (.returned (Value.bool false)) w54)
(K46 [] w54)))
(fun _ w55 =>
 DrawE w55 (fun Rs56 Rb56 w56 =>
 Gd t27_2 true (DetOp Rb56 Rs56 w56 (fun w57 K57 => DoV Tryd.prog (Instr.fieldAt 51 t19_31 0) w57 K57 (Pan R)) (fun c113_57 ψ57 =>
 DetOp Rb56 Rs56 w56 (fun w58 K58 => DoV Tryd.prog (Instr.loadAt 3 c113_57) w58 K58 (Pan R)) (fun c114_58 ψ58 =>
 DetOp Rb56 Rs56 w56 (fun w59 K59 => DoV Tryd.prog (Instr.fieldAt 49 t5_1 0) w59 K59 (Pan R)) (fun c115_59 ψ59 =>
 DetOp Rb56 Rs56 w56 (fun w60 K60 => DoV Tryd.prog (Instr.loadAt 3 c115_59) w60 K60 (Pan R)) (fun c116_60 ψ60 =>
 DetOp Rb56 Rs56 w56 (fun w61 K61 => DoV Tryd.prog (binS BinOp.eql 3 (Operand.tmp 114) (Operand.tmp 116) c114_58 c116_60) w61 K61 (Pan R)) (fun c117_61 ψ61 =>
 Gd c117_61 true (DetOp Rb56 Rs56 w56 (fun w62 K62 => DoV Tryd.prog (Instr.fieldAt 51 t19_31 1) w62 K62 (Pan R)) (fun c120_62 ψ62 =>
 DetOp Rb56 Rs56 w56 (fun w63 K63 => DoV Tryd.prog (Instr.loadAt 3 c120_62) w63 K63 (Pan R)) (fun c121_63 ψ63 =>
 DetOp Rb56 Rs56 w56 (fun w64 K64 => DoV Tryd.prog (binS BinOp.eql 3 (Operand.tmp 121) (Operand.tmp 122) c121_63 t43_16) w64 K64 (Pan R)) (fun c123_64 ψ64 =>
 Gd c123_64 true (DetOp Rb56 Rs56 w56 (fun w65 K65 => DoV Tryd.prog (Instr.fieldAt 51 t19_31 3) w65 K65 (Pan R)) (fun c126_65 ψ65 =>
 DetOp Rb56 Rs56 w56 (fun w66 K66 => DoV Tryd.prog (Instr.loadAt 39 c126_65) w66 K66 (Pan R)) (fun c127_66 ψ66 =>
 DetOp Rb56 Rs56 w56 (fun w67 K67 => DoV Tryd.prog (binS BinOp.eql 39 (Operand.tmp 127) (Operand.tmp 128) c127_66 t81_40) w67 K67 (Pan R)) (fun c129_67 ψ67 =>
 Gd c129_67 true (DetOp Rb56 Rs56 w56 (fun w68 K68 => DoV Tryd.prog (Instr.fieldAt 51 t19_31 4) w68 K68 (Pan R)) (fun c132_68 ψ68 =>
 DetOp Rb56 Rs56 w56 (fun w69 K69 => DoV Tryd.prog (Instr.loadAt 39 c132_68) w69 K69 (Pan R)) (fun c133_69 ψ69 =>
 DetOp Rb56 Rs56 w56 (fun w70 K70 => DoV Tryd.prog (binS BinOp.eql 39 (Operand.tmp 133) (Operand.tmp 134) c133_69 t87_44) w70 K70 (Pan R)) (fun c135_70 ψ70 =>
 Gd c135_70 true (DetOp Rb56 Rs56 w56 (fun w71 K71 => DoV Tryd.prog (Instr.fieldAt 51 t19_31 2) w71 K71 (Pan R)) (fun c138_71 ψ71 =>
 DetOp Rb56 Rs56 w56 (fun w72 K72 => DoV Tryd.prog (Instr.loadAt 47 c138_71) w72 K72 (Pan R)) (fun c139_72 ψ72 =>
 DetOp Rb56 Rs56 w56 (fun w73 K73 => DoV Tryd.prog (Instr.fieldAt 49 t5_1 2) w73 K73 (Pan R)) (fun c140_73 ψ73 =>
 DetOp Rb56 Rs56 w56 (fun w74 K74 => DoV Tryd.prog (Instr.loadAt 47 c140_73) w74 K74 (Pan R)) (fun c141_74 ψ74 =>
 DetOp Rb56 Rs56 w56 (fun w75 K75 => DoV Tryd.prog (binS BinOp.sub 3 (Operand.tmp 142) (Operand.const (Value.int IntKind.i64 1)) t43_16 (Value.int IntKind.i64 1)) w75 K75 (Pan R)) (fun c143_75 ψ75 =>
 DetOp Rb56 Rs56 w56 (fun w76 K76 => DoV Tryd.prog (Instr.sliceAt 47 c141_74 (some c143_75) (some t52_21) none) w76 K76 (Pan R)) (fun c145_76 ψ76 =>
 ∀ w77, Rb56 w56 w77 → ((((((((((((((((((((True ∧ ψ57 w77) ∧ ψ58 w77) ∧ ψ59 w77) ∧ ψ60 w77) ∧ ψ61 w77) ∧ ψ62 w77) ∧ ψ63 w77) ∧ ψ64 w77) ∧ ψ65 w77) ∧ ψ66 w77) ∧ ψ67 w77) ∧ ψ68 w77) ∧ ψ69 w77) ∧ ψ70 w77) ∧ ψ71 w77) ∧ ψ72 w77) ∧ ψ73 w77) ∧ ψ74 w77) ∧ ψ75 w77) ∧ ψ76 w77) →
 CallF Tryd.prog 47 #[c139_72, c145_76] w77 (fun t146_78 w78 =>
 R (.returned t146_78) w78) (Pan R))))))))
(∀ w79, Rb56 w56 w79 → ((((((((((((((True ∧ ψ57 w79) ∧ ψ58 w79) ∧ ψ59 w79) ∧ ψ60 w79) ∧ ψ61 w79) ∧ ψ62 w79) ∧ ψ63 w79) ∧ ψ64 w79) ∧ ψ65 w79) ∧ ψ66 w79) ∧ ψ67 w79) ∧ ψ68 w79) ∧ ψ69 w79) ∧ ψ70 w79) →
 R (.returned (Value.bool false)) w79)))))
(∀ w80, Rb56 w56 w80 → (((((((((((True ∧ ψ57 w80) ∧ ψ58 w80) ∧ ψ59 w80) ∧ ψ60 w80) ∧ ψ61 w80) ∧ ψ62 w80) ∧ ψ63 w80) ∧ ψ64 w80) ∧ ψ65 w80) ∧ ψ66 w80) ∧ ψ67 w80) →
 R (.returned (Value.bool false)) w80)))))
(∀ w81, Rb56 w56 w81 → ((((((((True ∧ ψ57 w81) ∧ ψ58 w81) ∧ ψ59 w81) ∧ ψ60 w81) ∧ ψ61 w81) ∧ ψ62 w81) ∧ ψ63 w81) ∧ ψ64 w81) →
 R (.returned (Value.bool false)) w81)))))
(∀ w82, Rb56 w56 w82 → (((((True ∧ ψ57 w82) ∧ ψ58 w82) ∧ ψ59 w82) ∧ ψ60 w82) ∧ ψ61 w82) →
 R (.returned (Value.bool false)) w82)))))))
(∀ w83, Rb56 w56 w83 → True →
 R (.returned (Value.bool false)) w83)))) (Pan R)) (Pan R)) (Pan R)) (Pan R)) (Pan R)) (Pan R)) (Pan R)) (Pan R)) (Pan R)) (Pan R)) (Pan R)) (Pan R)) (Pan R)) (Pan R)) (Pan R)) (Pan R)) (Pan R)) (Pan R)) (Pan R)) (Pan R)) (Pan R)) (Pan R)) (Pan R)) (Pan R)) (Pan R)) (Pan R)) (Pan R)) (Pan R)) (Pan R)) (Pan R)) (Pan R)) (Pan R))) (Pan R)) (Pan R)) (Pan R)) (Pan R)) (Pan R))
theorem sh_landfalllaw24_ReportRight_eq (v0 v1 v2 v3 v4 : Value) (R : Ending → World → Prop) (w : World) : vc Tryd.prog [(14, 35, false, 0)] [] (Tryd.f9.body.getD .skip) (endE Tryd.prog Tryd.f9.results R) (argsE [v0, v1, v2, v3, v4]) [] w = sh_landfalllaw24_ReportRight v0 v1 v2 v3 v4 R w := by kernel_rfl
theorem sh_landfalllaw24_ReportRight_ok (v0 v1 v2 v3 v4 : Value) {R : Ending → World → Prop} {w : World} (h : sh_landfalllaw24_ReportRight v0 v1 v2 v3 v4 R w) : Calls Tryd.prog 9 #[v0, v1, v2, v3, v4] w R :=
  calls_of_vc (args := [v0, v1, v2, v3, v4]) [(14, 35, false, 0)] [] follows_mixed Tryd.func9 rfl (of_decide_eq_true (by kernel_rfl)) (by kernel_rfl) ((sh_landfalllaw24_ReportRight_eq v0 v1 v2 v3 v4 R w).symm ▸ h)
/- landfall/landfalllaw24.ReportParts -/
def sh_landfalllaw24_ReportParts (v0 v1 v2 v3 v4 v5 : Value) (R : Ending → World → Prop) (w : World) : Prop := (
 DoV Tryd.prog (Instr.box 49 v0) w (fun t6_1 w1 =>
 CallF Tryd.prog 29 #[] w1 (fun t33_2 w2 =>
 DoV Tryd.prog (Instr.fieldAt 49 t6_1 2) w2 (fun t34_3 w3 =>
 DoV Tryd.prog (Instr.loadAt 47 t34_3) w3 (fun t35_4 w4 =>
 CallB Tryd.prog Builtin.len #[47] 3 #[false] #[t35_4] w4 (fun t36_5 w5 =>
 JoinE [] (fun K6 =>
 JoinE [43] (fun K7 =>
 DoV Tryd.prog (Instr.loadAt 49 t6_1) w5 (fun t37_8 w8 =>
 CallF Tryd.prog 40 #[t37_8] w8 (fun t38_9 w9 =>
 DoV Tryd.prog (Op.unary UnOp.not t38_9) w9 (fun t39_10 w10 =>
 Gd t39_10 false (DoV Tryd.prog (binS BinOp.lss 3 (Operand.tmp 41) (Operand.const (Value.int IntKind.i64 2)) t36_5 (Value.int IntKind.i64 2)) w10 (fun t42_11 w11 =>
 K7 [t42_11] w11) (Pan R))
(K7 [(Value.bool true)] w10)) (Pan R)) (Pan R)) (Pan R))
(fun h12 w12 =>
 Br (h12 43)
(R (.returned t33_2) w12)
(K6 [] w12)))
(fun _ w13 =>
 DoV Tryd.prog (convert 5 3 v1) w13 (fun t46_14 w14 =>
 DoV Tryd.prog (binS BinOp.sub 3 (Operand.tmp 47) (Operand.const (Value.int IntKind.i64 1)) t36_5 (Value.int IntKind.i64 1)) w14 (fun t48_15 w15 =>
 DoV Tryd.prog (binS BinOp.rem 3 (Operand.tmp 46) (Operand.tmp 48) t46_14 t48_15) w15 (fun t49_16 w16 =>
 DoV Tryd.prog (binS BinOp.add 3 (Operand.const (Value.int IntKind.i64 1)) (Operand.tmp 49) (Value.int IntKind.i64 1) t49_16) w16 (fun t50_17 w17 =>
 DoV Tryd.prog (binS BinOp.add 3 (Operand.tmp 51) (Operand.const (Value.int IntKind.i64 1)) t50_17 (Value.int IntKind.i64 1)) w17 (fun t52_18 w18 =>
 DoV Tryd.prog (convert 5 3 v3) w18 (fun t54_19 w19 =>
 DoV Tryd.prog (binS BinOp.sub 3 (Operand.tmp 55) (Operand.tmp 56) t36_5 t50_17) w19 (fun t57_20 w20 =>
 DoV Tryd.prog (binS BinOp.rem 3 (Operand.tmp 54) (Operand.tmp 57) t54_19 t57_20) w20 (fun t58_21 w21 =>
 DoV Tryd.prog (binS BinOp.add 3 (Operand.tmp 52) (Operand.tmp 58) t52_18 t58_21) w21 (fun t59_22 w22 =>
 DoV Tryd.prog (convert 5 3 v2) w22 (fun t62_23 w23 =>
 DoV Tryd.prog (binS BinOp.sub 3 (Operand.tmp 63) (Operand.tmp 64) t59_22 t50_17) w23 (fun t65_24 w24 =>
 DoV Tryd.prog (binS BinOp.rem 3 (Operand.tmp 62) (Operand.tmp 65) t62_23 t65_24) w24 (fun t66_25 w25 =>
 DoV Tryd.prog (binS BinOp.add 3 (Operand.tmp 60) (Operand.tmp 66) t50_17 t66_25) w25 (fun t67_26 w26 =>
 CallF Tryd.prog 46 #[v4, v5] w26 (fun t71_27 w27 =>
 DoV Tryd.prog (Instr.extract t71_27 0) w27 (fun t72_28 w28 =>
 DoV Tryd.prog (Instr.extract t71_27 1) w28 (fun t73_29 w29 =>
 DoV Tryd.prog (Instr.extract t71_27 2) w29 (fun t74_30 w30 =>
 DoV Tryd.prog (Instr.extract t71_27 3) w30 (fun t75_31 w31 =>
 DoV Tryd.prog (Instr.loadAt 49 t6_1) w31 (fun t77_32 w32 =>
 CallF Tryd.prog 35 #[t77_32, t50_17, t67_26, t72_28, t73_29] w32 (fun t82_33 w33 =>
 DoV Tryd.prog (Instr.extract t82_33 0) w33 (fun t83_34 w34 =>
 DoV Tryd.prog (Instr.extract t82_33 1) w34 (fun t84_35 w35 =>
 DoV Tryd.prog (Instr.alloc 51 true (.tuple #[])) w35 (fun t22_36 w36 =>
 DoU Tryd.prog (Instr.storeAt 51 t22_36 t83_34) w36 (fun _ w37 =>
 DoV Tryd.prog (Instr.loadAt 49 t6_1) w37 (fun t86_38 w38 =>
 DoV Tryd.prog (binS BinOp.add 3 (Operand.tmp 87) (Operand.const (Value.int IntKind.i64 1)) t67_26 (Value.int IntKind.i64 1)) w38 (fun t88_39 w39 =>
 CallF Tryd.prog 35 #[t86_38, t88_39, t59_22, t72_28, t73_29] w39 (fun t92_40 w40 =>
 DoV Tryd.prog (Instr.extract t92_40 0) w40 (fun t93_41 w41 =>
 DoV Tryd.prog (Instr.extract t92_40 1) w41 (fun t94_42 w42 =>
 DoV Tryd.prog (Instr.alloc 51 true (.tuple #[])) w42 (fun t24_43 w43 =>
 DoU Tryd.prog (Instr.storeAt 51 t24_43 t93_41) w43 (fun _ w44 =>
 DoV Tryd.prog (Instr.loadAt 49 t6_1) w44 (fun t96_45 w45 =>
 CallF Tryd.prog 35 #[t96_45, t50_17, t59_22, t72_28, t73_29] w45 (fun t101_46 w46 =>
 DoV Tryd.prog (Instr.extract t101_46 0) w46 (fun t102_47 w47 =>
 DoV Tryd.prog (Instr.extract t101_46 1) w47 (fun t103_48 w48 =>
 DoV Tryd.prog (Instr.alloc 51 true (.tuple #[])) w48 (fun t26_49 w49 =>
 DoU Tryd.prog (Instr.storeAt 51 t26_49 t102_47) w49 (fun _ w50 =>
 JoinE [] (fun K51 =>
 JoinE [117] (fun K52 =>
 DoV Tryd.prog (Op.unary UnOp.not t75_31) w50 (fun t105_53 w53 =>
 Gd t105_53 false (DoV Tryd.prog (binS BinOp.neq 28 (Operand.tmp 107) (Operand.const (Value.int IntKind.i64 0)) t84_35 (Value.int IntKind.i64 0)) w53 (fun t108_54 w54 =>
 Gd t108_54 false (DoV Tryd.prog (binS BinOp.neq 28 (Operand.tmp 111) (Operand.const (Value.int IntKind.i64 0)) t94_42 (Value.int IntKind.i64 0)) w54 (fun t112_55 w55 =>
 Gd t112_55 false (DoV Tryd.prog (binS BinOp.neq 28 (Operand.tmp 115) (Operand.const (Value.int IntKind.i64 0)) t103_48 (Value.int IntKind.i64 0)) w55 (fun t116_56 w56 =>
 K52 [t116_56] w56) (Pan R))
(K52 [(Value.bool true)] w55)) (Pan R))
(K52 [(Value.bool true)] w54)) (Pan R))
(K52 [(Value.bool true)] w53)) (Pan R))
(fun h57 w57 =>
 Br (h57 117)
(R (.returned (Value.bool false)) w57)
(K51 [] w57)))
(fun _ w58 =>
 DoV Tryd.prog (Instr.loadAt 51 t22_36) w58 (fun t118_59 w59 =>
 DoV Tryd.prog (Instr.loadAt 51 t24_43) w59 (fun t119_60 w60 =>
 DoV Tryd.prog (Instr.loadAt 51 t26_49) w60 (fun t120_61 w61 =>
 DoV Tryd.prog (Instr.buildSlice 76 3 #[(0, t118_59), (1, t119_60), (2, t120_61)]) w61 (fun t121_62 w62 =>
 CallB Tryd.prog Builtin.len #[76] 3 #[false] #[t121_62] w62 (fun t122_63 w63 =>
 LoopE [13, 123] [t33_2, (Value.int IntKind.i64 0)] w63 (fun h64 w64 K64 =>
 DoV Tryd.prog (binS BinOp.lss 3 (Operand.tmp 123) (Operand.tmp 122) (h64 123) t122_63) w64 (fun t124_65 w65 =>
 Br t124_65
(JoinE [13] (fun K66 =>
 DoV Tryd.prog (Instr.indexAt 76 t121_62 (h64 123)) w65 (fun t125_67 w67 =>
 DoV Tryd.prog (Instr.loadAt 51 t125_67) w67 (fun t126_68 w68 =>
 DoV Tryd.prog (Instr.alloc 51 true (.tuple #[])) w68 (fun t29_69 w69 =>
 DoU Tryd.prog (Instr.storeAt 51 t29_69 t126_68) w69 (fun _ w70 =>
 DoV Tryd.prog (Instr.loadAt 51 t29_69) w70 (fun t128_71 w71 =>
 CallF Tryd.prog 38 #[t128_71, t74_30] w71 (fun t130_72 w72 =>
 DoV Tryd.prog (Instr.extract t130_72 0) w72 (fun t131_73 w73 =>
 DoV Tryd.prog (Instr.extract t130_72 1) w73 (fun t132_74 w74 =>
 Gd (h64 13) true (DoV Tryd.prog (binS BinOp.eql 28 (Operand.tmp 135) (Operand.const (Value.int IntKind.i64 0)) t132_74 (Value.int IntKind.i64 0)) w74 (fun t136_75 w75 =>
 Gd t136_75 true (K66 [t131_73] w75)
(K66 [(Value.bool false)] w75)) (Pan R))
(K66 [(Value.bool false)] w74)) (Pan R)) (Pan R)) (Pan R)) (Pan R)) (Pan R)) (Pan R)) (Pan R)) (Pan R))
(fun h76 w76 =>
 DoV Tryd.prog (binS BinOp.add 3 (Operand.tmp 123) (Operand.const (Value.int IntKind.i64 1)) (h64 123) (Value.int IntKind.i64 1)) w76 (fun t141_77 w77 =>
 K64 [(h76 13), t141_77] w77) (Pan R)))
(DrawR w65 (fun R78 S78 w78 =>
 DetOp R78 (Both R78 S78) w78 (fun w79 K79 => DoV Tryd.prog (Instr.fieldAt 51 t22_36 2) w79 K79 (Pan R)) (fun c143_79 ψ79 =>
 DetOp R78 (Both R78 S78) w78 (fun w80 K80 => DoV Tryd.prog (Instr.loadAt 47 c143_79) w80 K80 (Pan R)) (fun c144_80 ψ80 =>
 DetOp R78 (Both R78 S78) w78 (fun w81 K81 => DoV Tryd.prog (Instr.fieldAt 51 t24_43 2) w81 K81 (Pan R)) (fun c146_81 ψ81 =>
 DetOp R78 (Both R78 S78) w78 (fun w82 K82 => DoV Tryd.prog (Instr.loadAt 47 c146_81) w82 K82 (Pan R)) (fun c147_82 ψ82 =>
 ThrE R78 S78 0 w78 (fun Θ78_0 T78_0 =>
 NdC R78 S78 0 w78 Θ78_0 (fun w83 K83 => DoV Tryd.prog (Instr.buildSlice 47 0 #[]) w83 K83 (Pan R)) (fun v142_83 φ83 =>
 NdC R78 S78 0 w78 φ83 (fun w84 K84 => CallB Tryd.prog Builtin.append #[47, 47] 47 #[false, false] #[v142_83, c144_80] w84 K84 (Pan R)) (fun v145_84 φ84 =>
 T78_0 [v142_83, v145_84] φ84))) (fun Φ78_0 =>
 ∀ (h85 : Nat → Value) (w86 : World), R78 w78 w86 → ((((True ∧ ψ79 w86) ∧ ψ80 w86) ∧ ψ81 w86) ∧ ψ82 w86) ∧ (True ∧ Φ78_0 [(h85 142), (h85 145)] w86) →
 CallB Tryd.prog Builtin.append #[47, 47] 47 #[false, false] #[(h85 145), c147_82] w86 (fun t148_87 w87 =>
 Gd (h64 13) true (DoV Tryd.prog (Instr.fieldAt 51 t22_36 4) w87 (fun t151_88 w88 =>
 DoV Tryd.prog (Instr.loadAt 39 t151_88) w88 (fun t152_89 w89 =>
 DoV Tryd.prog (Instr.fieldAt 51 t24_43 3) w89 (fun t153_90 w90 =>
 DoV Tryd.prog (Instr.loadAt 39 t153_90) w90 (fun t154_91 w91 =>
 DoV Tryd.prog (binS BinOp.eql 39 (Operand.tmp 152) (Operand.tmp 154) t152_89 t154_91) w91 (fun t155_92 w92 =>
 Gd t155_92 true (DoV Tryd.prog (Instr.fieldAt 51 t26_49 3) w92 (fun t158_93 w93 =>
 DoV Tryd.prog (Instr.loadAt 39 t158_93) w93 (fun t159_94 w94 =>
 DoV Tryd.prog (Instr.fieldAt 51 t22_36 3) w94 (fun t160_95 w95 =>
 DoV Tryd.prog (Instr.loadAt 39 t160_95) w95 (fun t161_96 w96 =>
 DoV Tryd.prog (binS BinOp.eql 39 (Operand.tmp 159) (Operand.tmp 161) t159_94 t161_96) w96 (fun t162_97 w97 =>
 Gd t162_97 true (DoV Tryd.prog (Instr.fieldAt 51 t26_49 4) w97 (fun t165_98 w98 =>
 DoV Tryd.prog (Instr.loadAt 39 t165_98) w98 (fun t166_99 w99 =>
 DoV Tryd.prog (Instr.fieldAt 51 t24_43 4) w99 (fun t167_100 w100 =>
 DoV Tryd.prog (Instr.loadAt 39 t167_100) w100 (fun t168_101 w101 =>
 DoV Tryd.prog (binS BinOp.eql 39 (Operand.tmp 166) (Operand.tmp 168) t166_99 t168_101) w101 (fun t169_102 w102 =>
 Gd t169_102 true (DoV Tryd.prog (Instr.fieldAt 51 t26_49 2) w102 (fun t173_103 w103 =>
 DoV Tryd.prog (Instr.loadAt 47 t173_103) w103 (fun t174_104 w104 =>
 CallF Tryd.prog 47 #[t148_87, t174_104] w104 (fun t175_105 w105 =>
 R (.returned t175_105) w105) (Pan R)) (Pan R)) (Pan R))
(R (.returned (Value.bool false)) w102)) (Pan R)) (Pan R)) (Pan R)) (Pan R)) (Pan R))
(R (.returned (Value.bool false)) w97)) (Pan R)) (Pan R)) (Pan R)) (Pan R)) (Pan R))
(R (.returned (Value.bool false)) w92)) (Pan R)) (Pan R)) (Pan R)) (Pan R)) (Pan R))
(R (.returned (Value.bool false)) w87)) (Pan R))))))))) (Pan R))) (Pan R)) (Pan R)) (Pan R)) (Pan R)) (Pan R))) (Pan R)) (Pan R)) (Pan R)) (Pan R)) (Pan R)) (Pan R)) (Pan R)) (Pan R)) (Pan R)) (Pan R)) (Pan R)) (Pan R)) (Pan R)) (Pan R)) (Pan R)) (Pan R)) (Pan R)) (Pan R)) (Pan R)) (Pan R)) (Pan R)) (Pan R)) (Pan R)) (Pan R)) (Pan R)) (Pan R)) (Pan R)) (Pan R)) (Pan R)) (Pan R)) (Pan R)) (Pan R)) (Pan R)) (Pan R)) (Pan R)) (Pan R)) (Pan R))) (Pan R)) (Pan R)) (Pan R)) (Pan R)) (Pan R))
theorem sh_landfalllaw24_ReportParts_eq (v0 v1 v2 v3 v4 v5 : Value) (R : Ending → World → Prop) (w : World) : vc Tryd.prog [(20, 6, false, 1513)] [13, 123] (Tryd.f10.body.getD .skip) (endE Tryd.prog Tryd.f10.results R) (argsE [v0, v1, v2, v3, v4, v5]) [] w = sh_landfalllaw24_ReportParts v0 v1 v2 v3 v4 v5 R w := by kernel_rfl
theorem sh_landfalllaw24_ReportParts_ok (v0 v1 v2 v3 v4 v5 : Value) {R : Ending → World → Prop} {w : World} (h : sh_landfalllaw24_ReportParts v0 v1 v2 v3 v4 v5 R w) : Calls Tryd.prog 10 #[v0, v1, v2, v3, v4, v5] w R :=
  calls_of_vc (args := [v0, v1, v2, v3, v4, v5]) [(20, 6, false, 1513)] [13, 123] follows_mixed Tryd.func10 rfl (of_decide_eq_true (by kernel_rfl)) (by kernel_rfl) ((sh_landfalllaw24_ReportParts_eq v0 v1 v2 v3 v4 v5 R w).symm ▸ h)
/- landfall/landfalllaw24.ReportForged -/
def sh_landfalllaw24_ReportForged (v0 v1 v2 v3 v4 v5 v6 : Value) (R : Ending → World → Prop) (w : World) : Prop := (
 DoV Tryd.prog (Instr.box 49 v0) w (fun t7_1 w1 =>
 CallF Tryd.prog 29 #[] w1 (fun t30_2 w2 =>
 DoV Tryd.prog (Instr.fieldAt 49 t7_1 2) w2 (fun t31_3 w3 =>
 DoV Tryd.prog (Instr.loadAt 47 t31_3) w3 (fun t32_4 w4 =>
 CallB Tryd.prog Builtin.len #[47] 3 #[false] #[t32_4] w4 (fun t33_5 w5 =>
 JoinE [] (fun K6 =>
 JoinE [40] (fun K7 =>
 DoV Tryd.prog (Instr.loadAt 49 t7_1) w5 (fun t34_8 w8 =>
 CallF Tryd.prog 40 #[t34_8] w8 (fun t35_9 w9 =>
 DoV Tryd.prog (Op.unary UnOp.not t35_9) w9 (fun t36_10 w10 =>
 Gd t36_10 false (DoV Tryd.prog (binS BinOp.eql 3 (Operand.tmp 38) (Operand.const (Value.int IntKind.i64 0)) t33_5 (Value.int IntKind.i64 0)) w10 (fun t39_11 w11 =>
 K7 [t39_11] w11) (Pan R))
(K7 [(Value.bool true)] w10)) (Pan R)) (Pan R)) (Pan R))
(fun h12 w12 =>
 Br (h12 40)
(R (.returned t30_2) w12)
(K6 [] w12)))
(fun _ w13 =>
 CallF Tryd.prog 46 #[v2, v3] w13 (fun t45_14 w14 =>
 DoV Tryd.prog (Instr.extract t45_14 0) w14 (fun t46_15 w15 =>
 DoV Tryd.prog (Instr.extract t45_14 1) w15 (fun t47_16 w16 =>
 DoV Tryd.prog (Instr.extract t45_14 2) w16 (fun t48_17 w17 =>
 DoV Tryd.prog (Instr.extract t45_14 3) w17 (fun t49_18 w18 =>
 DrawR w18 (fun R19 S19 w19 =>
 DetOp R19 (Both R19 S19) w19 (fun w20 K20 => DoV Tryd.prog (Instr.loadAt 49 t7_1) w20 K20 (Pan R)) (fun c51_20 ψ20 =>
 DetOp R19 (Both R19 S19) w19 (fun w21 K21 => DoV Tryd.prog (convert 5 3 v1) w21 K21 (Pan R)) (fun c53_21 ψ21 =>
 DetOp R19 (Both R19 S19) w19 (fun w22 K22 => DoV Tryd.prog (binS BinOp.rem 3 (Operand.tmp 53) (Operand.tmp 54) c53_21 t33_5) w22 K22 (Pan R)) (fun c55_22 ψ22 =>
 DetOp R19 (Both R19 S19) w19 (fun w23 K23 => DoV Tryd.prog (binS BinOp.add 3 (Operand.const (Value.int IntKind.i64 1)) (Operand.tmp 55) (Value.int IntKind.i64 1) c55_22) w23 K23 (Pan R)) (fun c56_23 ψ23 =>
 ThrE R19 S19 0 w19 (fun Θ19_0 T19_0 =>
 NdC R19 S19 0 w19 Θ19_0 (fun w24 K24 => CallF Tryd.prog 35 #[c51_20, c56_23, t33_5, t46_15, t47_16] w24 K24 (Pan R)) (fun v60_24 φ24 =>
 NdC R19 S19 0 w19 φ24 (fun w25 K25 => K25 v60_24 w25) (fun v50_25 φ25 =>
 NdC R19 S19 0 w19 φ25 (fun w26 K26 => DoV Tryd.prog (Instr.extract v50_25 0) w26 K26 (Pan R)) (fun v61_26 φ26 =>
 NdC R19 S19 0 w19 φ26 (fun w27 K27 => DoV Tryd.prog (Instr.extract v50_25 1) w27 K27 (Pan R)) (fun v62_27 φ27 =>
 T19_0 [v60_24, v50_25, v61_26, v62_27] φ27))))) (fun Φ19_0 =>
 ThrE R19 S19 1 w19 (fun Θ19_1 T19_1 =>
 NdC R19 S19 1 w19 Θ19_1 (fun w28 K28 => DoV Tryd.prog (Instr.alloc 51 true (.tuple #[])) w28 K28 (Pan R)) (fun v21_28 φ28 =>
 T19_1 [v21_28] φ28)) (fun Φ19_1 =>
 ∀ (h29 : Nat → Value) (w30 : World), R19 w19 w30 → ((((True ∧ ψ20 w30) ∧ ψ21 w30) ∧ ψ22 w30) ∧ ψ23 w30) ∧ ((True ∧ Φ19_0 [(h29 60), (h29 50), (h29 61), (h29 62)] w30) ∧ Φ19_1 [(h29 21)] w30) →
 DoU Tryd.prog (Instr.storeAt 51 (h29 21) (h29 61)) w30 (fun _ w31 =>
 JoinE [] (fun K32 =>
 JoinE [74] (fun K33 =>
 DoV Tryd.prog (Op.unary UnOp.not t49_18) w31 (fun t64_34 w34 =>
 Gd t64_34 false (DoV Tryd.prog (binS BinOp.neq 28 (Operand.tmp 66) (Operand.const (Value.int IntKind.i64 0)) (h29 62) (Value.int IntKind.i64 0)) w34 (fun t67_35 w35 =>
 Gd t67_35 false (DoV Tryd.prog (Instr.fieldAt 51 (h29 21) 2) w35 (fun t70_36 w36 =>
 DoV Tryd.prog (Instr.loadAt 47 t70_36) w36 (fun t71_37 w37 =>
 CallB Tryd.prog Builtin.len #[47] 3 #[false] #[t71_37] w37 (fun t72_38 w38 =>
 DoV Tryd.prog (binS BinOp.eql 3 (Operand.tmp 72) (Operand.const (Value.int IntKind.i64 0)) t72_38 (Value.int IntKind.i64 0)) w38 (fun t73_39 w39 =>
 K33 [t73_39] w39) (Pan R)) (Pan R)) (Pan R)) (Pan R))
(K33 [(Value.bool true)] w35)) (Pan R))
(K33 [(Value.bool true)] w34)) (Pan R))
(fun h40 w40 =>
 Br (h40 74)
(R (.returned (Value.bool false)) w40)
(K32 [] w40)))
(fun _ w41 =>
 DoV Tryd.prog (Instr.loadAt 51 (h29 21)) w41 (fun t75_42 w42 =>
 DoV Tryd.prog (Instr.alloc 51 true (.tuple #[])) w42 (fun t23_43 w43 =>
 DoU Tryd.prog (Instr.storeAt 51 t23_43 t75_42) w43 (fun _ w44 =>
 DoV Tryd.prog (Instr.fieldAt 51 t23_43 4) w44 (fun t77_45 w45 =>
 DoU Tryd.prog (Instr.storeAt 39 t77_45 v4) w45 (fun _ w46 =>
 DoV Tryd.prog (Instr.loadAt 51 t23_43) w46 (fun t79_47 w47 =>
 CallF Tryd.prog 38 #[t79_47, t48_17] w47 (fun t81_48 w48 =>
 DoV Tryd.prog (Instr.extract t81_48 0) w48 (fun t82_49 w49 =>
 DoV Tryd.prog (Instr.extract t81_48 1) w49 (fun t83_50 w50 =>
 JoinE [] (fun K51 =>
 JoinE [93] (fun K52 =>
 DoV Tryd.prog (binS BinOp.neq 28 (Operand.tmp 84) (Operand.const (Value.int IntKind.i64 0)) t83_50 (Value.int IntKind.i64 0)) w50 (fun t85_53 w53 =>
 Gd t85_53 false (DoV Tryd.prog (Instr.fieldAt 51 (h29 21) 4) w53 (fun t89_54 w54 =>
 DoV Tryd.prog (Instr.loadAt 39 t89_54) w54 (fun t90_55 w55 =>
 DoV Tryd.prog (binS BinOp.eql 39 (Operand.tmp 88) (Operand.tmp 90) v4 t90_55) w55 (fun t91_56 w56 =>
 DoV Tryd.prog (binS BinOp.neq 4 (Operand.tmp 87) (Operand.tmp 91) t82_49 t91_56) w56 (fun t92_57 w57 =>
 K52 [t92_57] w57) (Pan R)) (Pan R)) (Pan R)) (Pan R))
(K52 [(Value.bool true)] w53)) (Pan R))
(fun h58 w58 =>
 Br (h58 93)
(R (.returned (Value.bool false)) w58)
(K51 [] w58)))
(fun _ w59 =>
 DoV Tryd.prog (Instr.fieldAt 51 (h29 21) 2) w59 (fun t94_60 w60 =>
 DoV Tryd.prog (Instr.loadAt 47 t94_60) w60 (fun t95_61 w61 =>
 DoV Tryd.prog (Instr.fieldAt 51 (h29 21) 2) w61 (fun t96_62 w62 =>
 DoV Tryd.prog (Instr.loadAt 47 t96_62) w62 (fun t97_63 w63 =>
 CallB Tryd.prog Builtin.len #[47] 3 #[false] #[t97_63] w63 (fun t98_64 w64 =>
 DoV Tryd.prog (binS BinOp.sub 3 (Operand.tmp 98) (Operand.const (Value.int IntKind.i64 1)) t98_64 (Value.int IntKind.i64 1)) w64 (fun t99_65 w65 =>
 DoV Tryd.prog (Instr.indexAt 47 t95_61 t99_65) w65 (fun t100_66 w66 =>
 DoV Tryd.prog (Instr.loadAt 64 t100_66) w66 (fun t101_67 w67 =>
 DoV Tryd.prog (Instr.alloc 64 true (.tuple #[])) w67 (fun t26_68 w68 =>
 DoU Tryd.prog (Instr.storeAt 64 t26_68 t101_67) w68 (fun _ w69 =>
 DoV Tryd.prog (Instr.loadAt 51 (h29 21)) w69 (fun t102_70 w70 =>
 DoV Tryd.prog (Instr.alloc 51 true (.tuple #[])) w70 (fun t27_71 w71 =>
 DoU Tryd.prog (Instr.storeAt 51 t27_71 t102_70) w71 (fun _ w72 =>
 DrawE w72 (fun Rs73 Rb73 w73 =>
 DetOp Rb73 Rs73 w73 (fun w74 K74 => DoV Tryd.prog (Instr.fieldAt 51 (h29 21) 2) w74 K74 (Pan R)) (fun c103_74 ψ74 =>
 DetOp Rb73 Rs73 w73 (fun w75 K75 => DoV Tryd.prog (Instr.loadAt 47 c103_74) w75 K75 (Pan R)) (fun c104_75 ψ75 =>
 DetOp Rb73 Rs73 w73 (fun w76 K76 => DoV Tryd.prog (Instr.loadAt 64 t26_68) w76 K76 (Pan R)) (fun c105_76 ψ76 =>
 DetOp Rs73 Rb73 w73 (fun w77 K77 => CallF Tryd.prog 45 #[c105_76, v5, v6] w77 K77 (Pan R)) (fun c108_77 ψ77 =>
 ∀ w78, Rb73 w73 w78 → ((((True ∧ ψ74 w78) ∧ ψ75 w78) ∧ ψ76 w78) ∧ ψ77 w78) →
 CallF Tryd.prog 44 #[c104_75, c108_77] w78 (fun t109_79 w79 =>
 DoV Tryd.prog (Instr.fieldAt 51 t27_71 2) w79 (fun t110_80 w80 =>
 DoU Tryd.prog (Instr.storeAt 47 t110_80 t109_79) w80 (fun _ w81 =>
 DoV Tryd.prog (Instr.loadAt 51 t27_71) w81 (fun t112_82 w82 =>
 CallF Tryd.prog 38 #[t112_82, t48_17] w82 (fun t114_83 w83 =>
 DoV Tryd.prog (Instr.extract t114_83 0) w83 (fun t115_84 w84 =>
 DoV Tryd.prog (Instr.extract t114_83 1) w84 (fun t116_85 w85 =>
 DoV Tryd.prog (Instr.loadAt 51 t27_71) w85 (fun t117_86 w86 =>
 CallF Tryd.prog 48 #[t117_86] w86 (fun t118_87 w87 =>
 DoV Tryd.prog (Op.unary UnOp.not t118_87) w87 (fun t119_88 w88 =>
 Br t119_88
(Gd t30_2 true (DoV Tryd.prog (binS BinOp.eql 28 (Operand.tmp 122) (Operand.const (Value.int IntKind.i64 1)) t116_85 (Value.int IntKind.i64 1)) w88 (fun t123_89 w89 =>
 Gd t123_89 true (DoV Tryd.prog (Op.unary UnOp.not t115_84) w89 (fun t127_90 w90 =>
 R (.returned t127_90) w90) (Pan R))
(R (.returned (Value.bool false)) w89)) (Pan R))
(R (.returned (Value.bool false)) w88))
(DrawE w88 (fun Rs91 Rb91 w91 =>
 Gd t30_2 true (DetOp Rb91 Rs91 w91 (fun w92 K92 => DoV Tryd.prog (binS BinOp.eql 28 (Operand.tmp 131) (Operand.const (Value.int IntKind.i64 0)) t116_85 (Value.int IntKind.i64 0)) w92 K92 (Pan R)) (fun c132_92 ψ92 =>
 Gd c132_92 true (DetOp Rb91 Rs91 w91 (fun w93 K93 => DoV Tryd.prog (Instr.fieldAt 51 t27_71 2) w93 K93 (Pan R)) (fun c136_93 ψ93 =>
 DetOp Rb91 Rs91 w91 (fun w94 K94 => DoV Tryd.prog (Instr.loadAt 47 c136_93) w94 K94 (Pan R)) (fun c137_94 ψ94 =>
 DetOp Rb91 Rs91 w91 (fun w95 K95 => DoV Tryd.prog (Instr.fieldAt 51 (h29 21) 2) w95 K95 (Pan R)) (fun c138_95 ψ95 =>
 DetOp Rb91 Rs91 w91 (fun w96 K96 => DoV Tryd.prog (Instr.loadAt 47 c138_95) w96 K96 (Pan R)) (fun c139_96 ψ96 =>
 DetOp Rb91 Rs91 w91 (fun w97 K97 => CallB Tryd.prog Builtin.len #[47] 3 #[false] #[c139_96] w97 K97 (Pan R)) (fun c140_97 ψ97 =>
 DetOp Rb91 Rs91 w91 (fun w98 K98 => DoV Tryd.prog (binS BinOp.sub 3 (Operand.tmp 140) (Operand.const (Value.int IntKind.i64 1)) c140_97 (Value.int IntKind.i64 1)) w98 K98 (Pan R)) (fun c141_98 ψ98 =>
 DetOp Rb91 Rs91 w91 (fun w99 K99 => DoV Tryd.prog (Instr.indexAt 47 c137_94 c141_98) w99 K99 (Pan R)) (fun c142_99 ψ99 =>
 DetOp Rb91 Rs91 w91 (fun w100 K100 => DoV Tryd.prog (Instr.loadAt 64 c142_99) w100 K100 (Pan R)) (fun c143_100 ψ100 =>
 DetOp Rb91 Rs91 w91 (fun w101 K101 => DoV Tryd.prog (Instr.loadAt 64 t26_68) w101 K101 (Pan R)) (fun c144_101 ψ101 =>
 DetOp Rb91 Rs91 w91 (fun w102 K102 => DoV Tryd.prog (binS BinOp.eql 64 (Operand.tmp 143) (Operand.tmp 144) c143_100 c144_101) w102 K102 (Pan R)) (fun c145_102 ψ102 =>
 ∀ w103, Rb91 w91 w103 → (((((((((((True ∧ ψ92 w103) ∧ ψ93 w103) ∧ ψ94 w103) ∧ ψ95 w103) ∧ ψ96 w103) ∧ ψ97 w103) ∧ ψ98 w103) ∧ ψ99 w103) ∧ ψ100 w103) ∧ ψ101 w103) ∧ ψ102 w103) →
 DoV Tryd.prog (binS BinOp.eql 4 (Operand.tmp 135) (Operand.tmp 145) t115_84 c145_102) w103 (fun t146_104 w104 =>
 R (.returned t146_104) w104) (Pan R))))))))))))
(∀ w105, Rb91 w91 w105 → (True ∧ ψ92 w105) →
 R (.returned (Value.bool false)) w105)))
(∀ w106, Rb91 w91 w106 → True →
 R (.returned (Value.bool false)) w106)))) (Pan R)) (Pan R)) (Pan R)) (Pan R)) (Pan R)) (Pan R)) (Pan R)) (Pan R)) (Pan R)) (Pan R))))))) (Pan R)) (Pan R)) (Pan R)) (Pan R)) (Pan R)) (Pan R)) (Pan R)) (Pan R)) (Pan R)) (Pan R)) (Pan R)) (Pan R)) (Pan R))) (Pan R)) (Pan R)) (Pan R)) (Pan R)) (Pan R)) (Pan R)) (Pan R)) (Pan R)) (Pan R))) (Pan R))))))))) (Pan R)) (Pan R)) (Pan R)) (Pan R)) (Pan R))) (Pan R)) (Pan R)) (Pan R)) (Pan R)) (Pan R))
theorem sh_landfalllaw24_ReportForged_eq (v0 v1 v2 v3 v4 v5 v6 : Value) (R : Ending → World → Prop) (w : World) : vc Tryd.prog [(6, 14, false, 1178028999656), (16, 6, false, 6), (20, 17, false, 0)] [] (Tryd.f11.body.getD .skip) (endE Tryd.prog Tryd.f11.results R) (argsE [v0, v1, v2, v3, v4, v5, v6]) [] w = sh_landfalllaw24_ReportForged v0 v1 v2 v3 v4 v5 v6 R w := by kernel_rfl
theorem sh_landfalllaw24_ReportForged_ok (v0 v1 v2 v3 v4 v5 v6 : Value) {R : Ending → World → Prop} {w : World} (h : sh_landfalllaw24_ReportForged v0 v1 v2 v3 v4 v5 v6 R w) : Calls Tryd.prog 11 #[v0, v1, v2, v3, v4, v5, v6] w R :=
  calls_of_vc (args := [v0, v1, v2, v3, v4, v5, v6]) [(6, 14, false, 1178028999656), (16, 6, false, 6), (20, 17, false, 0)] [] follows_mixed Tryd.func11 rfl (of_decide_eq_true (by kernel_rfl)) (by kernel_rfl) ((sh_landfalllaw24_ReportForged_eq v0 v1 v2 v3 v4 v5 v6 R w).symm ▸ h)
/- landfall/landfalllaw24.ReportLogs -/
def sh_landfalllaw24_ReportLogs (v0 v1 v2 : Value) (R : Ending → World → Prop) (w : World) : Prop := (
 DoV Tryd.prog (Instr.box 49 v0) w (fun t3_1 w1 =>
 DoV Tryd.prog (Instr.box 64 v2) w1 (fun t5_2 w2 =>
 CallF Tryd.prog 29 #[] w2 (fun t12_3 w3 =>
 DoV Tryd.prog (Instr.loadAt 49 t3_1) w3 (fun t13_4 w4 =>
 CallF Tryd.prog 40 #[t13_4] w4 (fun t14_5 w5 =>
 DoV Tryd.prog (Op.unary UnOp.not t14_5) w5 (fun t15_6 w6 =>
 Br t15_6
(R (.returned t12_3) w6)
(DoV Tryd.prog (convert 5 3 v1) w6 (fun t18_7 w7 =>
 DoV Tryd.prog (Instr.fieldAt 49 t3_1 2) w7 (fun t19_8 w8 =>
 DoV Tryd.prog (Instr.loadAt 47 t19_8) w8 (fun t20_9 w9 =>
 CallB Tryd.prog Builtin.len #[47] 3 #[false] #[t20_9] w9 (fun t21_10 w10 =>
 DoV Tryd.prog (binS BinOp.add 3 (Operand.tmp 21) (Operand.const (Value.int IntKind.i64 1)) t21_10 (Value.int IntKind.i64 1)) w10 (fun t22_11 w11 =>
 DoV Tryd.prog (binS BinOp.rem 3 (Operand.tmp 18) (Operand.tmp 22) t18_7 t22_11) w11 (fun t23_12 w12 =>
 DoV Tryd.prog (Instr.loadAt 49 t3_1) w12 (fun t24_13 w13 =>
 DoV Tryd.prog (Instr.alloc 49 true (.tuple #[])) w13 (fun t9_14 w14 =>
 DoU Tryd.prog (Instr.storeAt 49 t9_14 t24_13) w14 (fun _ w15 =>
 DoV Tryd.prog (Instr.fieldAt 49 t3_1 2) w15 (fun t25_16 w16 =>
 DoV Tryd.prog (Instr.loadAt 47 t25_16) w16 (fun t26_17 w17 =>
 DoV Tryd.prog (Instr.sliceAt 47 t26_17 none (some t23_12) none) w17 (fun t28_18 w18 =>
 DoV Tryd.prog (Instr.fieldAt 49 t9_14 2) w18 (fun t29_19 w19 =>
 DoU Tryd.prog (Instr.storeAt 47 t29_19 t28_18) w19 (fun _ w20 =>
 DoV Tryd.prog (Instr.loadAt 49 t9_14) w20 (fun t30_21 w21 =>
 DoV Tryd.prog (Instr.alloc 49 true (.tuple #[])) w21 (fun t10_22 w22 =>
 DoU Tryd.prog (Instr.storeAt 49 t10_22 t30_21) w22 (fun _ w23 =>
 DrawR w23 (fun R24 S24 w24 =>
 DetOp R24 (Both R24 S24) w24 (fun w25 K25 => DoV Tryd.prog (Instr.fieldAt 49 t9_14 2) w25 K25 (Pan R)) (fun c32_25 ψ25 =>
 DetOp R24 (Both R24 S24) w24 (fun w26 K26 => DoV Tryd.prog (Instr.loadAt 47 c32_25) w26 K26 (Pan R)) (fun c33_26 ψ26 =>
 DetOp R24 (Both R24 S24) w24 (fun w27 K27 => DoV Tryd.prog (Instr.loadAt 64 t5_2) w27 K27 (Pan R)) (fun c35_27 ψ27 =>
 ThrE R24 S24 0 w24 (fun Θ24_0 T24_0 =>
 NdC R24 S24 0 w24 Θ24_0 (fun w28 K28 => DoV Tryd.prog (Instr.buildSlice 47 0 #[]) w28 K28 (Pan R)) (fun v31_28 φ28 =>
 NdC R24 S24 0 w24 φ28 (fun w29 K29 => CallB Tryd.prog Builtin.append #[47, 47] 47 #[false, false] #[v31_28, c33_26] w29 K29 (Pan R)) (fun v34_29 φ29 =>
 T24_0 [v31_28, v34_29] φ29))) (fun Φ24_0 =>
 ThrE R24 S24 1 w24 (fun Θ24_1 T24_1 =>
 NdC R24 S24 1 w24 Θ24_1 (fun w30 K30 => DoV Tryd.prog (Instr.buildSlice 47 1 #[(0, c35_27)]) w30 K30 (Pan R)) (fun v36_30 φ30 =>
 T24_1 [v36_30] φ30)) (fun Φ24_1 =>
 ∀ (h31 : Nat → Value) (w32 : World), R24 w24 w32 → (((True ∧ ψ25 w32) ∧ ψ26 w32) ∧ ψ27 w32) ∧ ((True ∧ Φ24_0 [(h31 31), (h31 34)] w32) ∧ Φ24_1 [(h31 36)] w32) →
 CallB Tryd.prog Builtin.append #[47, 47] 47 #[false, false] #[(h31 34), (h31 36)] w32 (fun t37_33 w33 =>
 DoV Tryd.prog (Instr.fieldAt 49 t10_22 2) w33 (fun t38_34 w34 =>
 DoU Tryd.prog (Instr.storeAt 47 t38_34 t37_33) w34 (fun _ w35 =>
 JoinE [11] (fun K36 =>
 DrawE w35 (fun Rs37 Rb37 w37 =>
 DetOp Rb37 Rs37 w37 (fun w38 K38 => DoV Tryd.prog (Instr.loadAt 64 t5_2) w38 K38 (Pan R)) (fun c39_38 ψ38 =>
 DetOp Rs37 Rb37 w37 (fun w39 K39 => CallF Tryd.prog 49 #[c39_38] w39 K39 (Pan R)) (fun c40_39 ψ39 =>
 Gd c40_39 true (DetOp Rb37 Rs37 w37 (fun w40 K40 => DoV Tryd.prog (Instr.fieldAt 64 t5_2 0) w40 K40 (Pan R)) (fun c42_40 ψ40 =>
 DetOp Rb37 Rs37 w37 (fun w41 K41 => DoV Tryd.prog (Instr.loadAt 3 c42_40) w41 K41 (Pan R)) (fun c43_41 ψ41 =>
 DetOp Rb37 Rs37 w37 (fun w42 K42 => DoV Tryd.prog (binS BinOp.add 3 (Operand.tmp 44) (Operand.const (Value.int IntKind.i64 1)) t23_12 (Value.int IntKind.i64 1)) w42 K42 (Pan R)) (fun c45_42 ψ42 =>
 DetOp Rb37 Rs37 w37 (fun w43 K43 => DoV Tryd.prog (binS BinOp.eql 3 (Operand.tmp 43) (Operand.tmp 45) c43_41 c45_42) w43 K43 (Pan R)) (fun c46_43 ψ43 =>
 Gd c46_43 true (DetOp Rb37 Rs37 w37 (fun w44 K44 => DoV Tryd.prog (binS BinOp.eql 3 (Operand.tmp 49) (Operand.const (Value.int IntKind.i64 0)) t23_12 (Value.int IntKind.i64 0)) w44 K44 (Pan R)) (fun c50_44 ψ44 =>
 Gd c50_44 false (DetOp Rb37 Rs37 w37 (fun w45 K45 => DoV Tryd.prog (Instr.fieldAt 64 t5_2 1) w45 K45 (Pan R)) (fun c52_45 ψ45 =>
 DetOp Rb37 Rs37 w37 (fun w46 K46 => DoV Tryd.prog (Instr.loadAt 3 c52_45) w46 K46 (Pan R)) (fun c53_46 ψ46 =>
 DetOp Rb37 Rs37 w37 (fun w47 K47 => DoV Tryd.prog (Instr.fieldAt 49 t3_1 2) w47 K47 (Pan R)) (fun c54_47 ψ47 =>
 DetOp Rb37 Rs37 w37 (fun w48 K48 => DoV Tryd.prog (Instr.loadAt 47 c54_47) w48 K48 (Pan R)) (fun c55_48 ψ48 =>
 DetOp Rb37 Rs37 w37 (fun w49 K49 => DoV Tryd.prog (binS BinOp.sub 3 (Operand.tmp 56) (Operand.const (Value.int IntKind.i64 1)) t23_12 (Value.int IntKind.i64 1)) w49 K49 (Pan R)) (fun c57_49 ψ49 =>
 DetOp Rb37 Rs37 w37 (fun w50 K50 => DoV Tryd.prog (Instr.indexAt 47 c55_48 c57_49) w50 K50 (Pan R)) (fun c58_50 ψ50 =>
 DetOp Rb37 Rs37 w37 (fun w51 K51 => DoV Tryd.prog (Instr.fieldAt 64 c58_50 1) w51 K51 (Pan R)) (fun c59_51 ψ51 =>
 DetOp Rb37 Rs37 w37 (fun w52 K52 => DoV Tryd.prog (Instr.loadAt 3 c59_51) w52 K52 (Pan R)) (fun c60_52 ψ52 =>
 ∀ w53, Rb37 w37 w53 → (((((((((((((((True ∧ ψ38 w53) ∧ ψ39 w53) ∧ ψ40 w53) ∧ ψ41 w53) ∧ ψ42 w53) ∧ ψ43 w53) ∧ ψ44 w53) ∧ ψ45 w53) ∧ ψ46 w53) ∧ ψ47 w53) ∧ ψ48 w53) ∧ ψ49 w53) ∧ ψ50 w53) ∧ ψ51 w53) ∧ ψ52 w53) →
 DoV Tryd.prog (binS BinOp.geq 3 (Operand.tmp 53) (Operand.tmp 60) c53_46 c60_52) w53 (fun t61_54 w54 =>
 K36 [t61_54] w54) (Pan R))))))))))
(∀ w55, Rb37 w37 w55 → (((((((True ∧ ψ38 w55) ∧ ψ39 w55) ∧ ψ40 w55) ∧ ψ41 w55) ∧ ψ42 w55) ∧ ψ43 w55) ∧ ψ44 w55) →
 K36 [(Value.bool true)] w55)))
(∀ w56, Rb37 w37 w56 → ((((((True ∧ ψ38 w56) ∧ ψ39 w56) ∧ ψ40 w56) ∧ ψ41 w56) ∧ ψ42 w56) ∧ ψ43 w56) →
 K36 [(Value.bool false)] w56))))))
(∀ w57, Rb37 w37 w57 → ((True ∧ ψ38 w57) ∧ ψ39 w57) →
 K36 [(Value.bool false)] w57)))))
(fun h58 w58 =>
 Gd t12_3 true (DoV Tryd.prog (Instr.loadAt 49 t9_14) w58 (fun t66_59 w59 =>
 CallF Tryd.prog 33 #[t66_59] w59 (fun t67_60 w60 =>
 Gd t67_60 true (DoV Tryd.prog (Instr.loadAt 49 t10_22) w60 (fun t70_61 w61 =>
 CallF Tryd.prog 33 #[t70_61] w61 (fun t71_62 w62 =>
 DoV Tryd.prog (binS BinOp.eql 4 (Operand.tmp 71) (Operand.tmp 72) t71_62 (h58 11)) w62 (fun t73_63 w63 =>
 R (.returned t73_63) w63) (Pan R)) (Pan R)) (Pan R))
(R (.returned (Value.bool false)) w60)) (Pan R)) (Pan R))
(R (.returned (Value.bool false)) w58))) (Pan R)) (Pan R)) (Pan R)))))))) (Pan R)) (Pan R)) (Pan R)) (Pan R)) (Pan R)) (Pan R)) (Pan R)) (Pan R)) (Pan R)) (Pan R)) (Pan R)) (Pan R)) (Pan R)) (Pan R)) (Pan R)) (Pan R)) (Pan R))) (Pan R)) (Pan R)) (Pan R)) (Pan R)) (Pan R)) (Pan R))
theorem sh_landfalllaw24_ReportLogs_eq (v0 v1 v2 : Value) (R : Ending → World → Prop) (w : World) : vc Tryd.prog [(8, 6, false, 67049), (9, 22, false, 2)] [11] (Tryd.f12.body.getD .skip) (endE Tryd.prog Tryd.f12.results R) (argsE [v0, v1, v2]) [] w = sh_landfalllaw24_ReportLogs v0 v1 v2 R w := by kernel_rfl
theorem sh_landfalllaw24_ReportLogs_ok (v0 v1 v2 : Value) {R : Ending → World → Prop} {w : World} (h : sh_landfalllaw24_ReportLogs v0 v1 v2 R w) : Calls Tryd.prog 12 #[v0, v1, v2] w R :=
  calls_of_vc (args := [v0, v1, v2]) [(8, 6, false, 67049), (9, 22, false, 2)] [11] follows_mixed Tryd.func12 rfl (of_decide_eq_true (by kernel_rfl)) (by kernel_rfl) ((sh_landfalllaw24_ReportLogs_eq v0 v1 v2 R w).symm ▸ h)
/- landfall/landfalllaw24.head -/
def sh_landfalllaw24_head (R : Ending → World → Prop) (w : World) : Prop := (
 CallF Tryd.prog 58 #[] w (fun t20_1 w1 =>
 DoV Tryd.prog (Instr.alloc 49 true (.tuple #[])) w1 (fun t1_2 w2 =>
 DoU Tryd.prog (Instr.storeAt 49 t1_2 t20_1) w2 (fun _ w3 =>
 DoV Tryd.prog (Instr.loadAt 49 t1_2) w3 (fun t22_4 w4 =>
 CallF Tryd.prog 31 #[t22_4, (Value.int IntKind.i64 0)] w4 (fun t23_5 w5 =>
 DoV Tryd.prog (Instr.extract t23_5 0) w5 (fun t24_6 w6 =>
 DoV Tryd.prog (Instr.extract t23_5 1) w6 (fun t25_7 w7 =>
 DoV Tryd.prog (Instr.loadAt 49 t1_2) w7 (fun t27_8 w8 =>
 CallF Tryd.prog 31 #[t27_8, (Value.int IntKind.i64 1)] w8 (fun t28_9 w9 =>
 DoV Tryd.prog (Instr.extract t28_9 0) w9 (fun t29_10 w10 =>
 DoV Tryd.prog (Instr.extract t28_9 1) w10 (fun t30_11 w11 =>
 DoV Tryd.prog (Instr.loadAt 49 t1_2) w11 (fun t32_12 w12 =>
 CallF Tryd.prog 35 #[t32_12, (Value.int IntKind.i64 1), (Value.int IntKind.i64 1), (Value.int IntKind.i64 5), (Value.int IntKind.i64 6)] w12 (fun t33_13 w13 =>
 DoV Tryd.prog (Instr.extract t33_13 0) w13 (fun t34_14 w14 =>
 DoV Tryd.prog (Instr.extract t33_13 1) w14 (fun t35_15 w15 =>
 DoV Tryd.prog (Instr.alloc 51 true (.tuple #[])) w15 (fun t6_16 w16 =>
 DoU Tryd.prog (Instr.storeAt 51 t6_16 t34_14) w16 (fun _ w17 =>
 CallF Tryd.prog 19 #[(Value.int IntKind.i64 5)] w17 (fun t37_18 w18 =>
 DoV Tryd.prog (Instr.extract t37_18 0) w18 (fun t38_19 w19 =>
 DoV Tryd.prog (Instr.extract t37_18 1) w19 (fun t39_20 w20 =>
 DoV Tryd.prog (Instr.loadAt 51 t6_16) w20 (fun t41_21 w21 =>
 CallF Tryd.prog 38 #[t41_21, t38_19] w21 (fun t43_22 w22 =>
 DoV Tryd.prog (Instr.extract t43_22 0) w22 (fun t44_23 w23 =>
 DoV Tryd.prog (Instr.extract t43_22 1) w23 (fun t45_24 w24 =>
 DoV Tryd.prog (Instr.loadAt 51 t6_16) w24 (fun t46_25 w25 =>
 DoV Tryd.prog (Instr.alloc 51 true (.tuple #[])) w25 (fun t12_26 w26 =>
 DoU Tryd.prog (Instr.storeAt 51 t12_26 t46_25) w26 (fun _ w27 =>
 DoV Tryd.prog (Instr.fieldAt 51 t12_26 4) w27 (fun t47_28 w28 =>
 DoV Tryd.prog (Instr.loadAt 39 t47_28) w28 (fun t48_29 w29 =>
 DoV Tryd.prog (binS BinOp.add 39 (Operand.tmp 48) (Operand.const (Value.int IntKind.u64 1)) t48_29 (Value.int IntKind.u64 1)) w29 (fun t49_30 w30 =>
 DoV Tryd.prog (Instr.fieldAt 51 t12_26 4) w30 (fun t50_31 w31 =>
 DoU Tryd.prog (Instr.storeAt 39 t50_31 t49_30) w31 (fun _ w32 =>
 DoV Tryd.prog (Instr.loadAt 51 t12_26) w32 (fun t52_33 w33 =>
 CallF Tryd.prog 38 #[t52_33, t38_19] w33 (fun t54_34 w34 =>
 DoV Tryd.prog (Instr.extract t54_34 0) w34 (fun t55_35 w35 =>
 DoV Tryd.prog (Instr.extract t54_34 1) w35 (fun t56_36 w36 =>
 DoV Tryd.prog (Instr.loadAt 49 t1_2) w36 (fun t58_37 w37 =>
 CallF Tryd.prog 35 #[t58_37, (Value.int IntKind.i64 1), (Value.int IntKind.i64 2), (Value.int IntKind.i64 5), (Value.int IntKind.i64 6)] w37 (fun t59_38 w38 =>
 DoV Tryd.prog (Instr.extract t59_38 0) w38 (fun t60_39 w39 =>
 DoV Tryd.prog (Instr.extract t59_38 1) w39 (fun t61_40 w40 =>
 DoV Tryd.prog (Instr.alloc 51 true (.tuple #[])) w40 (fun t15_41 w41 =>
 DoU Tryd.prog (Instr.storeAt 51 t15_41 t60_39) w41 (fun _ w42 =>
 DoV Tryd.prog (Instr.build 51 #[]) w42 (fun t63_43 w43 =>
 CallF Tryd.prog 38 #[t63_43, t38_19] w43 (fun t65_44 w44 =>
 DoV Tryd.prog (Instr.extract t65_44 0) w44 (fun _ w45 =>
 DoV Tryd.prog (Instr.extract t65_44 1) w45 (fun t67_46 w46 =>
 JoinE [19] (fun K47 =>
 DoV Tryd.prog (binS BinOp.eql 28 (Operand.tmp 68) (Operand.const (Value.int IntKind.i64 0)) t25_7 (Value.int IntKind.i64 0)) w46 (fun t69_48 w48 =>
 Gd t69_48 true (DoV Tryd.prog (binS BinOp.eql 28 (Operand.tmp 71) (Operand.const (Value.int IntKind.i64 0)) t30_11 (Value.int IntKind.i64 0)) w48 (fun t72_49 w49 =>
 Gd t72_49 true (DoV Tryd.prog (binS BinOp.eql 28 (Operand.tmp 75) (Operand.const (Value.int IntKind.i64 0)) t35_15 (Value.int IntKind.i64 0)) w49 (fun t76_50 w50 =>
 Gd t76_50 true (DoV Tryd.prog (binS BinOp.eql 28 (Operand.tmp 79) (Operand.const (Value.int IntKind.i64 0)) t39_20 (Value.int IntKind.i64 0)) w50 (fun t80_51 w51 =>
 Gd t80_51 true (DoV Tryd.prog (binS BinOp.eql 28 (Operand.tmp 83) (Operand.const (Value.int IntKind.i64 0)) t45_24 (Value.int IntKind.i64 0)) w51 (fun t84_52 w52 =>
 Gd t84_52 true (DoV Tryd.prog (binS BinOp.eql 28 (Operand.tmp 87) (Operand.const (Value.int IntKind.i64 0)) t56_36 (Value.int IntKind.i64 0)) w52 (fun t88_53 w53 =>
 Gd t88_53 true (DoV Tryd.prog (binS BinOp.eql 28 (Operand.tmp 91) (Operand.const (Value.int IntKind.i64 1)) t61_40 (Value.int IntKind.i64 1)) w53 (fun t92_54 w54 =>
 Gd t92_54 true (DoV Tryd.prog (binS BinOp.eql 28 (Operand.tmp 95) (Operand.const (Value.int IntKind.i64 1)) t67_46 (Value.int IntKind.i64 1)) w54 (fun t96_55 w55 =>
 Gd t96_55 true (Gd t44_23 true (DoV Tryd.prog (Op.unary UnOp.not t55_35) w55 (fun t103_56 w56 =>
 K47 [t103_56] w56) (Pan R))
(K47 [(Value.bool false)] w55))
(K47 [(Value.bool false)] w55)) (Pan R))
(K47 [(Value.bool false)] w54)) (Pan R))
(K47 [(Value.bool false)] w53)) (Pan R))
(K47 [(Value.bool false)] w52)) (Pan R))
(K47 [(Value.bool false)] w51)) (Pan R))
(K47 [(Value.bool false)] w50)) (Pan R))
(K47 [(Value.bool false)] w49)) (Pan R))
(K47 [(Value.bool false)] w48)) (Pan R))
(fun h57 w57 =>
 JoinE [19] (fun K58 =>
 Gd (h57 19) true (DoV Tryd.prog (Instr.buildSlice 24 1 #[(0, (Value.int IntKind.i64 3))]) w57 (fun t108_59 w59 =>
 CallF Tryd.prog 41 #[t108_59] w59 (fun t109_60 w60 =>
 DoV Tryd.prog (binS BinOp.eql 39 (Operand.tmp 107) (Operand.tmp 109) t24_6 t109_60) w60 (fun t110_61 w61 =>
 Gd t110_61 true (DoV Tryd.prog (Instr.buildSlice 24 12 #[(0, (Value.int IntKind.i64 1)), (1, (Value.int IntKind.i64 5)), (2, (Value.int IntKind.i64 3)), (3, (Value.int IntKind.i64 2)), (4, (Value.int IntKind.i64 7)), (5, (Value.int IntKind.i64 0)), (6, (Value.int IntKind.i64 0)), (7, (Value.int IntKind.i64 10)), (8, (Value.int IntKind.i64 20)), (9, (Value.int IntKind.i64 0)), (10, (Value.int IntKind.i64 0)), (11, (Value.int IntKind.i64 0))]) w61 (fun t115_62 w62 =>
 CallF Tryd.prog 42 #[t24_6, t115_62] w62 (fun t116_63 w63 =>
 DoV Tryd.prog (binS BinOp.eql 39 (Operand.tmp 113) (Operand.tmp 116) t29_10 t116_63) w63 (fun t117_64 w64 =>
 K58 [t117_64] w64) (Pan R)) (Pan R)) (Pan R))
(K58 [(Value.bool false)] w61)) (Pan R)) (Pan R)) (Pan R))
(K58 [(Value.bool false)] w57))
(fun h65 w65 =>
 Gd (h65 19) true (DoV Tryd.prog (Instr.fieldAt 51 t6_16 3) w65 (fun t121_66 w66 =>
 DoV Tryd.prog (Instr.loadAt 39 t121_66) w66 (fun t122_67 w67 =>
 DoV Tryd.prog (binS BinOp.eql 39 (Operand.tmp 122) (Operand.tmp 123) t122_67 t24_6) w67 (fun t124_68 w68 =>
 Gd t124_68 true (DoV Tryd.prog (Instr.fieldAt 51 t6_16 4) w68 (fun t127_69 w69 =>
 DoV Tryd.prog (Instr.loadAt 39 t127_69) w69 (fun t128_70 w70 =>
 DoV Tryd.prog (binS BinOp.eql 39 (Operand.tmp 128) (Operand.tmp 129) t128_70 t29_10) w70 (fun t130_71 w71 =>
 Gd t130_71 true (DoV Tryd.prog (Instr.loadAt 49 t1_2) w71 (fun t133_72 w72 =>
 CallF Tryd.prog 33 #[t133_72] w72 (fun t134_73 w73 =>
 Gd t134_73 true (DoV Tryd.prog (Instr.build 49 #[]) w73 (fun t137_74 w74 =>
 CallF Tryd.prog 33 #[t137_74] w74 (fun t138_75 w75 =>
 DoV Tryd.prog (Op.unary UnOp.not t138_75) w75 (fun t139_76 w76 =>
 R (.returned t139_76) w76) (Pan R)) (Pan R)) (Pan R))
(R (.returned (Value.bool false)) w73)) (Pan R)) (Pan R))
(R (.returned (Value.bool false)) w71)) (Pan R)) (Pan R)) (Pan R))
(R (.returned (Value.bool false)) w68)) (Pan R)) (Pan R)) (Pan R))
(R (.returned (Value.bool false)) w65)))) (Pan R)) (Pan R)) (Pan R)) (Pan R)) (Pan R)) (Pan R)) (Pan R)) (Pan R)) (Pan R)) (Pan R)) (Pan R)) (Pan R)) (Pan R)) (Pan R)) (Pan R)) (Pan R)) (Pan R)) (Pan R)) (Pan R)) (Pan R)) (Pan R)) (Pan R)) (Pan R)) (Pan R)) (Pan R)) (Pan R)) (Pan R)) (Pan R)) (Pan R)) (Pan R)) (Pan R)) (Pan R)) (Pan R)) (Pan R)) (Pan R)) (Pan R)) (Pan R)) (Pan R)) (Pan R)) (Pan R)) (Pan R)) (Pan R)) (Pan R)) (Pan R)) (Pan R)) (Pan R))
theorem sh_landfalllaw24_head_eq (R : Ending → World → Prop) (w : World) : vc Tryd.prog [] [19] (Tryd.f29.body.getD .skip) (endE Tryd.prog Tryd.f29.results R) (argsE []) [] w = sh_landfalllaw24_head  R w := by kernel_rfl
theorem sh_landfalllaw24_head_ok {R : Ending → World → Prop} {w : World} (h : sh_landfalllaw24_head  R w) : Calls Tryd.prog 29 #[] w R :=
  calls_of_vc (args := []) [] [19] follows_mixed Tryd.func29 rfl (of_decide_eq_true (by kernel_rfl)) (by kernel_rfl) ((sh_landfalllaw24_head_eq  R w).symm ▸ h)
/- landfall/landfallref24.Few -/
def sh_landfallref24_Few (v0 : Value) (R : Ending → World → Prop) (w : World) : Prop := (
 DoV Tryd.prog (Instr.box 49 v0) w (fun t1_1 w1 =>
 DoV Tryd.prog (Instr.fieldAt 49 t1_1 1) w1 (fun t3_2 w2 =>
 DoV Tryd.prog (Instr.loadAt 46 t3_2) w2 (fun t4_3 w3 =>
 CallF Tryd.prog 59 #[t4_3] w3 (fun t5_4 w4 =>
 Gd t5_4 true (DoV Tryd.prog (Instr.fieldAt 49 t1_1 2) w4 (fun t7_5 w5 =>
 DoV Tryd.prog (Instr.loadAt 47 t7_5) w5 (fun t8_6 w6 =>
 CallB Tryd.prog Builtin.len #[47] 3 #[false] #[t8_6] w6 (fun t9_7 w7 =>
 DoV Tryd.prog (binS BinOp.leq 3 (Operand.tmp 9) (Operand.const (Value.int IntKind.i64 40)) t9_7 (Value.int IntKind.i64 40)) w7 (fun t10_8 w8 =>
 R (.returned t10_8) w8) (Pan R)) (Pan R)) (Pan R)) (Pan R))
(R (.returned (Value.bool false)) w4)) (Pan R)) (Pan R)) (Pan R)) (Pan R))
theorem sh_landfallref24_Few_eq (v0 : Value) (R : Ending → World → Prop) (w : World) : vc Tryd.prog [] [] (Tryd.f30.body.getD .skip) (endE Tryd.prog Tryd.f30.results R) (argsE [v0]) [] w = sh_landfallref24_Few v0 R w := by kernel_rfl
theorem sh_landfallref24_Few_ok (v0 : Value) {R : Ending → World → Prop} {w : World} (h : sh_landfallref24_Few v0 R w) : Calls Tryd.prog 30 #[v0] w R :=
  calls_of_vc (args := [v0]) [] [] follows_mixed Tryd.func30 rfl (of_decide_eq_true (by kernel_rfl)) (by kernel_rfl) ((sh_landfallref24_Few_eq v0 R w).symm ▸ h)
/- landfall/report.Chain -/
def sh_report_Chain (v0 v1 : Value) (R : Ending → World → Prop) (w : World) : Prop := (
 DoV Tryd.prog (Instr.box 49 v0) w (fun t2_1 w1 =>
 JoinE [] (fun K2 =>
 JoinE [19] (fun K3 =>
 DoV Tryd.prog (Instr.loadAt 49 t2_1) w1 (fun t6_4 w4 =>
 CallF Tryd.prog 33 #[t6_4] w4 (fun t7_5 w5 =>
 DoV Tryd.prog (Op.unary UnOp.not t7_5) w5 (fun t8_6 w6 =>
 Gd t8_6 false (DoV Tryd.prog (binS BinOp.lss 3 (Operand.tmp 10) (Operand.const (Value.int IntKind.i64 0)) v1 (Value.int IntKind.i64 0)) w6 (fun t11_7 w7 =>
 Gd t11_7 false (DoV Tryd.prog (Instr.fieldAt 49 t2_1 2) w7 (fun t15_8 w8 =>
 DoV Tryd.prog (Instr.loadAt 47 t15_8) w8 (fun t16_9 w9 =>
 CallB Tryd.prog Builtin.len #[47] 3 #[false] #[t16_9] w9 (fun t17_10 w10 =>
 DoV Tryd.prog (binS BinOp.gtr 3 (Operand.tmp 14) (Operand.tmp 17) v1 t17_10) w10 (fun t18_11 w11 =>
 K3 [t18_11] w11) (Pan R)) (Pan R)) (Pan R)) (Pan R))
(K3 [(Value.bool true)] w7)) (Pan R))
(K3 [(Value.bool true)] w6)) (Pan R)) (Pan R)) (Pan R))
(fun h12 w12 =>
 Br (h12 19)
(R (.returned (Value.tuple #[(Value.int IntKind.u64 0), (Value.int IntKind.i64 1)])) w12)
(K2 [] w12)))
(fun _ w13 =>
 DrawR w13 (fun R14 S14 w14 =>
 DetOp R14 (Both R14 S14) w14 (fun w15 K15 => DoV Tryd.prog (Instr.fieldAt 49 t2_1 2) w15 K15 (Pan R)) (fun c20_15 ψ15 =>
 DetOp R14 (Both R14 S14) w14 (fun w16 K16 => DoV Tryd.prog (Instr.loadAt 47 c20_15) w16 K16 (Pan R)) (fun c21_16 ψ16 =>
 DetOp R14 (Both R14 S14) w14 (fun w17 K17 => DoV Tryd.prog (Instr.sliceAt 47 c21_16 none (some v1) none) w17 K17 (Pan R)) (fun c23_17 ψ17 =>
 DetOp R14 (Both R14 S14) w14 (fun w18 K18 => DoV Tryd.prog (Instr.fieldAt 49 t2_1 0) w18 K18 (Pan R)) (fun c24_18 ψ18 =>
 DetOp R14 (Both R14 S14) w14 (fun w19 K19 => DoV Tryd.prog (Instr.loadAt 3 c24_18) w19 K19 (Pan R)) (fun c25_19 ψ19 =>
 ThrE R14 S14 0 w14 (fun Θ14_0 T14_0 =>
 NdC R14 S14 0 w14 Θ14_0 (fun w20 K20 => DoV Tryd.prog (Instr.buildSlice 24 1 #[(0, c25_19)]) w20 K20 (Pan R)) (fun v26_20 φ20 =>
 NdC R14 S14 0 w14 φ20 (fun w21 K21 => CallF Tryd.prog 41 #[v26_20] w21 K21 (Pan R)) (fun v27_21 φ21 =>
 T14_0 [v26_20, v27_21] φ21))) (fun Φ14_0 =>
 ∀ (h22 : Nat → Value) (w23 : World), R14 w14 w23 → (((((True ∧ ψ15 w23) ∧ ψ16 w23) ∧ ψ17 w23) ∧ ψ18 w23) ∧ ψ19 w23) ∧ (True ∧ Φ14_0 [(h22 26), (h22 27)] w23) →
 CallF Tryd.prog 60 #[c23_17, (h22 27)] w23 (fun t28_24 w24 =>
 R (.returned (Value.tuple #[t28_24, (Value.int IntKind.i64 0)])) w24) (Pan R)))))))))) (Pan R))
theorem sh_report_Chain_eq (v0 v1 : Value) (R : Ending → World → Prop) (w : World) : vc Tryd.prog [(3, 8, false, 2360296)] [] (Tryd.f31.body.getD .skip) (endE Tryd.prog Tryd.f31.results R) (argsE [v0, v1]) [] w = sh_report_Chain v0 v1 R w := by kernel_rfl
theorem sh_report_Chain_ok (v0 v1 : Value) {R : Ending → World → Prop} {w : World} (h : sh_report_Chain v0 v1 R w) : Calls Tryd.prog 31 #[v0, v1] w R :=
  calls_of_vc (args := [v0, v1]) [(3, 8, false, 2360296)] [] follows_mixed Tryd.func31 rfl (of_decide_eq_true (by kernel_rfl)) (by kernel_rfl) ((sh_report_Chain_eq v0 v1 R w).symm ▸ h)
/- landfall/landfallref24.Chain -/
def sh_landfallref24_Chain (v0 v1 : Value) (R : Ending → World → Prop) (w : World) : Prop := (
 DoV Tryd.prog (Instr.box 49 v0) w (fun t2_1 w1 =>
 JoinE [] (fun K2 =>
 JoinE [16] (fun K3 =>
 DoV Tryd.prog (Instr.loadAt 49 t2_1) w1 (fun t6_4 w4 =>
 CallF Tryd.prog 34 #[t6_4] w4 (fun t7_5 w5 =>
 DoV Tryd.prog (Op.unary UnOp.not t7_5) w5 (fun t8_6 w6 =>
 Gd t8_6 false (DoV Tryd.prog (Instr.fieldAt 49 t2_1 2) w6 (fun t11_7 w7 =>
 DoV Tryd.prog (Instr.loadAt 47 t11_7) w7 (fun t12_8 w8 =>
 CallB Tryd.prog Builtin.len #[47] 3 #[false] #[t12_8] w8 (fun t13_9 w9 =>
 CallF Tryd.prog 61 #[v1, (Value.int IntKind.i64 0), t13_9] w9 (fun t14_10 w10 =>
 DoV Tryd.prog (Op.unary UnOp.not t14_10) w10 (fun t15_11 w11 =>
 K3 [t15_11] w11) (Pan R)) (Pan R)) (Pan R)) (Pan R)) (Pan R))
(K3 [(Value.bool true)] w6)) (Pan R)) (Pan R)) (Pan R))
(fun h12 w12 =>
 Br (h12 16)
(R (.returned (Value.tuple #[(Value.int IntKind.u64 0), (Value.int IntKind.i64 1)])) w12)
(K2 [] w12)))
(fun _ w13 =>
 DrawE w13 (fun Rs14 Rb14 w14 =>
 DetOp Rb14 Rs14 w14 (fun w15 K15 => DoV Tryd.prog (Instr.fieldAt 49 t2_1 0) w15 K15 (Pan R)) (fun c17_15 ψ15 =>
 DetOp Rb14 Rs14 w14 (fun w16 K16 => DoV Tryd.prog (Instr.loadAt 3 c17_15) w16 K16 (Pan R)) (fun c18_16 ψ16 =>
 DetOp Rs14 Rb14 w14 (fun w17 K17 => CallF Tryd.prog 63 #[c18_16] w17 K17 (Pan R)) (fun c19_17 ψ17 =>
 DetOp Rb14 Rs14 w14 (fun w18 K18 => DoV Tryd.prog (Instr.fieldAt 49 t2_1 2) w18 K18 (Pan R)) (fun c20_18 ψ18 =>
 DetOp Rb14 Rs14 w14 (fun w19 K19 => DoV Tryd.prog (Instr.loadAt 47 c20_18) w19 K19 (Pan R)) (fun c21_19 ψ19 =>
 DetOp Rb14 Rs14 w14 (fun w20 K20 => DoV Tryd.prog (Instr.sliceAt 47 c21_19 none (some v1) none) w20 K20 (Pan R)) (fun c23_20 ψ20 =>
 ∀ w21, Rb14 w14 w21 → ((((((True ∧ ψ15 w21) ∧ ψ16 w21) ∧ ψ17 w21) ∧ ψ18 w21) ∧ ψ19 w21) ∧ ψ20 w21) →
 CallF Tryd.prog 62 #[c19_17, c23_20] w21 (fun t24_22 w22 =>
 R (.returned (Value.tuple #[t24_22, (Value.int IntKind.i64 0)])) w22) (Pan R)))))))))) (Pan R))
theorem sh_landfallref24_Chain_eq (v0 v1 : Value) (R : Ending → World → Prop) (w : World) : vc Tryd.prog [(3, 7, false, 3)] [] (Tryd.f32.body.getD .skip) (endE Tryd.prog Tryd.f32.results R) (argsE [v0, v1]) [] w = sh_landfallref24_Chain v0 v1 R w := by kernel_rfl
theorem sh_landfallref24_Chain_ok (v0 v1 : Value) {R : Ending → World → Prop} {w : World} (h : sh_landfallref24_Chain v0 v1 R w) : Calls Tryd.prog 32 #[v0, v1] w R :=
  calls_of_vc (args := [v0, v1]) [(3, 7, false, 3)] [] follows_mixed Tryd.func32 rfl (of_decide_eq_true (by kernel_rfl)) (by kernel_rfl) ((sh_landfallref24_Chain_eq v0 v1 R w).symm ▸ h)
/- landfall/report.Valid -/
def sh_report_Valid (v0 : Value) (R : Ending → World → Prop) (w : World) : Prop := (
 DoV Tryd.prog (Instr.box 49 v0) w (fun t1_1 w1 =>
 DoV Tryd.prog (Instr.fieldAt 49 t1_1 0) w1 (fun t3_2 w2 =>
 DoV Tryd.prog (Instr.loadAt 3 t3_2) w2 (fun t4_3 w3 =>
 CallF Tryd.prog 64 #[t4_3] w3 (fun t5_4 w4 =>
 Gd t5_4 true (DoV Tryd.prog (Instr.fieldAt 49 t1_1 1) w4 (fun t7_5 w5 =>
 DoV Tryd.prog (Instr.loadAt 46 t7_5) w5 (fun t8_6 w6 =>
 CallB Tryd.prog Builtin.len #[46] 3 #[false] #[t8_6] w6 (fun t9_7 w7 =>
 DoV Tryd.prog (binS BinOp.gtr 3 (Operand.tmp 9) (Operand.const (Value.int IntKind.i64 0)) t9_7 (Value.int IntKind.i64 0)) w7 (fun t10_8 w8 =>
 Gd t10_8 true (DoV Tryd.prog (Instr.fieldAt 49 t1_1 1) w8 (fun t13_9 w9 =>
 DoV Tryd.prog (Instr.loadAt 46 t13_9) w9 (fun t14_10 w10 =>
 CallF Tryd.prog 65 #[t14_10] w10 (fun t15_11 w11 =>
 Gd t15_11 true (DoV Tryd.prog (Instr.fieldAt 49 t1_1 2) w11 (fun t18_12 w12 =>
 DoV Tryd.prog (Instr.loadAt 47 t18_12) w12 (fun t19_13 w13 =>
 CallF Tryd.prog 66 #[t19_13, (Value.int IntKind.i64 1)] w13 (fun t20_14 w14 =>
 R (.returned t20_14) w14) (Pan R)) (Pan R)) (Pan R))
(R (.returned (Value.bool false)) w11)) (Pan R)) (Pan R)) (Pan R))
(R (.returned (Value.bool false)) w8)) (Pan R)) (Pan R)) (Pan R)) (Pan R))
(R (.returned (Value.bool false)) w4)) (Pan R)) (Pan R)) (Pan R)) (Pan R))
theorem sh_report_Valid_eq (v0 : Value) (R : Ending → World → Prop) (w : World) : vc Tryd.prog [] [] (Tryd.f33.body.getD .skip) (endE Tryd.prog Tryd.f33.results R) (argsE [v0]) [] w = sh_report_Valid v0 R w := by kernel_rfl
theorem sh_report_Valid_ok (v0 : Value) {R : Ending → World → Prop} {w : World} (h : sh_report_Valid v0 R w) : Calls Tryd.prog 33 #[v0] w R :=
  calls_of_vc (args := [v0]) [] [] follows_mixed Tryd.func33 rfl (of_decide_eq_true (by kernel_rfl)) (by kernel_rfl) ((sh_report_Valid_eq v0 R w).symm ▸ h)
/- landfall/landfallref24.Valid -/
def sh_landfallref24_Valid (v0 : Value) (R : Ending → World → Prop) (w : World) : Prop := (
 DoV Tryd.prog (Instr.box 49 v0) w (fun t1_1 w1 =>
 DoV Tryd.prog (Instr.fieldAt 49 t1_1 0) w1 (fun t3_2 w2 =>
 DoV Tryd.prog (Instr.loadAt 3 t3_2) w2 (fun t4_3 w3 =>
 CallF Tryd.prog 61 #[t4_3, (Value.int IntKind.i64 1), (Value.int IntKind.i64 1000000)] w3 (fun t5_4 w4 =>
 Gd t5_4 true (DoV Tryd.prog (Instr.fieldAt 49 t1_1 1) w4 (fun t7_5 w5 =>
 DoV Tryd.prog (Instr.loadAt 46 t7_5) w5 (fun t8_6 w6 =>
 CallB Tryd.prog Builtin.len #[46] 3 #[false] #[t8_6] w6 (fun t9_7 w7 =>
 DoV Tryd.prog (binS BinOp.gtr 3 (Operand.tmp 9) (Operand.const (Value.int IntKind.i64 0)) t9_7 (Value.int IntKind.i64 0)) w7 (fun t10_8 w8 =>
 Gd t10_8 true (DoV Tryd.prog (Instr.fieldAt 49 t1_1 1) w8 (fun t13_9 w9 =>
 DoV Tryd.prog (Instr.loadAt 46 t13_9) w9 (fun t14_10 w10 =>
 CallF Tryd.prog 67 #[t14_10] w10 (fun t15_11 w11 =>
 Gd t15_11 true (DoV Tryd.prog (Instr.fieldAt 49 t1_1 2) w11 (fun t18_12 w12 =>
 DoV Tryd.prog (Instr.loadAt 47 t18_12) w12 (fun t19_13 w13 =>
 CallF Tryd.prog 68 #[t19_13, (Value.int IntKind.i64 1)] w13 (fun t20_14 w14 =>
 R (.returned t20_14) w14) (Pan R)) (Pan R)) (Pan R))
(R (.returned (Value.bool false)) w11)) (Pan R)) (Pan R)) (Pan R))
(R (.returned (Value.bool false)) w8)) (Pan R)) (Pan R)) (Pan R)) (Pan R))
(R (.returned (Value.bool false)) w4)) (Pan R)) (Pan R)) (Pan R)) (Pan R))
theorem sh_landfallref24_Valid_eq (v0 : Value) (R : Ending → World → Prop) (w : World) : vc Tryd.prog [] [] (Tryd.f34.body.getD .skip) (endE Tryd.prog Tryd.f34.results R) (argsE [v0]) [] w = sh_landfallref24_Valid v0 R w := by kernel_rfl
theorem sh_landfallref24_Valid_ok (v0 : Value) {R : Ending → World → Prop} {w : World} (h : sh_landfallref24_Valid v0 R w) : Calls Tryd.prog 34 #[v0] w R :=
  calls_of_vc (args := [v0]) [] [] follows_mixed Tryd.func34 rfl (of_decide_eq_true (by kernel_rfl)) (by kernel_rfl) ((sh_landfallref24_Valid_eq v0 R w).symm ▸ h)
/- landfall/report.Make -/
def sh_report_Make (v0 v1 v2 v3 v4 : Value) (R : Ending → World → Prop) (w : World) : Prop := (
 DoV Tryd.prog (Instr.box 49 v0) w (fun t5_1 w1 =>
 DoV Tryd.prog (Instr.alloc 51 true (.tuple #[])) w1 (fun t10_2 w2 =>
 DoV Tryd.prog (Instr.loadAt 49 t5_1) w2 (fun t17_3 w3 =>
 DoV Tryd.prog (binS BinOp.sub 3 (Operand.tmp 18) (Operand.const (Value.int IntKind.i64 1)) v1 (Value.int IntKind.i64 1)) w3 (fun t19_4 w4 =>
 CallF Tryd.prog 31 #[t17_3, t19_4] w4 (fun t20_5 w5 =>
 DoV Tryd.prog (Instr.extract t20_5 0) w5 (fun t21_6 w6 =>
 DoV Tryd.prog (Instr.extract t20_5 1) w6 (fun t22_7 w7 =>
 JoinE [] (fun K8 =>
 JoinE [36] (fun K9 =>
 DoV Tryd.prog (binS BinOp.neq 28 (Operand.tmp 23) (Operand.const (Value.int IntKind.i64 0)) t22_7 (Value.int IntKind.i64 0)) w7 (fun t24_10 w10 =>
 Gd t24_10 false (DoV Tryd.prog (binS BinOp.gtr 3 (Operand.tmp 26) (Operand.tmp 27) v1 v2) w10 (fun t28_11 w11 =>
 Gd t28_11 false (DoV Tryd.prog (Instr.fieldAt 49 t5_1 2) w11 (fun t32_12 w12 =>
 DoV Tryd.prog (Instr.loadAt 47 t32_12) w12 (fun t33_13 w13 =>
 CallB Tryd.prog Builtin.len #[47] 3 #[false] #[t33_13] w13 (fun t34_14 w14 =>
 DoV Tryd.prog (binS BinOp.gtr 3 (Operand.tmp 31) (Operand.tmp 34) v2 t34_14) w14 (fun t35_15 w15 =>
 K9 [t35_15] w15) (Pan R)) (Pan R)) (Pan R)) (Pan R))
(K9 [(Value.bool true)] w11)) (Pan R))
(K9 [(Value.bool true)] w10)) (Pan R))
(fun h16 w16 =>
 Br (h16 36)
(DoV Tryd.prog (Instr.build 51 #[]) w16 (fun t37_17 w17 =>
 DoU Tryd.prog (Instr.storeAt 51 t10_2 t37_17) w17 (fun _ w18 =>
 Res Tryd.prog [.cell t10_2 51, .tmp (Value.int IntKind.i64 1)] w18 R) (Pan R)) (Pan R))
(K8 [] w16)))
(fun _ w19 =>
 DrawR w19 (fun R20 S20 w20 =>
 DetOp R20 (Both R20 S20) w20 (fun w21 K21 => DoV Tryd.prog (Instr.fieldAt 49 t5_1 0) w21 K21 (Pan R)) (fun c38_21 ψ21 =>
 DetOp R20 (Both R20 S20) w20 (fun w22 K22 => DoV Tryd.prog (Instr.loadAt 3 c38_21) w22 K22 (Pan R)) (fun c39_22 ψ22 =>
 DetOp R20 (Both R20 S20) w20 (fun w23 K23 => DoV Tryd.prog (Instr.fieldAt 49 t5_1 2) w23 K23 (Pan R)) (fun c41_23 ψ23 =>
 DetOp R20 (Both R20 S20) w20 (fun w24 K24 => DoV Tryd.prog (Instr.loadAt 47 c41_23) w24 K24 (Pan R)) (fun c42_24 ψ24 =>
 DetOp R20 (Both R20 S20) w20 (fun w25 K25 => DoV Tryd.prog (binS BinOp.sub 3 (Operand.tmp 43) (Operand.const (Value.int IntKind.i64 1)) v1 (Value.int IntKind.i64 1)) w25 K25 (Pan R)) (fun c44_25 ψ25 =>
 DetOp R20 (Both R20 S20) w20 (fun w26 K26 => DoV Tryd.prog (Instr.sliceAt 47 c42_24 (some c44_25) (some v2) none) w26 K26 (Pan R)) (fun c46_26 ψ26 =>
 ThrE R20 S20 0 w20 (fun Θ20_0 T20_0 =>
 NdC R20 S20 0 w20 Θ20_0 (fun w27 K27 => CallF Tryd.prog 69 #[c46_26] w27 K27 (Pan R)) (fun v47_27 φ27 =>
 NdC R20 S20 0 w20 φ27 (fun w28 K28 => DoV Tryd.prog (Instr.build 51 #[(0, c39_22), (1, v1), (2, v47_27), (3, t21_6)]) w28 K28 (Pan R)) (fun v49_28 φ28 =>
 T20_0 [v47_27, v49_28] φ28))) (fun Φ20_0 =>
 ThrE R20 S20 1 w20 (fun Θ20_1 T20_1 =>
 NdC R20 S20 1 w20 Θ20_1 (fun w29 K29 => DoV Tryd.prog (Instr.alloc 51 true (.tuple #[])) w29 K29 (Pan R)) (fun v14_29 φ29 =>
 T20_1 [v14_29] φ29)) (fun Φ20_1 =>
 ∀ (h30 : Nat → Value) (w31 : World), R20 w20 w31 → ((((((True ∧ ψ21 w31) ∧ ψ22 w31) ∧ ψ23 w31) ∧ ψ24 w31) ∧ ψ25 w31) ∧ ψ26 w31) ∧ ((True ∧ Φ20_0 [(h30 47), (h30 49)] w31) ∧ Φ20_1 [(h30 14)] w31) →
 DoU Tryd.prog (Instr.storeAt 51 (h30 14) (h30 49)) w31 (fun _ w32 =>
 DoV Tryd.prog (Instr.fieldAt 51 (h30 14) 2) w32 (fun t50_33 w33 =>
 DoV Tryd.prog (Instr.loadAt 47 t50_33) w33 (fun t51_34 w34 =>
 CallF Tryd.prog 60 #[t51_34, t21_6] w34 (fun t53_35 w35 =>
 DoV Tryd.prog (Instr.fieldAt 51 (h30 14) 4) w35 (fun t54_36 w36 =>
 DoU Tryd.prog (Instr.storeAt 39 t54_36 t53_35) w36 (fun _ w37 =>
 DoV Tryd.prog (Instr.loadAt 51 (h30 14)) w37 (fun t58_38 w38 =>
 CallF Tryd.prog 70 #[t58_38] w38 (fun t59_39 w39 =>
 CallF Tryd.prog 21 #[v3, v4, t59_39] w39 (fun t60_40 w40 =>
 DoV Tryd.prog (Instr.extract t60_40 0) w40 (fun t61_41 w41 =>
 DoV Tryd.prog (Instr.extract t60_40 1) w41 (fun t62_42 w42 =>
 DoV Tryd.prog (Instr.alloc 23 true (.tuple #[])) w42 (fun t15_43 w43 =>
 DoU Tryd.prog (Instr.storeAt 23 t15_43 t61_41) w43 (fun _ w44 =>
 DoV Tryd.prog (binS BinOp.neq 28 (Operand.tmp 63) (Operand.const (Value.int IntKind.i64 0)) t62_42 (Value.int IntKind.i64 0)) w44 (fun t64_45 w45 =>
 Br t64_45
(DoV Tryd.prog (Instr.build 51 #[]) w45 (fun t65_46 w46 =>
 DoU Tryd.prog (Instr.storeAt 51 t10_2 t65_46) w46 (fun _ w47 =>
 Res Tryd.prog [.cell t10_2 51, .tmp t62_42] w47 R) (Pan R)) (Pan R))
(DoV Tryd.prog (Instr.loadAt 23 t15_43) w45 (fun t67_48 w48 =>
 DoV Tryd.prog (Instr.fieldAt 51 (h30 14) 5) w48 (fun t68_49 w49 =>
 DoU Tryd.prog (Instr.storeAt 23 t68_49 t67_48) w49 (fun _ w50 =>
 DoV Tryd.prog (Instr.loadAt 51 (h30 14)) w50 (fun t69_51 w51 =>
 DoU Tryd.prog (Instr.storeAt 51 t10_2 t69_51) w51 (fun _ w52 =>
 Res Tryd.prog [.cell t10_2 51, .tmp (Value.int IntKind.i64 0)] w52 R) (Pan R)) (Pan R)) (Pan R)) (Pan R)) (Pan R))) (Pan R)) (Pan R)) (Pan R)) (Pan R)) (Pan R)) (Pan R)) (Pan R)) (Pan R)) (Pan R)) (Pan R)) (Pan R)) (Pan R)) (Pan R)) (Pan R)))))))))))) (Pan R)) (Pan R)) (Pan R)) (Pan R)) (Pan R)) (Pan R)) (Pan R))
theorem sh_report_Make_eq (v0 v1 v2 v3 v4 : Value) (R : Ending → World → Prop) (w : World) : vc Tryd.prog [(4, 13, false, 146163106792)] [] (Tryd.f35.body.getD .skip) (endE Tryd.prog Tryd.f35.results R) (argsE [v0, v1, v2, v3, v4]) [] w = sh_report_Make v0 v1 v2 v3 v4 R w := by kernel_rfl
theorem sh_report_Make_ok (v0 v1 v2 v3 v4 : Value) {R : Ending → World → Prop} {w : World} (h : sh_report_Make v0 v1 v2 v3 v4 R w) : Calls Tryd.prog 35 #[v0, v1, v2, v3, v4] w R :=
  calls_of_vc (args := [v0, v1, v2, v3, v4]) [(4, 13, false, 146163106792)] [] follows_mixed Tryd.func35 rfl (of_decide_eq_true (by kernel_rfl)) (by kernel_rfl) ((sh_report_Make_eq v0 v1 v2 v3 v4 R w).symm ▸ h)
/- landfall/landfallref24.Make -/
def sh_landfallref24_Make (v0 v1 v2 v3 v4 : Value) (R : Ending → World → Prop) (w : World) : Prop := (
 DoV Tryd.prog (Instr.box 49 v0) w (fun t5_1 w1 =>
 DoV Tryd.prog (Instr.alloc 51 true (.tuple #[])) w1 (fun t10_2 w2 =>
 JoinE [] (fun K3 =>
 JoinE [43] (fun K4 =>
 DoV Tryd.prog (Instr.loadAt 49 t5_1) w2 (fun t15_5 w5 =>
 CallF Tryd.prog 34 #[t15_5] w5 (fun t16_6 w6 =>
 DoV Tryd.prog (Op.unary UnOp.not t16_6) w6 (fun t17_7 w7 =>
 Gd t17_7 false (DoV Tryd.prog (binS BinOp.lss 3 (Operand.tmp 19) (Operand.const (Value.int IntKind.i64 1)) v1 (Value.int IntKind.i64 1)) w7 (fun t20_8 w8 =>
 Gd t20_8 false (DoV Tryd.prog (binS BinOp.gtr 3 (Operand.tmp 23) (Operand.tmp 24) v1 v2) w8 (fun t25_9 w9 =>
 Gd t25_9 false (DoV Tryd.prog (Instr.fieldAt 49 t5_1 2) w9 (fun t29_10 w10 =>
 DoV Tryd.prog (Instr.loadAt 47 t29_10) w10 (fun t30_11 w11 =>
 CallB Tryd.prog Builtin.len #[47] 3 #[false] #[t30_11] w11 (fun t31_12 w12 =>
 DoV Tryd.prog (binS BinOp.gtr 3 (Operand.tmp 28) (Operand.tmp 31) v2 t31_12) w12 (fun t32_13 w13 =>
 Gd t32_13 false (CallF Tryd.prog 53 #[v3] w13 (fun t36_14 w14 =>
 DoV Tryd.prog (Op.unary UnOp.not t36_14) w14 (fun t37_15 w15 =>
 Gd t37_15 false (CallF Tryd.prog 53 #[v4] w15 (fun t41_16 w16 =>
 DoV Tryd.prog (Op.unary UnOp.not t41_16) w16 (fun t42_17 w17 =>
 K4 [t42_17] w17) (Pan R)) (Pan R))
(K4 [(Value.bool true)] w15)) (Pan R)) (Pan R))
(K4 [(Value.bool true)] w13)) (Pan R)) (Pan R)) (Pan R)) (Pan R))
(K4 [(Value.bool true)] w9)) (Pan R))
(K4 [(Value.bool true)] w8)) (Pan R))
(K4 [(Value.bool true)] w7)) (Pan R)) (Pan R)) (Pan R))
(fun h18 w18 =>
 Br (h18 43)
(DoV Tryd.prog (Instr.build 51 #[]) w18 (fun t44_19 w19 =>
 DoU Tryd.prog (Instr.storeAt 51 t10_2 t44_19) w19 (fun _ w20 =>
 Res Tryd.prog [.cell t10_2 51, .tmp (Value.int IntKind.i64 1)] w20 R) (Pan R)) (Pan R))
(K3 [] w18)))
(fun _ w21 =>
 DoV Tryd.prog (Instr.fieldAt 49 t5_1 0) w21 (fun t45_22 w22 =>
 DoV Tryd.prog (Instr.loadAt 3 t45_22) w22 (fun t46_23 w23 =>
 DoV Tryd.prog (Instr.build 51 #[(0, t46_23), (1, v1)]) w23 (fun t48_24 w24 =>
 DoV Tryd.prog (Instr.alloc 51 true (.tuple #[])) w24 (fun t12_25 w25 =>
 DoU Tryd.prog (Instr.storeAt 51 t12_25 t48_24) w25 (fun _ w26 =>
 DrawE w26 (fun Rs27 Rb27 w27 =>
 DetOp Rb27 Rs27 w27 (fun w28 K28 => DoV Tryd.prog (Instr.fieldAt 51 t12_25 2) w28 K28 (Pan R)) (fun c49_28 ψ28 =>
 DetOp Rb27 Rs27 w27 (fun w29 K29 => DoV Tryd.prog (Instr.loadAt 47 c49_28) w29 K29 (Pan R)) (fun c50_29 ψ29 =>
 DetOp Rb27 Rs27 w27 (fun w30 K30 => DoV Tryd.prog (Instr.fieldAt 49 t5_1 2) w30 K30 (Pan R)) (fun c51_30 ψ30 =>
 DetOp Rb27 Rs27 w27 (fun w31 K31 => DoV Tryd.prog (Instr.loadAt 47 c51_30) w31 K31 (Pan R)) (fun c52_31 ψ31 =>
 DetOp Rb27 Rs27 w27 (fun w32 K32 => DoV Tryd.prog (binS BinOp.sub 3 (Operand.tmp 53) (Operand.const (Value.int IntKind.i64 1)) v1 (Value.int IntKind.i64 1)) w32 K32 (Pan R)) (fun c54_32 ψ32 =>
 DetOp Rb27 Rs27 w27 (fun w33 K33 => DoV Tryd.prog (Instr.sliceAt 47 c52_31 (some c54_32) (some v2) none) w33 K33 (Pan R)) (fun c56_33 ψ33 =>
 ∀ w34, Rb27 w27 w34 → ((((((True ∧ ψ28 w34) ∧ ψ29 w34) ∧ ψ30 w34) ∧ ψ31 w34) ∧ ψ32 w34) ∧ ψ33 w34) →
 CallB Tryd.prog Builtin.append #[47, 47] 47 #[false, false] #[c50_29, c56_33] w34 (fun t57_35 w35 =>
 DoV Tryd.prog (Instr.fieldAt 51 t12_25 2) w35 (fun t58_36 w36 =>
 DoU Tryd.prog (Instr.storeAt 47 t58_36 t57_35) w36 (fun _ w37 =>
 DrawE w37 (fun Rs38 Rb38 w38 =>
 DetOp Rb38 Rs38 w38 (fun w39 K39 => DoV Tryd.prog (Instr.fieldAt 49 t5_1 0) w39 K39 (Pan R)) (fun c59_39 ψ39 =>
 DetOp Rb38 Rs38 w38 (fun w40 K40 => DoV Tryd.prog (Instr.loadAt 3 c59_39) w40 K40 (Pan R)) (fun c60_40 ψ40 =>
 DetOp Rs38 Rb38 w38 (fun w41 K41 => CallF Tryd.prog 63 #[c60_40] w41 K41 (Pan R)) (fun c61_41 ψ41 =>
 DetOp Rb38 Rs38 w38 (fun w42 K42 => DoV Tryd.prog (Instr.fieldAt 49 t5_1 2) w42 K42 (Pan R)) (fun c62_42 ψ42 =>
 DetOp Rb38 Rs38 w38 (fun w43 K43 => DoV Tryd.prog (Instr.loadAt 47 c62_42) w43 K43 (Pan R)) (fun c63_43 ψ43 =>
 DetOp Rb38 Rs38 w38 (fun w44 K44 => DoV Tryd.prog (binS BinOp.sub 3 (Operand.tmp 64) (Operand.const (Value.int IntKind.i64 1)) v1 (Value.int IntKind.i64 1)) w44 K44 (Pan R)) (fun c65_44 ψ44 =>
 DetOp Rb38 Rs38 w38 (fun w45 K45 => DoV Tryd.prog (Instr.sliceAt 47 c63_43 none (some c65_44) none) w45 K45 (Pan R)) (fun c66_45 ψ45 =>
 ∀ w46, Rb38 w38 w46 → (((((((True ∧ ψ39 w46) ∧ ψ40 w46) ∧ ψ41 w46) ∧ ψ42 w46) ∧ ψ43 w46) ∧ ψ44 w46) ∧ ψ45 w46) →
 CallF Tryd.prog 62 #[c61_41, c66_45] w46 (fun t67_47 w47 =>
 DoV Tryd.prog (Instr.fieldAt 51 t12_25 3) w47 (fun t68_48 w48 =>
 DoU Tryd.prog (Instr.storeAt 39 t68_48 t67_47) w48 (fun _ w49 =>
 DoV Tryd.prog (Instr.fieldAt 51 t12_25 3) w49 (fun t69_50 w50 =>
 DoV Tryd.prog (Instr.loadAt 39 t69_50) w50 (fun t70_51 w51 =>
 DoV Tryd.prog (Instr.fieldAt 51 t12_25 2) w51 (fun t71_52 w52 =>
 DoV Tryd.prog (Instr.loadAt 47 t71_52) w52 (fun t72_53 w53 =>
 CallF Tryd.prog 62 #[t70_51, t72_53] w53 (fun t73_54 w54 =>
 DoV Tryd.prog (Instr.fieldAt 51 t12_25 4) w54 (fun t74_55 w55 =>
 DoU Tryd.prog (Instr.storeAt 39 t74_55 t73_54) w55 (fun _ w56 =>
 DoV Tryd.prog (Instr.loadAt 51 t12_25) w56 (fun t78_57 w57 =>
 CallF Tryd.prog 71 #[t78_57] w57 (fun t79_58 w58 =>
 CallF Tryd.prog 22 #[v3, v4, t79_58] w58 (fun t80_59 w59 =>
 DoV Tryd.prog (Instr.extract t80_59 0) w59 (fun t81_60 w60 =>
 DoV Tryd.prog (Instr.extract t80_59 1) w60 (fun _ w61 =>
 DoV Tryd.prog (Instr.alloc 23 true (.tuple #[])) w61 (fun t13_62 w62 =>
 DoU Tryd.prog (Instr.storeAt 23 t13_62 t81_60) w62 (fun _ w63 =>
 DoV Tryd.prog (Instr.loadAt 23 t13_62) w63 (fun t83_64 w64 =>
 DoV Tryd.prog (Instr.fieldAt 51 t12_25 5) w64 (fun t84_65 w65 =>
 DoU Tryd.prog (Instr.storeAt 23 t84_65 t83_64) w65 (fun _ w66 =>
 DoV Tryd.prog (Instr.loadAt 51 t12_25) w66 (fun t85_67 w67 =>
 DoU Tryd.prog (Instr.storeAt 51 t10_2 t85_67) w67 (fun _ w68 =>
 Res Tryd.prog [.cell t10_2 51, .tmp (Value.int IntKind.i64 0)] w68 R) (Pan R)) (Pan R)) (Pan R)) (Pan R)) (Pan R)) (Pan R)) (Pan R)) (Pan R)) (Pan R)) (Pan R)) (Pan R)) (Pan R)) (Pan R)) (Pan R)) (Pan R)) (Pan R)) (Pan R)) (Pan R)) (Pan R)) (Pan R)) (Pan R)) (Pan R)))))))))) (Pan R)) (Pan R)) (Pan R))))))))) (Pan R)) (Pan R)) (Pan R)) (Pan R)) (Pan R))) (Pan R)) (Pan R))
theorem sh_landfallref24_Make_eq (v0 v1 v2 v3 v4 : Value) (R : Ending → World → Prop) (w : World) : vc Tryd.prog [(4, 8, false, 0), (5, 8, false, 3)] [] (Tryd.f36.body.getD .skip) (endE Tryd.prog Tryd.f36.results R) (argsE [v0, v1, v2, v3, v4]) [] w = sh_landfallref24_Make v0 v1 v2 v3 v4 R w := by kernel_rfl
theorem sh_landfallref24_Make_ok (v0 v1 v2 v3 v4 : Value) {R : Ending → World → Prop} {w : World} (h : sh_landfallref24_Make v0 v1 v2 v3 v4 R w) : Calls Tryd.prog 36 #[v0, v1, v2, v3, v4] w R :=
  calls_of_vc (args := [v0, v1, v2, v3, v4]) [(4, 8, false, 0), (5, 8, false, 3)] [] follows_mixed Tryd.func36 rfl (of_decide_eq_true (by kernel_rfl)) (by kernel_rfl) ((sh_landfallref24_Make_eq v0 v1 v2 v3 v4 R w).symm ▸ h)
/- landfall/landfallref24.Same -/
def sh_landfallref24_Same (v0 v1 : Value) (R : Ending → World → Prop) (w : World) : Prop := (
 DoV Tryd.prog (Instr.box 51 v0) w (fun t2_1 w1 =>
 DoV Tryd.prog (Instr.box 51 v1) w1 (fun t3_2 w2 =>
 DoV Tryd.prog (Instr.fieldAt 51 t2_1 0) w2 (fun t5_3 w3 =>
 DoV Tryd.prog (Instr.loadAt 3 t5_3) w3 (fun t6_4 w4 =>
 DoV Tryd.prog (Instr.fieldAt 51 t3_2 0) w4 (fun t7_5 w5 =>
 DoV Tryd.prog (Instr.loadAt 3 t7_5) w5 (fun t8_6 w6 =>
 DoV Tryd.prog (binS BinOp.eql 3 (Operand.tmp 6) (Operand.tmp 8) t6_4 t8_6) w6 (fun t9_7 w7 =>
 Gd t9_7 true (DoV Tryd.prog (Instr.fieldAt 51 t2_1 1) w7 (fun t11_8 w8 =>
 DoV Tryd.prog (Instr.loadAt 3 t11_8) w8 (fun t12_9 w9 =>
 DoV Tryd.prog (Instr.fieldAt 51 t3_2 1) w9 (fun t13_10 w10 =>
 DoV Tryd.prog (Instr.loadAt 3 t13_10) w10 (fun t14_11 w11 =>
 DoV Tryd.prog (binS BinOp.eql 3 (Operand.tmp 12) (Operand.tmp 14) t12_9 t14_11) w11 (fun t15_12 w12 =>
 Gd t15_12 true (DoV Tryd.prog (Instr.fieldAt 51 t2_1 3) w12 (fun t18_13 w13 =>
 DoV Tryd.prog (Instr.loadAt 39 t18_13) w13 (fun t19_14 w14 =>
 DoV Tryd.prog (Instr.fieldAt 51 t3_2 3) w14 (fun t20_15 w15 =>
 DoV Tryd.prog (Instr.loadAt 39 t20_15) w15 (fun t21_16 w16 =>
 DoV Tryd.prog (binS BinOp.eql 39 (Operand.tmp 19) (Operand.tmp 21) t19_14 t21_16) w16 (fun t22_17 w17 =>
 Gd t22_17 true (DoV Tryd.prog (Instr.fieldAt 51 t2_1 4) w17 (fun t25_18 w18 =>
 DoV Tryd.prog (Instr.loadAt 39 t25_18) w18 (fun t26_19 w19 =>
 DoV Tryd.prog (Instr.fieldAt 51 t3_2 4) w19 (fun t27_20 w20 =>
 DoV Tryd.prog (Instr.loadAt 39 t27_20) w20 (fun t28_21 w21 =>
 DoV Tryd.prog (binS BinOp.eql 39 (Operand.tmp 26) (Operand.tmp 28) t26_19 t28_21) w21 (fun t29_22 w22 =>
 Gd t29_22 true (DoV Tryd.prog (Instr.fieldAt 51 t2_1 5) w22 (fun t32_23 w23 =>
 DoV Tryd.prog (Instr.loadAt 23 t32_23) w23 (fun t33_24 w24 =>
 DoV Tryd.prog (Instr.fieldAt 51 t3_2 5) w24 (fun t34_25 w25 =>
 DoV Tryd.prog (Instr.loadAt 23 t34_25) w25 (fun t35_26 w26 =>
 DoV Tryd.prog (binS BinOp.eql 23 (Operand.tmp 33) (Operand.tmp 35) t33_24 t35_26) w26 (fun t36_27 w27 =>
 Gd t36_27 true (DoV Tryd.prog (Instr.fieldAt 51 t2_1 2) w27 (fun t39_28 w28 =>
 DoV Tryd.prog (Instr.loadAt 47 t39_28) w28 (fun t40_29 w29 =>
 DoV Tryd.prog (Instr.fieldAt 51 t3_2 2) w29 (fun t41_30 w30 =>
 DoV Tryd.prog (Instr.loadAt 47 t41_30) w30 (fun t42_31 w31 =>
 CallF Tryd.prog 47 #[t40_29, t42_31] w31 (fun t43_32 w32 =>
 R (.returned t43_32) w32) (Pan R)) (Pan R)) (Pan R)) (Pan R)) (Pan R))
(R (.returned (Value.bool false)) w27)) (Pan R)) (Pan R)) (Pan R)) (Pan R)) (Pan R))
(R (.returned (Value.bool false)) w22)) (Pan R)) (Pan R)) (Pan R)) (Pan R)) (Pan R))
(R (.returned (Value.bool false)) w17)) (Pan R)) (Pan R)) (Pan R)) (Pan R)) (Pan R))
(R (.returned (Value.bool false)) w12)) (Pan R)) (Pan R)) (Pan R)) (Pan R)) (Pan R))
(R (.returned (Value.bool false)) w7)) (Pan R)) (Pan R)) (Pan R)) (Pan R)) (Pan R)) (Pan R)) (Pan R))
theorem sh_landfallref24_Same_eq (v0 v1 : Value) (R : Ending → World → Prop) (w : World) : vc Tryd.prog [] [] (Tryd.f37.body.getD .skip) (endE Tryd.prog Tryd.f37.results R) (argsE [v0, v1]) [] w = sh_landfallref24_Same v0 v1 R w := by kernel_rfl
theorem sh_landfallref24_Same_ok (v0 v1 : Value) {R : Ending → World → Prop} {w : World} (h : sh_landfallref24_Same v0 v1 R w) : Calls Tryd.prog 37 #[v0, v1] w R :=
  calls_of_vc (args := [v0, v1]) [] [] follows_mixed Tryd.func37 rfl (of_decide_eq_true (by kernel_rfl)) (by kernel_rfl) ((sh_landfallref24_Same_eq v0 v1 R w).symm ▸ h)
/- landfall/report.Check -/
def sh_report_Check (v0 v1 : Value) (R : Ending → World → Prop) (w : World) : Prop := (
 DoV Tryd.prog (Instr.box 51 v0) w (fun t2_1 w1 =>
 DoV Tryd.prog (Instr.fieldAt 51 t2_1 2) w1 (fun t9_2 w2 =>
 DoV Tryd.prog (Instr.loadAt 47 t9_2) w2 (fun t10_3 w3 =>
 JoinE [] (fun K4 =>
 JoinE [26] (fun K5 =>
 DoV Tryd.prog (Instr.fieldAt 51 t2_1 0) w3 (fun t11_6 w6 =>
 DoV Tryd.prog (Instr.loadAt 3 t11_6) w6 (fun t12_7 w7 =>
 CallF Tryd.prog 64 #[t12_7] w7 (fun t13_8 w8 =>
 DoV Tryd.prog (Op.unary UnOp.not t13_8) w8 (fun t14_9 w9 =>
 Gd t14_9 false (CallB Tryd.prog Builtin.len #[90] 3 #[false] #[t10_3] w9 (fun t17_10 w10 =>
 DoV Tryd.prog (binS BinOp.eql 3 (Operand.tmp 17) (Operand.const (Value.int IntKind.i64 0)) t17_10 (Value.int IntKind.i64 0)) w10 (fun t18_11 w11 =>
 Gd t18_11 false (DoV Tryd.prog (Instr.fieldAt 51 t2_1 1) w11 (fun t22_12 w12 =>
 DoV Tryd.prog (Instr.loadAt 3 t22_12) w12 (fun t23_13 w13 =>
 CallF Tryd.prog 66 #[t10_3, t23_13] w13 (fun t24_14 w14 =>
 DoV Tryd.prog (Op.unary UnOp.not t24_14) w14 (fun t25_15 w15 =>
 K5 [t25_15] w15) (Pan R)) (Pan R)) (Pan R)) (Pan R))
(K5 [(Value.bool true)] w11)) (Pan R)) (Pan R))
(K5 [(Value.bool true)] w9)) (Pan R)) (Pan R)) (Pan R)) (Pan R))
(fun h16 w16 =>
 Br (h16 26)
(R (.returned (Value.tuple #[(Value.bool false), (Value.int IntKind.i64 1)])) w16)
(K4 [] w16)))
(fun _ w17 =>
 DrawR w17 (fun R18 S18 w18 =>
 DetOp R18 (Both R18 S18) w18 (fun w19 K19 => DoV Tryd.prog (Instr.fieldAt 51 t2_1 5) w19 K19 (Pan R)) (fun c29_19 ψ19 =>
 DetOp R18 (Both R18 S18) w18 (fun w20 K20 => DoV Tryd.prog (Instr.loadAt 23 c29_19) w20 K20 (Pan R)) (fun c30_20 ψ20 =>
 DetOp R18 (Both R18 S18) w18 (fun w21 K21 => DoV Tryd.prog (Instr.loadAt 51 t2_1) w21 K21 (Pan R)) (fun c31_21 ψ21 =>
 ThrE R18 S18 0 w18 (fun Θ18_0 T18_0 =>
 NdC R18 S18 0 w18 Θ18_0 (fun w22 K22 => CallF Tryd.prog 70 #[c31_21] w22 K22 (Pan R)) (fun v32_22 φ22 =>
 NdC R18 S18 0 w18 φ22 (fun w23 K23 => CallF Tryd.prog 23 #[v1, c30_20, v32_22] w23 K23 (Pan R)) (fun v33_23 φ23 =>
 NdC R18 S18 0 w18 φ23 (fun w24 K24 => K24 v33_23 w24) (fun v27_24 φ24 =>
 NdC R18 S18 0 w18 φ24 (fun w25 K25 => DoV Tryd.prog (Instr.extract v27_24 0) w25 K25 (Pan R)) (fun v34_25 φ25 =>
 NdC R18 S18 0 w18 φ25 (fun w26 K26 => DoV Tryd.prog (Instr.extract v27_24 1) w26 K26 (Pan R)) (fun v35_26 φ26 =>
 NdC R18 S18 0 w18 φ26 (fun w27 K27 => K27 v34_25 w27) (fun v7_27 φ27 =>
 T18_0 [v32_22, v33_23, v27_24, v34_25, v35_26, v7_27] φ27))))))) (fun Φ18_0 =>
 ∀ (h28 : Nat → Value) (w29 : World), R18 w18 w29 → (((True ∧ ψ19 w29) ∧ ψ20 w29) ∧ ψ21 w29) ∧ (True ∧ Φ18_0 [(h28 32), (h28 33), (h28 27), (h28 34), (h28 35), (h28 7)] w29) →
 DrawE w29 (fun Rs30 Rb30 w30 =>
 Gd (h28 7) true (DetOp Rb30 Rs30 w30 (fun w31 K31 => DoV Tryd.prog (Instr.fieldAt 51 t2_1 3) w31 K31 (Pan R)) (fun c39_31 ψ31 =>
 DetOp Rb30 Rs30 w30 (fun w32 K32 => DoV Tryd.prog (Instr.loadAt 39 c39_31) w32 K32 (Pan R)) (fun c40_32 ψ32 =>
 DetOp Rs30 Rb30 w30 (fun w33 K33 => CallF Tryd.prog 60 #[t10_3, c40_32] w33 K33 (Pan R)) (fun c41_33 ψ33 =>
 DetOp Rb30 Rs30 w30 (fun w34 K34 => DoV Tryd.prog (Instr.fieldAt 51 t2_1 4) w34 K34 (Pan R)) (fun c42_34 ψ34 =>
 DetOp Rb30 Rs30 w30 (fun w35 K35 => DoV Tryd.prog (Instr.loadAt 39 c42_34) w35 K35 (Pan R)) (fun c43_35 ψ35 =>
 DetOp Rb30 Rs30 w30 (fun w36 K36 => DoV Tryd.prog (binS BinOp.eql 39 (Operand.tmp 41) (Operand.tmp 43) c41_33 c43_35) w36 K36 (Pan R)) (fun c44_36 ψ36 =>
 ∀ w37, Rb30 w30 w37 → ((((((True ∧ ψ31 w37) ∧ ψ32 w37) ∧ ψ33 w37) ∧ ψ34 w37) ∧ ψ35 w37) ∧ ψ36 w37) →
 R (.returned (Value.tuple #[c44_36, (h28 35)])) w37)))))))
(∀ w38, Rb30 w30 w38 → True →
 R (.returned (Value.tuple #[(Value.bool false), (h28 35)])) w38))))))))) (Pan R)) (Pan R)) (Pan R))
theorem sh_report_Check_eq (v0 v1 : Value) (R : Ending → World → Prop) (w : World) : vc Tryd.prog [(4, 10, false, 153392104), (5, 12, false, 6)] [] (Tryd.f38.body.getD .skip) (endE Tryd.prog Tryd.f38.results R) (argsE [v0, v1]) [] w = sh_report_Check v0 v1 R w := by kernel_rfl
theorem sh_report_Check_ok (v0 v1 : Value) {R : Ending → World → Prop} {w : World} (h : sh_report_Check v0 v1 R w) : Calls Tryd.prog 38 #[v0, v1] w R :=
  calls_of_vc (args := [v0, v1]) [(4, 10, false, 153392104), (5, 12, false, 6)] [] follows_mixed Tryd.func38 rfl (of_decide_eq_true (by kernel_rfl)) (by kernel_rfl) ((sh_report_Check_eq v0 v1 R w).symm ▸ h)
/- landfall/landfallref24.Check -/
def sh_landfallref24_Check (v0 v1 : Value) (R : Ending → World → Prop) (w : World) : Prop := (
 DoV Tryd.prog (Instr.box 51 v0) w (fun t2_1 w1 =>
 JoinE [] (fun K2 =>
 JoinE [29] (fun K3 =>
 DoV Tryd.prog (Instr.loadAt 51 t2_1) w1 (fun t8_4 w4 =>
 CallF Tryd.prog 48 #[t8_4] w4 (fun t9_5 w5 =>
 DoV Tryd.prog (Op.unary UnOp.not t9_5) w5 (fun t10_6 w6 =>
 Gd t10_6 false (CallF Tryd.prog 16 #[v1] w6 (fun t13_7 w7 =>
 DoV Tryd.prog (Op.unary UnOp.not t13_7) w7 (fun t14_8 w8 =>
 Gd t14_8 false (DoV Tryd.prog (Instr.fieldAt 51 t2_1 5) w8 (fun t17_9 w9 =>
 DoV Tryd.prog (Instr.fieldAt 23 t17_9 0) w9 (fun t18_10 w10 =>
 DoV Tryd.prog (Instr.loadAt 3 t18_10) w10 (fun t19_11 w11 =>
 CallF Tryd.prog 52 #[t19_11] w11 (fun t20_12 w12 =>
 DoV Tryd.prog (Op.unary UnOp.not t20_12) w12 (fun t21_13 w13 =>
 Gd t21_13 false (DoV Tryd.prog (Instr.fieldAt 51 t2_1 5) w13 (fun t24_14 w14 =>
 DoV Tryd.prog (Instr.fieldAt 23 t24_14 1) w14 (fun t25_15 w15 =>
 DoV Tryd.prog (Instr.loadAt 3 t25_15) w15 (fun t26_16 w16 =>
 CallF Tryd.prog 52 #[t26_16] w16 (fun t27_17 w17 =>
 DoV Tryd.prog (Op.unary UnOp.not t27_17) w17 (fun t28_18 w18 =>
 K3 [t28_18] w18) (Pan R)) (Pan R)) (Pan R)) (Pan R)) (Pan R))
(K3 [(Value.bool true)] w13)) (Pan R)) (Pan R)) (Pan R)) (Pan R)) (Pan R))
(K3 [(Value.bool true)] w8)) (Pan R)) (Pan R))
(K3 [(Value.bool true)] w6)) (Pan R)) (Pan R)) (Pan R))
(fun h19 w19 =>
 Br (h19 29)
(R (.returned (Value.tuple #[(Value.bool false), (Value.int IntKind.i64 1)])) w19)
(K2 [] w19)))
(fun _ w20 =>
 DrawR w20 (fun R21 S21 w21 =>
 DetOp R21 (Both R21 S21) w21 (fun w22 K22 => DoV Tryd.prog (Instr.fieldAt 51 t2_1 5) w22 K22 (Pan R)) (fun c32_22 ψ22 =>
 DetOp R21 (Both R21 S21) w21 (fun w23 K23 => DoV Tryd.prog (Instr.loadAt 23 c32_22) w23 K23 (Pan R)) (fun c33_23 ψ23 =>
 DetOp R21 (Both R21 S21) w21 (fun w24 K24 => DoV Tryd.prog (Instr.loadAt 51 t2_1) w24 K24 (Pan R)) (fun c34_24 ψ24 =>
 ThrE R21 S21 0 w21 (fun Θ21_0 T21_0 =>
 NdC R21 S21 0 w21 Θ21_0 (fun w25 K25 => CallF Tryd.prog 71 #[c34_24] w25 K25 (Pan R)) (fun v35_25 φ25 =>
 NdC R21 S21 0 w21 φ25 (fun w26 K26 => CallF Tryd.prog 24 #[v1, c33_23, v35_25] w26 K26 (Pan R)) (fun v36_26 φ26 =>
 NdC R21 S21 0 w21 φ26 (fun w27 K27 => K27 v36_26 w27) (fun v30_27 φ27 =>
 NdC R21 S21 0 w21 φ27 (fun w28 K28 => DoV Tryd.prog (Instr.extract v30_27 0) w28 K28 (Pan R)) (fun v37_28 φ28 =>
 NdC R21 S21 0 w21 φ28 (fun w29 K29 => DoV Tryd.prog (Instr.extract v30_27 1) w29 K29 (Pan R)) (fun v38_29 φ29 =>
 NdC R21 S21 0 w21 φ29 (fun w30 K30 => K30 v37_28 w30) (fun v6_30 φ30 =>
 T21_0 [v35_25, v36_26, v30_27, v37_28, v38_29, v6_30] φ30))))))) (fun Φ21_0 =>
 ∀ (h31 : Nat → Value) (w32 : World), R21 w21 w32 → (((True ∧ ψ22 w32) ∧ ψ23 w32) ∧ ψ24 w32) ∧ (True ∧ Φ21_0 [(h31 35), (h31 36), (h31 30), (h31 37), (h31 38), (h31 6)] w32) →
 DrawE w32 (fun Rs33 Rb33 w33 =>
 Gd (h31 6) true (DetOp Rb33 Rs33 w33 (fun w34 K34 => DoV Tryd.prog (Instr.fieldAt 51 t2_1 4) w34 K34 (Pan R)) (fun c41_34 ψ34 =>
 DetOp Rb33 Rs33 w33 (fun w35 K35 => DoV Tryd.prog (Instr.loadAt 39 c41_34) w35 K35 (Pan R)) (fun c42_35 ψ35 =>
 DetOp Rb33 Rs33 w33 (fun w36 K36 => DoV Tryd.prog (Instr.fieldAt 51 t2_1 3) w36 K36 (Pan R)) (fun c43_36 ψ36 =>
 DetOp Rb33 Rs33 w33 (fun w37 K37 => DoV Tryd.prog (Instr.loadAt 39 c43_36) w37 K37 (Pan R)) (fun c44_37 ψ37 =>
 DetOp Rb33 Rs33 w33 (fun w38 K38 => DoV Tryd.prog (Instr.fieldAt 51 t2_1 2) w38 K38 (Pan R)) (fun c45_38 ψ38 =>
 DetOp Rb33 Rs33 w33 (fun w39 K39 => DoV Tryd.prog (Instr.loadAt 47 c45_38) w39 K39 (Pan R)) (fun c46_39 ψ39 =>
 DetOp Rs33 Rb33 w33 (fun w40 K40 => CallF Tryd.prog 62 #[c44_37, c46_39] w40 K40 (Pan R)) (fun c47_40 ψ40 =>
 ∀ w41, Rb33 w33 w41 → (((((((True ∧ ψ34 w41) ∧ ψ35 w41) ∧ ψ36 w41) ∧ ψ37 w41) ∧ ψ38 w41) ∧ ψ39 w41) ∧ ψ40 w41) →
 DoV Tryd.prog (binS BinOp.eql 39 (Operand.tmp 42) (Operand.tmp 47) c42_35 c47_40) w41 (fun t48_42 w42 =>
 R (.returned (Value.tuple #[t48_42, (Value.int IntKind.i64 0)])) w42) (Pan R)))))))))
(∀ w43, Rb33 w33 w43 → True →
 R (.returned (Value.tuple #[(Value.bool false), (Value.int IntKind.i64 0)])) w43))))))))) (Pan R))
theorem sh_landfallref24_Check_eq (v0 v1 : Value) (R : Ending → World → Prop) (w : World) : vc Tryd.prog [(3, 10, false, 153392104), (4, 9, false, 9)] [] (Tryd.f39.body.getD .skip) (endE Tryd.prog Tryd.f39.results R) (argsE [v0, v1]) [] w = sh_landfallref24_Check v0 v1 R w := by kernel_rfl
theorem sh_landfallref24_Check_ok (v0 v1 : Value) {R : Ending → World → Prop} {w : World} (h : sh_landfallref24_Check v0 v1 R w) : Calls Tryd.prog 39 #[v0, v1] w R :=
  calls_of_vc (args := [v0, v1]) [(3, 10, false, 153392104), (4, 9, false, 9)] [] follows_mixed Tryd.func39 rfl (of_decide_eq_true (by kernel_rfl)) (by kernel_rfl) ((sh_landfallref24_Check_eq v0 v1 R w).symm ▸ h)
/- landfall/landfalllaw24.usable -/
def sh_landfalllaw24_usable (v0 : Value) (R : Ending → World → Prop) (w : World) : Prop := (
 DoV Tryd.prog (Instr.box 49 v0) w (fun t1_1 w1 =>
 DoV Tryd.prog (Instr.loadAt 49 t1_1) w1 (fun t3_2 w2 =>
 CallF Tryd.prog 30 #[t3_2] w2 (fun t4_3 w3 =>
 Gd t4_3 true (DoV Tryd.prog (Instr.loadAt 49 t1_1) w3 (fun t6_4 w4 =>
 CallF Tryd.prog 34 #[t6_4] w4 (fun t7_5 w5 =>
 R (.returned t7_5) w5) (Pan R)) (Pan R))
(R (.returned (Value.bool false)) w3)) (Pan R)) (Pan R)) (Pan R))
theorem sh_landfalllaw24_usable_eq (v0 : Value) (R : Ending → World → Prop) (w : World) : vc Tryd.prog [] [] (Tryd.f40.body.getD .skip) (endE Tryd.prog Tryd.f40.results R) (argsE [v0]) [] w = sh_landfalllaw24_usable v0 R w := by kernel_rfl
theorem sh_landfalllaw24_usable_ok (v0 : Value) {R : Ending → World → Prop} {w : World} (h : sh_landfalllaw24_usable v0 R w) : Calls Tryd.prog 40 #[v0] w R :=
  calls_of_vc (args := [v0]) [] [] follows_mixed Tryd.func40 rfl (of_decide_eq_true (by kernel_rfl)) (by kernel_rfl) ((sh_landfalllaw24_usable_eq v0 R w).symm ▸ h)
/- landfall/landfallref24.Ints -/
def sh_landfallref24_Ints (v0 : Value) (R : Ending → World → Prop) (w : World) : Prop := (
 DoV Tryd.prog (Instr.box 64 v0) w (fun t1_1 w1 =>
 DoV Tryd.prog (Instr.fieldAt 64 t1_1 0) w1 (fun t3_2 w2 =>
 DoV Tryd.prog (Instr.loadAt 3 t3_2) w2 (fun t4_3 w3 =>
 DoV Tryd.prog (Instr.fieldAt 64 t1_1 1) w3 (fun t5_4 w4 =>
 DoV Tryd.prog (Instr.loadAt 3 t5_4) w4 (fun t6_5 w5 =>
 DoV Tryd.prog (Instr.fieldAt 64 t1_1 2) w5 (fun t7_6 w6 =>
 DoV Tryd.prog (Instr.loadAt 3 t7_6) w6 (fun t8_7 w7 =>
 DoV Tryd.prog (Instr.fieldAt 64 t1_1 3) w7 (fun t9_8 w8 =>
 DoV Tryd.prog (Instr.loadAt 3 t9_8) w8 (fun t10_9 w9 =>
 DoV Tryd.prog (Instr.fieldAt 64 t1_1 4) w9 (fun t11_10 w10 =>
 DoV Tryd.prog (Instr.loadAt 3 t11_10) w10 (fun t12_11 w11 =>
 DoV Tryd.prog (Instr.fieldAt 64 t1_1 5) w11 (fun t13_12 w12 =>
 DoV Tryd.prog (Instr.loadAt 3 t13_12) w12 (fun t14_13 w13 =>
 DoV Tryd.prog (Instr.fieldAt 64 t1_1 6) w13 (fun t15_14 w14 =>
 DoV Tryd.prog (Instr.loadAt 3 t15_14) w14 (fun t16_15 w15 =>
 DoV Tryd.prog (Instr.fieldAt 64 t1_1 7) w15 (fun t17_16 w16 =>
 DoV Tryd.prog (Instr.fieldAt 62 t17_16 0) w16 (fun t18_17 w17 =>
 DoV Tryd.prog (Instr.loadAt 3 t18_17) w17 (fun t19_18 w18 =>
 DoV Tryd.prog (Instr.fieldAt 64 t1_1 7) w18 (fun t20_19 w19 =>
 DoV Tryd.prog (Instr.fieldAt 62 t20_19 1) w19 (fun t21_20 w20 =>
 DoV Tryd.prog (Instr.loadAt 3 t21_20) w20 (fun t22_21 w21 =>
 DoV Tryd.prog (Instr.fieldAt 64 t1_1 8) w21 (fun t23_22 w22 =>
 DoV Tryd.prog (Instr.loadAt 3 t23_22) w22 (fun t24_23 w23 =>
 DoV Tryd.prog (Instr.fieldAt 64 t1_1 9) w23 (fun t25_24 w24 =>
 DoV Tryd.prog (Instr.loadAt 3 t25_24) w24 (fun t26_25 w25 =>
 DoV Tryd.prog (Instr.fieldAt 64 t1_1 10) w25 (fun t27_26 w26 =>
 DoV Tryd.prog (Instr.loadAt 3 t27_26) w26 (fun t28_27 w27 =>
 DoV Tryd.prog (Instr.buildSlice 24 12 #[(0, t4_3), (1, t6_5), (2, t8_7), (3, t10_9), (4, t12_11), (5, t14_13), (6, t16_15), (7, t19_18), (8, t22_21), (9, t24_23), (10, t26_25), (11, t28_27)]) w27 (fun t29_28 w28 =>
 R (.returned t29_28) w28) (Pan R)) (Pan R)) (Pan R)) (Pan R)) (Pan R)) (Pan R)) (Pan R)) (Pan R)) (Pan R)) (Pan R)) (Pan R)) (Pan R)) (Pan R)) (Pan R)) (Pan R)) (Pan R)) (Pan R)) (Pan R)) (Pan R)) (Pan R)) (Pan R)) (Pan R)) (Pan R)) (Pan R)) (Pan R)) (Pan R)) (Pan R)) (Pan R))
theorem sh_landfallref24_Ints_eq (v0 : Value) (R : Ending → World → Prop) (w : World) : vc Tryd.prog [] [] (Tryd.f43.body.getD .skip) (endE Tryd.prog Tryd.f43.results R) (argsE [v0]) [] w = sh_landfallref24_Ints v0 R w := by kernel_rfl
theorem sh_landfallref24_Ints_ok (v0 : Value) {R : Ending → World → Prop} {w : World} (h : sh_landfallref24_Ints v0 R w) : Calls Tryd.prog 43 #[v0] w R :=
  calls_of_vc (args := [v0]) [] [] follows_mixed Tryd.func43 rfl (of_decide_eq_true (by kernel_rfl)) (by kernel_rfl) ((sh_landfallref24_Ints_eq v0 R w).symm ▸ h)
/- landfall/landfalllaw24.with -/
def sh_landfalllaw24_with (v0 v1 : Value) (R : Ending → World → Prop) (w : World) : Prop := (
 DoV Tryd.prog (Instr.box 64 v1) w (fun t3_1 w1 =>
 DrawR w1 (fun R2 S2 w2 =>
 DetOp R2 (Both R2 S2) w2 (fun w3 K3 => CallB Tryd.prog Builtin.len #[47] 3 #[false] #[v0] w3 K3 (Pan R)) (fun c8_3 ψ3 =>
 DetOp R2 (Both R2 S2) w2 (fun w4 K4 => DoV Tryd.prog (binS BinOp.sub 3 (Operand.tmp 8) (Operand.const (Value.int IntKind.i64 1)) c8_3 (Value.int IntKind.i64 1)) w4 K4 (Pan R)) (fun c9_4 ψ4 =>
 DetOp R2 (Both R2 S2) w2 (fun w5 K5 => DoV Tryd.prog (Instr.sliceAt 47 v0 none (some c9_4) none) w5 K5 (Pan R)) (fun c10_5 ψ5 =>
 DetOp R2 (Both R2 S2) w2 (fun w6 K6 => DoV Tryd.prog (Instr.loadAt 64 t3_1) w6 K6 (Pan R)) (fun c12_6 ψ6 =>
 ThrE R2 S2 0 w2 (fun Θ2_0 T2_0 =>
 NdC R2 S2 0 w2 Θ2_0 (fun w7 K7 => DoV Tryd.prog (Instr.buildSlice 47 0 #[]) w7 K7 (Pan R)) (fun v5_7 φ7 =>
 NdC R2 S2 0 w2 φ7 (fun w8 K8 => CallB Tryd.prog Builtin.append #[47, 47] 47 #[false, false] #[v5_7, c10_5] w8 K8 (Pan R)) (fun v11_8 φ8 =>
 T2_0 [v5_7, v11_8] φ8))) (fun Φ2_0 =>
 ThrE R2 S2 1 w2 (fun Θ2_1 T2_1 =>
 NdC R2 S2 1 w2 Θ2_1 (fun w9 K9 => DoV Tryd.prog (Instr.buildSlice 47 1 #[(0, c12_6)]) w9 K9 (Pan R)) (fun v13_9 φ9 =>
 T2_1 [v13_9] φ9)) (fun Φ2_1 =>
 ∀ (h10 : Nat → Value) (w11 : World), R2 w2 w11 → ((((True ∧ ψ3 w11) ∧ ψ4 w11) ∧ ψ5 w11) ∧ ψ6 w11) ∧ ((True ∧ Φ2_0 [(h10 5), (h10 11)] w11) ∧ Φ2_1 [(h10 13)] w11) →
 CallB Tryd.prog Builtin.append #[47, 47] 47 #[false, false] #[(h10 11), (h10 13)] w11 (fun t14_12 w12 =>
 R (.returned t14_12) w12) (Pan R))))))))) (Pan R))
theorem sh_landfalllaw24_with_eq (v0 v1 : Value) (R : Ending → World → Prop) (w : World) : vc Tryd.prog [(1, 9, false, 33817577)] [] (Tryd.f44.body.getD .skip) (endE Tryd.prog Tryd.f44.results R) (argsE [v0, v1]) [] w = sh_landfalllaw24_with v0 v1 R w := by kernel_rfl
theorem sh_landfalllaw24_with_ok (v0 v1 : Value) {R : Ending → World → Prop} {w : World} (h : sh_landfalllaw24_with v0 v1 R w) : Calls Tryd.prog 44 #[v0, v1] w R :=
  calls_of_vc (args := [v0, v1]) [(1, 9, false, 33817577)] [] follows_mixed Tryd.func44 rfl (of_decide_eq_true (by kernel_rfl)) (by kernel_rfl) ((sh_landfalllaw24_with_eq v0 v1 R w).symm ▸ h)
/- landfall/landfalllaw24.changed -/
def sh_landfalllaw24_changed (v0 v1 v2 : Value) (R : Ending → World → Prop) (w : World) : Prop := (
 DoV Tryd.prog (Instr.box 64 v0) w (fun t3_1 w1 =>
 DoV Tryd.prog (Instr.alloc 64 true (.tuple #[])) w1 (fun t6_2 w2 =>
 DoV Tryd.prog (Instr.loadAt 64 t3_1) w2 (fun t9_3 w3 =>
 CallF Tryd.prog 43 #[t9_3] w3 (fun t10_4 w4 =>
 DoV Tryd.prog (convert 5 3 v1) w4 (fun t12_5 w5 =>
 CallB Tryd.prog Builtin.len #[24] 3 #[false] #[t10_4] w5 (fun t14_6 w6 =>
 DoV Tryd.prog (binS BinOp.rem 3 (Operand.tmp 12) (Operand.tmp 14) t12_5 t14_6) w6 (fun t15_7 w7 =>
 DoV Tryd.prog (Instr.indexAt 24 t10_4 t15_7) w7 (fun t20_8 w8 =>
 DoV Tryd.prog (Instr.loadAt 3 t20_8) w8 (fun t21_9 w9 =>
 CallF Tryd.prog 74 #[t21_9, v2] w9 (fun t23_10 w10 =>
 DoV Tryd.prog (Instr.indexAt 24 t10_4 t15_7) w10 (fun t24_11 w11 =>
 DoU Tryd.prog (Instr.storeAt 3 t24_11 t23_10) w11 (fun _ w12 =>
 DrawE w12 (fun Rs13 Rb13 w13 =>
 DetOp Rb13 Rs13 w13 (fun w14 K14 => DoV Tryd.prog (Instr.indexAt 24 t10_4 (Value.int IntKind.i64 0)) w14 K14 (Pan R)) (fun c26_14 ψ14 =>
 DetOp Rb13 Rs13 w13 (fun w15 K15 => DoV Tryd.prog (Instr.loadAt 3 c26_14) w15 K15 (Pan R)) (fun c27_15 ψ15 =>
 DetOp Rb13 Rs13 w13 (fun w16 K16 => DoV Tryd.prog (Instr.indexAt 24 t10_4 (Value.int IntKind.i64 1)) w16 K16 (Pan R)) (fun c29_16 ψ16 =>
 DetOp Rb13 Rs13 w13 (fun w17 K17 => DoV Tryd.prog (Instr.loadAt 3 c29_16) w17 K17 (Pan R)) (fun c30_17 ψ17 =>
 DetOp Rb13 Rs13 w13 (fun w18 K18 => DoV Tryd.prog (Instr.indexAt 24 t10_4 (Value.int IntKind.i64 2)) w18 K18 (Pan R)) (fun c32_18 ψ18 =>
 DetOp Rb13 Rs13 w13 (fun w19 K19 => DoV Tryd.prog (Instr.loadAt 3 c32_18) w19 K19 (Pan R)) (fun c33_19 ψ19 =>
 DetOp Rb13 Rs13 w13 (fun w20 K20 => DoV Tryd.prog (Instr.indexAt 24 t10_4 (Value.int IntKind.i64 3)) w20 K20 (Pan R)) (fun c35_20 ψ20 =>
 DetOp Rb13 Rs13 w13 (fun w21 K21 => DoV Tryd.prog (Instr.loadAt 3 c35_20) w21 K21 (Pan R)) (fun c36_21 ψ21 =>
 DetOp Rb13 Rs13 w13 (fun w22 K22 => DoV Tryd.prog (Instr.indexAt 24 t10_4 (Value.int IntKind.i64 4)) w22 K22 (Pan R)) (fun c38_22 ψ22 =>
 DetOp Rb13 Rs13 w13 (fun w23 K23 => DoV Tryd.prog (Instr.loadAt 3 c38_22) w23 K23 (Pan R)) (fun c39_23 ψ23 =>
 DetOp Rb13 Rs13 w13 (fun w24 K24 => DoV Tryd.prog (Instr.indexAt 24 t10_4 (Value.int IntKind.i64 5)) w24 K24 (Pan R)) (fun c41_24 ψ24 =>
 DetOp Rb13 Rs13 w13 (fun w25 K25 => DoV Tryd.prog (Instr.loadAt 3 c41_24) w25 K25 (Pan R)) (fun c42_25 ψ25 =>
 DetOp Rb13 Rs13 w13 (fun w26 K26 => DoV Tryd.prog (Instr.indexAt 24 t10_4 (Value.int IntKind.i64 6)) w26 K26 (Pan R)) (fun c44_26 ψ26 =>
 DetOp Rb13 Rs13 w13 (fun w27 K27 => DoV Tryd.prog (Instr.loadAt 3 c44_26) w27 K27 (Pan R)) (fun c45_27 ψ27 =>
 DetOp Rb13 Rs13 w13 (fun w28 K28 => DoV Tryd.prog (Instr.indexAt 24 t10_4 (Value.int IntKind.i64 7)) w28 K28 (Pan R)) (fun c47_28 ψ28 =>
 DetOp Rb13 Rs13 w13 (fun w29 K29 => DoV Tryd.prog (Instr.loadAt 3 c47_28) w29 K29 (Pan R)) (fun c48_29 ψ29 =>
 DetOp Rb13 Rs13 w13 (fun w30 K30 => DoV Tryd.prog (Instr.indexAt 24 t10_4 (Value.int IntKind.i64 8)) w30 K30 (Pan R)) (fun c50_30 ψ30 =>
 DetOp Rb13 Rs13 w13 (fun w31 K31 => DoV Tryd.prog (Instr.loadAt 3 c50_30) w31 K31 (Pan R)) (fun c51_31 ψ31 =>
 DetOp Rb13 Rs13 w13 (fun w32 K32 => DoV Tryd.prog (Instr.build 62 #[(0, c48_29), (1, c51_31)]) w32 K32 (Pan R)) (fun c52_32 ψ32 =>
 DetOp Rb13 Rs13 w13 (fun w33 K33 => DoV Tryd.prog (Instr.indexAt 24 t10_4 (Value.int IntKind.i64 9)) w33 K33 (Pan R)) (fun c54_33 ψ33 =>
 DetOp Rb13 Rs13 w13 (fun w34 K34 => DoV Tryd.prog (Instr.loadAt 3 c54_33) w34 K34 (Pan R)) (fun c55_34 ψ34 =>
 DetOp Rb13 Rs13 w13 (fun w35 K35 => DoV Tryd.prog (Instr.indexAt 24 t10_4 (Value.int IntKind.i64 10)) w35 K35 (Pan R)) (fun c57_35 ψ35 =>
 DetOp Rb13 Rs13 w13 (fun w36 K36 => DoV Tryd.prog (Instr.loadAt 3 c57_35) w36 K36 (Pan R)) (fun c58_36 ψ36 =>
 DetOp Rb13 Rs13 w13 (fun w37 K37 => DoV Tryd.prog (Instr.indexAt 24 t10_4 (Value.int IntKind.i64 11)) w37 K37 (Pan R)) (fun c60_37 ψ37 =>
 DetOp Rb13 Rs13 w13 (fun w38 K38 => DoV Tryd.prog (Instr.loadAt 3 c60_37) w38 K38 (Pan R)) (fun c61_38 ψ38 =>
 ∀ w39, Rb13 w13 w39 → (((((((((((((((((((((((((True ∧ ψ14 w39) ∧ ψ15 w39) ∧ ψ16 w39) ∧ ψ17 w39) ∧ ψ18 w39) ∧ ψ19 w39) ∧ ψ20 w39) ∧ ψ21 w39) ∧ ψ22 w39) ∧ ψ23 w39) ∧ ψ24 w39) ∧ ψ25 w39) ∧ ψ26 w39) ∧ ψ27 w39) ∧ ψ28 w39) ∧ ψ29 w39) ∧ ψ30 w39) ∧ ψ31 w39) ∧ ψ32 w39) ∧ ψ33 w39) ∧ ψ34 w39) ∧ ψ35 w39) ∧ ψ36 w39) ∧ ψ37 w39) ∧ ψ38 w39) →
 DoV Tryd.prog (Instr.build 64 #[(0, c27_15), (1, c30_17), (2, c33_19), (3, c36_21), (4, c39_23), (5, c42_25), (6, c45_27), (7, c52_32), (8, c55_34), (9, c58_36), (10, c61_38)]) w39 (fun t62_40 w40 =>
 DoU Tryd.prog (Instr.storeAt 64 t6_2 t62_40) w40 (fun _ w41 =>
 Res Tryd.prog [.cell t6_2 64] w41 R) (Pan R)) (Pan R)))))))))))))))))))))))))))) (Pan R)) (Pan R)) (Pan R)) (Pan R)) (Pan R)) (Pan R)) (Pan R)) (Pan R)) (Pan R)) (Pan R)) (Pan R)) (Pan R))
theorem sh_landfalllaw24_changed_eq (v0 v1 v2 : Value) (R : Ending → World → Prop) (w : World) : vc Tryd.prog [(4, 37, false, 0)] [] (Tryd.f45.body.getD .skip) (endE Tryd.prog Tryd.f45.results R) (argsE [v0, v1, v2]) [] w = sh_landfalllaw24_changed v0 v1 v2 R w := by kernel_rfl
theorem sh_landfalllaw24_changed_ok (v0 v1 v2 : Value) {R : Ending → World → Prop} {w : World} (h : sh_landfalllaw24_changed v0 v1 v2 R w) : Calls Tryd.prog 45 #[v0, v1, v2] w R :=
  calls_of_vc (args := [v0, v1, v2]) [(4, 37, false, 0)] [] follows_mixed Tryd.func45 rfl (of_decide_eq_true (by kernel_rfl)) (by kernel_rfl) ((sh_landfalllaw24_changed_eq v0 v1 v2 R w).symm ▸ h)
/- landfall/landfalllaw24.secrets -/
def sh_landfalllaw24_secrets (v0 v1 : Value) (R : Ending → World → Prop) (w : World) : Prop := (
 DoV Tryd.prog (convert 71 3 v0) w (fun t13_1 w1 =>
 DoV Tryd.prog (binS BinOp.add 3 (Operand.const (Value.int IntKind.i64 1)) (Operand.tmp 13) (Value.int IntKind.i64 1) t13_1) w1 (fun t14_2 w2 =>
 DoV Tryd.prog (convert 71 3 v1) w2 (fun t16_3 w3 =>
 DoV Tryd.prog (binS BinOp.add 3 (Operand.const (Value.int IntKind.i64 1)) (Operand.tmp 16) (Value.int IntKind.i64 1) t16_3) w3 (fun t17_4 w4 =>
 CallF Tryd.prog 19 #[t14_2] w4 (fun t20_5 w5 =>
 DoV Tryd.prog (Instr.extract t20_5 0) w5 (fun t21_6 w6 =>
 DoV Tryd.prog (Instr.extract t20_5 1) w6 (fun t22_7 w7 =>
 DoV Tryd.prog (binS BinOp.eql 28 (Operand.tmp 26) (Operand.const (Value.int IntKind.i64 0)) t22_7 (Value.int IntKind.i64 0)) w7 (fun t27_8 w8 =>
 R (.returned (Value.tuple #[t14_2, t17_4, t21_6, t27_8])) w8) (Pan R)) (Pan R)) (Pan R)) (Pan R)) (Pan R)) (Pan R)) (Pan R)) (Pan R))
theorem sh_landfalllaw24_secrets_eq (v0 v1 : Value) (R : Ending → World → Prop) (w : World) : vc Tryd.prog [] [] (Tryd.f46.body.getD .skip) (endE Tryd.prog Tryd.f46.results R) (argsE [v0, v1]) [] w = sh_landfalllaw24_secrets v0 v1 R w := by kernel_rfl
theorem sh_landfalllaw24_secrets_ok (v0 v1 : Value) {R : Ending → World → Prop} {w : World} (h : sh_landfalllaw24_secrets v0 v1 R w) : Calls Tryd.prog 46 #[v0, v1] w R :=
  calls_of_vc (args := [v0, v1]) [] [] follows_mixed Tryd.func46 rfl (of_decide_eq_true (by kernel_rfl)) (by kernel_rfl) ((sh_landfalllaw24_secrets_eq v0 v1 R w).symm ▸ h)
/- landfall/landfallref24.SameEntries -/
def sh_landfallref24_SameEntries (v0 v1 : Value) (R : Ending → World → Prop) (w : World) : Prop := (
 CallB Tryd.prog Builtin.len #[47] 3 #[false] #[v0] w (fun t7_1 w1 =>
 CallB Tryd.prog Builtin.len #[47] 3 #[false] #[v1] w1 (fun t9_2 w2 =>
 DoV Tryd.prog (binS BinOp.neq 3 (Operand.tmp 7) (Operand.tmp 9) t7_1 t9_2) w2 (fun t10_3 w3 =>
 Br t10_3
(R (.returned (Value.bool false)) w3)
(LoopE [5] [(Value.int IntKind.i64 0)] w3 (fun h4 w4 K4 =>
 CallB Tryd.prog Builtin.len #[47] 3 #[false] #[v0] w4 (fun t13_5 w5 =>
 DoV Tryd.prog (binS BinOp.lss 3 (Operand.tmp 11) (Operand.tmp 13) (h4 5) t13_5) w5 (fun t14_6 w6 =>
 Br t14_6
(DrawE w6 (fun Rs7 Rb7 w7 =>
 DetOp Rb7 Rs7 w7 (fun w8 K8 => DoV Tryd.prog (Instr.indexAt 47 v0 (h4 5)) w8 K8 (Pan R)) (fun c19_8 ψ8 =>
 DetOp Rb7 Rs7 w7 (fun w9 K9 => DoV Tryd.prog (Instr.loadAt 64 c19_8) w9 K9 (Pan R)) (fun c20_9 ψ9 =>
 DetOp Rb7 Rs7 w7 (fun w10 K10 => DoV Tryd.prog (Instr.indexAt 47 v1 (h4 5)) w10 K10 (Pan R)) (fun c23_10 ψ10 =>
 DetOp Rb7 Rs7 w7 (fun w11 K11 => DoV Tryd.prog (Instr.loadAt 64 c23_10) w11 K11 (Pan R)) (fun c24_11 ψ11 =>
 ∀ w12, Rb7 w7 w12 → ((((True ∧ ψ8 w12) ∧ ψ9 w12) ∧ ψ10 w12) ∧ ψ11 w12) →
 DoV Tryd.prog (binS BinOp.neq 64 (Operand.tmp 20) (Operand.tmp 24) c20_9 c24_11) w12 (fun t25_13 w13 =>
 Br t25_13
(R (.returned (Value.bool false)) w13)
(DoV Tryd.prog (binS BinOp.add 3 (Operand.tmp 15) (Operand.const (Value.int IntKind.i64 1)) (h4 5) (Value.int IntKind.i64 1)) w13 (fun t16_14 w14 =>
 K4 [t16_14] w14) (Pan R))) (Pan R)))))))
(R (.returned (Value.bool true)) w6)) (Pan R)) (Pan R)))) (Pan R)) (Pan R)) (Pan R))
theorem sh_landfallref24_SameEntries_eq (v0 v1 : Value) (R : Ending → World → Prop) (w : World) : vc Tryd.prog [(6, 8, false, 0)] [5] (Tryd.f47.body.getD .skip) (endE Tryd.prog Tryd.f47.results R) (argsE [v0, v1]) [] w = sh_landfallref24_SameEntries v0 v1 R w := by kernel_rfl
theorem sh_landfallref24_SameEntries_ok (v0 v1 : Value) {R : Ending → World → Prop} {w : World} (h : sh_landfallref24_SameEntries v0 v1 R w) : Calls Tryd.prog 47 #[v0, v1] w R :=
  calls_of_vc (args := [v0, v1]) [(6, 8, false, 0)] [5] follows_mixed Tryd.func47 rfl (of_decide_eq_true (by kernel_rfl)) (by kernel_rfl) ((sh_landfallref24_SameEntries_eq v0 v1 R w).symm ▸ h)
/- landfall/landfallref24.Formed -/
def sh_landfallref24_Formed (v0 : Value) (R : Ending → World → Prop) (w : World) : Prop := (
 DoV Tryd.prog (Instr.box 51 v0) w (fun t1_1 w1 =>
 DoV Tryd.prog (Instr.fieldAt 51 t1_1 0) w1 (fun t3_2 w2 =>
 DoV Tryd.prog (Instr.loadAt 3 t3_2) w2 (fun t4_3 w3 =>
 CallF Tryd.prog 61 #[t4_3, (Value.int IntKind.i64 1), (Value.int IntKind.i64 1000000)] w3 (fun t5_4 w4 =>
 Gd t5_4 true (DoV Tryd.prog (Instr.fieldAt 51 t1_1 2) w4 (fun t7_5 w5 =>
 DoV Tryd.prog (Instr.loadAt 47 t7_5) w5 (fun t8_6 w6 =>
 CallB Tryd.prog Builtin.len #[47] 3 #[false] #[t8_6] w6 (fun t9_7 w7 =>
 DoV Tryd.prog (binS BinOp.gtr 3 (Operand.tmp 9) (Operand.const (Value.int IntKind.i64 0)) t9_7 (Value.int IntKind.i64 0)) w7 (fun t10_8 w8 =>
 Gd t10_8 true (DoV Tryd.prog (Instr.fieldAt 51 t1_1 2) w8 (fun t13_9 w9 =>
 DoV Tryd.prog (Instr.loadAt 47 t13_9) w9 (fun t14_10 w10 =>
 DoV Tryd.prog (Instr.fieldAt 51 t1_1 1) w10 (fun t15_11 w11 =>
 DoV Tryd.prog (Instr.loadAt 3 t15_11) w11 (fun t16_12 w12 =>
 CallF Tryd.prog 68 #[t14_10, t16_12] w12 (fun t17_13 w13 =>
 R (.returned t17_13) w13) (Pan R)) (Pan R)) (Pan R)) (Pan R)) (Pan R))
(R (.returned (Value.bool false)) w8)) (Pan R)) (Pan R)) (Pan R)) (Pan R))
(R (.returned (Value.bool false)) w4)) (Pan R)) (Pan R)) (Pan R)) (Pan R))
theorem sh_landfallref24_Formed_eq (v0 : Value) (R : Ending → World → Prop) (w : World) : vc Tryd.prog [] [] (Tryd.f48.body.getD .skip) (endE Tryd.prog Tryd.f48.results R) (argsE [v0]) [] w = sh_landfallref24_Formed v0 R w := by kernel_rfl
theorem sh_landfallref24_Formed_ok (v0 : Value) {R : Ending → World → Prop} {w : World} (h : sh_landfallref24_Formed v0 R w) : Calls Tryd.prog 48 #[v0] w R :=
  calls_of_vc (args := [v0]) [] [] follows_mixed Tryd.func48 rfl (of_decide_eq_true (by kernel_rfl)) (by kernel_rfl) ((sh_landfallref24_Formed_eq v0 R w).symm ▸ h)
/- landfall/landfallref24.Form -/
def sh_landfallref24_Form (v0 : Value) (R : Ending → World → Prop) (w : World) : Prop := (
 DoV Tryd.prog (Instr.box 64 v0) w (fun t1_1 w1 =>
 DoV Tryd.prog (Instr.loadAt 64 t1_1) w1 (fun t3_2 w2 =>
 CallF Tryd.prog 75 #[t3_2] w2 (fun t4_3 w3 =>
 R (.returned t4_3) w3) (Pan R)) (Pan R)) (Pan R))
theorem sh_landfallref24_Form_eq (v0 : Value) (R : Ending → World → Prop) (w : World) : vc Tryd.prog [] [] (Tryd.f49.body.getD .skip) (endE Tryd.prog Tryd.f49.results R) (argsE [v0]) [] w = sh_landfallref24_Form v0 R w := by kernel_rfl
theorem sh_landfallref24_Form_ok (v0 : Value) {R : Ending → World → Prop} {w : World} (h : sh_landfallref24_Form v0 R w) : Calls Tryd.prog 49 #[v0] w R :=
  calls_of_vc (args := [v0]) [] [] follows_mixed Tryd.func49 rfl (of_decide_eq_true (by kernel_rfl)) (by kernel_rfl) ((sh_landfallref24_Form_eq v0 R w).symm ▸ h)
/- landfall/landfalllaw24.example -/
def sh_landfalllaw24_example (R : Ending → World → Prop) (w : World) : Prop := (
 DoV Tryd.prog (Instr.alloc 49 true (.tuple #[])) w (fun t0_1 w1 =>
 DoV Tryd.prog (Instr.build 62 #[(0, (Value.int IntKind.i64 10)), (1, (Value.int IntKind.i64 20))]) w1 (fun t2_2 w2 =>
 DoV Tryd.prog (Instr.build 64 #[(0, (Value.int IntKind.i64 1)), (1, (Value.int IntKind.i64 5)), (2, (Value.int IntKind.i64 3)), (3, (Value.int IntKind.i64 2)), (4, (Value.int IntKind.i64 7)), (7, t2_2)]) w2 (fun t3_3 w3 =>
 DoV Tryd.prog (Instr.alloc 64 true (.tuple #[])) w3 (fun t1_4 w4 =>
 DoU Tryd.prog (Instr.storeAt 64 t1_4 t3_3) w4 (fun _ w5 =>
 DoV Tryd.prog (Instr.build 109 #[(0, (Value.int IntKind.i64 0)), (1, (Value.int IntKind.i64 0))]) w5 (fun t4_6 w6 =>
 DoV Tryd.prog (Instr.buildSlice 110 1 #[(0, t4_6)]) w6 (fun t5_7 w7 =>
 DoV Tryd.prog (Instr.buildSlice 46 1 #[(0, t5_7)]) w7 (fun t6_8 w8 =>
 DoV Tryd.prog (Instr.loadAt 64 t1_4) w8 (fun t7_9 w9 =>
 DoV Tryd.prog (Instr.buildSlice 47 1 #[(0, t7_9)]) w9 (fun t8_10 w10 =>
 DoV Tryd.prog (Instr.build 49 #[(0, (Value.int IntKind.i64 3)), (1, t6_8), (2, t8_10)]) w10 (fun t9_11 w11 =>
 DoU Tryd.prog (Instr.storeAt 49 t0_1 t9_11) w11 (fun _ w12 =>
 Res Tryd.prog [.cell t0_1 49] w12 R) (Pan R)) (Pan R)) (Pan R)) (Pan R)) (Pan R)) (Pan R)) (Pan R)) (Pan R)) (Pan R)) (Pan R)) (Pan R)) (Pan R))
theorem sh_landfalllaw24_example_eq (R : Ending → World → Prop) (w : World) : vc Tryd.prog [] [] (Tryd.f58.body.getD .skip) (endE Tryd.prog Tryd.f58.results R) (argsE []) [] w = sh_landfalllaw24_example  R w := by kernel_rfl
theorem sh_landfalllaw24_example_ok {R : Ending → World → Prop} {w : World} (h : sh_landfalllaw24_example  R w) : Calls Tryd.prog 58 #[] w R :=
  calls_of_vc (args := []) [] [] follows_mixed Tryd.func58 rfl (of_decide_eq_true (by kernel_rfl)) (by kernel_rfl) ((sh_landfalllaw24_example_eq  R w).symm ▸ h)
/- landfall/landfallref07.Few -/
def sh_landfallref07_Few (v0 : Value) (R : Ending → World → Prop) (w : World) : Prop := (
 LoopE [3, 4] [(Value.int IntKind.i64 0), (Value.int IntKind.i64 0)] w (fun h1 w1 K1 =>
 JoinE [] (fun K2 =>
 CallB Tryd.prog Builtin.len #[46] 3 #[false] #[v0] w1 (fun t7_3 w3 =>
 DoV Tryd.prog (binS BinOp.lss 3 (Operand.tmp 5) (Operand.tmp 7) (h1 4) t7_3) w3 (fun t8_4 w4 =>
 Gd t8_4 true (DoV Tryd.prog (binS BinOp.lss 3 (Operand.tmp 10) (Operand.const (Value.int IntKind.i64 41)) (h1 4) (Value.int IntKind.i64 41)) w4 (fun t11_5 w5 =>
 Br t11_5
(K2 [] w5)
(CallB Tryd.prog Builtin.len #[46] 3 #[false] #[v0] w5 (fun t23_6 w6 =>
 DoV Tryd.prog (binS BinOp.leq 3 (Operand.tmp 23) (Operand.const (Value.int IntKind.i64 40)) t23_6 (Value.int IntKind.i64 40)) w6 (fun t24_7 w7 =>
 Gd t24_7 true (DoV Tryd.prog (binS BinOp.leq 3 (Operand.tmp 26) (Operand.const (Value.int IntKind.i64 300)) (h1 3) (Value.int IntKind.i64 300)) w7 (fun t27_8 w8 =>
 R (.returned t27_8) w8) (Pan R))
(R (.returned (Value.bool false)) w7)) (Pan R)) (Pan R))) (Pan R))
(CallB Tryd.prog Builtin.len #[46] 3 #[false] #[v0] w4 (fun t23_9 w9 =>
 DoV Tryd.prog (binS BinOp.leq 3 (Operand.tmp 23) (Operand.const (Value.int IntKind.i64 40)) t23_9 (Value.int IntKind.i64 40)) w9 (fun t24_10 w10 =>
 Gd t24_10 true (DoV Tryd.prog (binS BinOp.leq 3 (Operand.tmp 26) (Operand.const (Value.int IntKind.i64 300)) (h1 3) (Value.int IntKind.i64 300)) w10 (fun t27_11 w11 =>
 R (.returned t27_11) w11) (Pan R))
(R (.returned (Value.bool false)) w10)) (Pan R)) (Pan R))) (Pan R)) (Pan R))
(fun _ w12 =>
 DoV Tryd.prog (Instr.indexAt 46 v0 (h1 4)) w12 (fun t18_13 w13 =>
 DoV Tryd.prog (Instr.loadAt 110 t18_13) w13 (fun t19_14 w14 =>
 CallB Tryd.prog Builtin.len #[110] 3 #[false] #[t19_14] w14 (fun t20_15 w15 =>
 DoV Tryd.prog (binS BinOp.add 3 (Operand.tmp 15) (Operand.tmp 20) (h1 3) t20_15) w15 (fun t21_16 w16 =>
 DoV Tryd.prog (binS BinOp.add 3 (Operand.tmp 13) (Operand.const (Value.int IntKind.i64 1)) (h1 4) (Value.int IntKind.i64 1)) w16 (fun t14_17 w17 =>
 K1 [t21_16, t14_17] w17) (Pan R)) (Pan R)) (Pan R)) (Pan R)) (Pan R))))
theorem sh_landfallref07_Few_eq (v0 : Value) (R : Ending → World → Prop) (w : World) : vc Tryd.prog [] [3, 4] (Tryd.f59.body.getD .skip) (endE Tryd.prog Tryd.f59.results R) (argsE [v0]) [] w = sh_landfallref07_Few v0 R w := by kernel_rfl
theorem sh_landfallref07_Few_ok (v0 : Value) {R : Ending → World → Prop} {w : World} (h : sh_landfallref07_Few v0 R w) : Calls Tryd.prog 59 #[v0] w R :=
  calls_of_vc (args := [v0]) [] [3, 4] follows_mixed Tryd.func59 rfl (of_decide_eq_true (by kernel_rfl)) (by kernel_rfl) ((sh_landfallref07_Few_eq v0 R w).symm ▸ h)
/- (landfall/report.entries).carry -/
def sh__report_entries_carry (v0 v1 : Value) (R : Ending → World → Prop) (w : World) : Prop := (
 CallB Tryd.prog Builtin.len #[90] 3 #[false] #[v0] w (fun t8_1 w1 =>
 LoopE [1, 9] [v1, (Value.int IntKind.i64 0)] w1 (fun h2 w2 K2 =>
 DoV Tryd.prog (binS BinOp.lss 3 (Operand.tmp 9) (Operand.tmp 8) (h2 9) t8_1) w2 (fun t10_3 w3 =>
 Br t10_3
(DoV Tryd.prog (Instr.indexAt 90 v0 (h2 9)) w3 (fun t11_4 w4 =>
 DoV Tryd.prog (Instr.loadAt 64 t11_4) w4 (fun t12_5 w5 =>
 DoV Tryd.prog (Instr.alloc 64 true (.tuple #[])) w5 (fun t6_6 w6 =>
 DoU Tryd.prog (Instr.storeAt 64 t6_6 t12_5) w6 (fun _ w7 =>
 DoV Tryd.prog (Instr.loadAt 64 t6_6) w7 (fun t14_8 w8 =>
 CallF Tryd.prog 79 #[t14_8] w8 (fun t15_9 w9 =>
 CallF Tryd.prog 42 #[(h2 1), t15_9] w9 (fun t16_10 w10 =>
 DoV Tryd.prog (binS BinOp.add 3 (Operand.tmp 9) (Operand.const (Value.int IntKind.i64 1)) (h2 9) (Value.int IntKind.i64 1)) w10 (fun t17_11 w11 =>
 K2 [t16_10, t17_11] w11) (Pan R)) (Pan R)) (Pan R)) (Pan R)) (Pan R)) (Pan R)) (Pan R)) (Pan R))
(R (.returned (h2 1)) w3)) (Pan R))) (Pan R))
theorem sh__report_entries_carry_eq (v0 v1 : Value) (R : Ending → World → Prop) (w : World) : vc Tryd.prog [] [1, 9] (Tryd.f60.body.getD .skip) (endE Tryd.prog Tryd.f60.results R) (argsE [v0, v1]) [] w = sh__report_entries_carry v0 v1 R w := by kernel_rfl
theorem sh__report_entries_carry_ok (v0 v1 : Value) {R : Ending → World → Prop} {w : World} (h : sh__report_entries_carry v0 v1 R w) : Calls Tryd.prog 60 #[v0, v1] w R :=
  calls_of_vc (args := [v0, v1]) [] [1, 9] follows_mixed Tryd.func60 rfl (of_decide_eq_true (by kernel_rfl)) (by kernel_rfl) ((sh__report_entries_carry_eq v0 v1 R w).symm ▸ h)
/- landfall/landfallref24.in -/
def sh_landfallref24_in (v0 v1 v2 : Value) (R : Ending → World → Prop) (w : World) : Prop := (
 DoV Tryd.prog (binS BinOp.geq 3 (Operand.tmp 7) (Operand.tmp 8) v0 v1) w (fun t9_1 w1 =>
 Gd t9_1 true (DoV Tryd.prog (binS BinOp.leq 3 (Operand.tmp 11) (Operand.tmp 12) v0 v2) w1 (fun t13_2 w2 =>
 R (.returned t13_2) w2) (Pan R))
(R (.returned (Value.bool false)) w1)) (Pan R))
theorem sh_landfallref24_in_eq (v0 v1 v2 : Value) (R : Ending → World → Prop) (w : World) : vc Tryd.prog [] [] (Tryd.f61.body.getD .skip) (endE Tryd.prog Tryd.f61.results R) (argsE [v0, v1, v2]) [] w = sh_landfallref24_in v0 v1 v2 R w := by kernel_rfl
theorem sh_landfallref24_in_ok (v0 v1 v2 : Value) {R : Ending → World → Prop} {w : World} (h : sh_landfallref24_in v0 v1 v2 R w) : Calls Tryd.prog 61 #[v0, v1, v2] w R :=
  calls_of_vc (args := [v0, v1, v2]) [] [] follows_mixed Tryd.func61 rfl (of_decide_eq_true (by kernel_rfl)) (by kernel_rfl) ((sh_landfallref24_in_eq v0 v1 v2 R w).symm ▸ h)
/- landfall/landfallref24.Carry -/
def sh_landfallref24_Carry (v0 v1 : Value) (R : Ending → World → Prop) (w : World) : Prop := (
 LoopE [0, 5] [v0, (Value.int IntKind.i64 0)] w (fun h1 w1 K1 =>
 CallB Tryd.prog Builtin.len #[47] 3 #[false] #[v1] w1 (fun t8_2 w2 =>
 DoV Tryd.prog (binS BinOp.lss 3 (Operand.tmp 6) (Operand.tmp 8) (h1 5) t8_2) w2 (fun t9_3 w3 =>
 Br t9_3
(DoV Tryd.prog (Instr.indexAt 47 v1 (h1 5)) w3 (fun t15_4 w4 =>
 DoV Tryd.prog (Instr.loadAt 64 t15_4) w4 (fun t16_5 w5 =>
 CallF Tryd.prog 43 #[t16_5] w5 (fun t17_6 w6 =>
 CallF Tryd.prog 77 #[(h1 0), t17_6] w6 (fun t18_7 w7 =>
 DoV Tryd.prog (binS BinOp.add 3 (Operand.tmp 10) (Operand.const (Value.int IntKind.i64 1)) (h1 5) (Value.int IntKind.i64 1)) w7 (fun t11_8 w8 =>
 K1 [t18_7, t11_8] w8) (Pan R)) (Pan R)) (Pan R)) (Pan R)) (Pan R))
(R (.returned (h1 0)) w3)) (Pan R)) (Pan R)))
theorem sh_landfallref24_Carry_eq (v0 v1 : Value) (R : Ending → World → Prop) (w : World) : vc Tryd.prog [] [0, 5] (Tryd.f62.body.getD .skip) (endE Tryd.prog Tryd.f62.results R) (argsE [v0, v1]) [] w = sh_landfallref24_Carry v0 v1 R w := by kernel_rfl
theorem sh_landfallref24_Carry_ok (v0 v1 : Value) {R : Ending → World → Prop} {w : World} (h : sh_landfallref24_Carry v0 v1 R w) : Calls Tryd.prog 62 #[v0, v1] w R :=
  calls_of_vc (args := [v0, v1]) [] [0, 5] follows_mixed Tryd.func62 rfl (of_decide_eq_true (by kernel_rfl)) (by kernel_rfl) ((sh_landfallref24_Carry_eq v0 v1 R w).symm ▸ h)
/- landfall/landfallref24.Begin -/
def sh_landfallref24_Begin (v0 : Value) (R : Ending → World → Prop) (w : World) : Prop := (
 DoV Tryd.prog (Instr.buildSlice 24 1 #[(0, v0)]) w (fun t4_1 w1 =>
 CallF Tryd.prog 57 #[t4_1] w1 (fun t5_2 w2 =>
 R (.returned t5_2) w2) (Pan R)) (Pan R))
theorem sh_landfallref24_Begin_eq (v0 : Value) (R : Ending → World → Prop) (w : World) : vc Tryd.prog [] [] (Tryd.f63.body.getD .skip) (endE Tryd.prog Tryd.f63.results R) (argsE [v0]) [] w = sh_landfallref24_Begin v0 R w := by kernel_rfl
theorem sh_landfallref24_Begin_ok (v0 : Value) {R : Ending → World → Prop} {w : World} (h : sh_landfallref24_Begin v0 R w) : Calls Tryd.prog 63 #[v0] w R :=
  calls_of_vc (args := [v0]) [] [] follows_mixed Tryd.func63 rfl (of_decide_eq_true (by kernel_rfl)) (by kernel_rfl) ((sh_landfallref24_Begin_eq v0 R w).symm ▸ h)
/- landfall/report.isID -/
def sh_report_isID (v0 : Value) (R : Ending → World → Prop) (w : World) : Prop := (
 DoV Tryd.prog (binS BinOp.leq 3 (Operand.const (Value.int IntKind.i64 1)) (Operand.tmp 3) (Value.int IntKind.i64 1) v0) w (fun t4_1 w1 =>
 Gd t4_1 true (DoV Tryd.prog (binS BinOp.leq 3 (Operand.tmp 6) (Operand.const (Value.int IntKind.i64 1000000)) v0 (Value.int IntKind.i64 1000000)) w1 (fun t7_2 w2 =>
 R (.returned t7_2) w2) (Pan R))
(R (.returned (Value.bool false)) w1)) (Pan R))
theorem sh_report_isID_eq (v0 : Value) (R : Ending → World → Prop) (w : World) : vc Tryd.prog [] [] (Tryd.f64.body.getD .skip) (endE Tryd.prog Tryd.f64.results R) (argsE [v0]) [] w = sh_report_isID v0 R w := by kernel_rfl
theorem sh_report_isID_ok (v0 : Value) {R : Ending → World → Prop} {w : World} (h : sh_report_isID v0 R w) : Calls Tryd.prog 64 #[v0] w R :=
  calls_of_vc (args := [v0]) [] [] follows_mixed Tryd.func64 rfl (of_decide_eq_true (by kernel_rfl)) (by kernel_rfl) ((sh_report_isID_eq v0 R w).symm ▸ h)
/- landfall/region.Valid -/
def sh_region_Valid (v0 : Value) (R : Ending → World → Prop) (w : World) : Prop := (
 CallB Tryd.prog Builtin.len #[46] 3 #[false] #[v0] w (fun t4_1 w1 =>
 DoV Tryd.prog (binS BinOp.leq 3 (Operand.tmp 4) (Operand.const (Value.int IntKind.i64 32)) t4_1 (Value.int IntKind.i64 32)) w1 (fun t5_2 w2 =>
 Gd t5_2 true (CallF Tryd.prog 80 #[v0] w2 (fun t8_3 w3 =>
 DoV Tryd.prog (Op.unary UnOp.not t8_3) w3 (fun t9_4 w4 =>
 R (.returned t9_4) w4) (Pan R)) (Pan R))
(R (.returned (Value.bool false)) w2)) (Pan R)) (Pan R))
theorem sh_region_Valid_eq (v0 : Value) (R : Ending → World → Prop) (w : World) : vc Tryd.prog [] [] (Tryd.f65.body.getD .skip) (endE Tryd.prog Tryd.f65.results R) (argsE [v0]) [] w = sh_region_Valid v0 R w := by kernel_rfl
theorem sh_region_Valid_ok (v0 : Value) {R : Ending → World → Prop} {w : World} (h : sh_region_Valid v0 R w) : Calls Tryd.prog 65 #[v0] w R :=
  calls_of_vc (args := [v0]) [] [] follows_mixed Tryd.func65 rfl (of_decide_eq_true (by kernel_rfl)) (by kernel_rfl) ((sh_region_Valid_eq v0 R w).symm ▸ h)
/- (landfall/report.entries).follow -/
def sh__report_entries_follow (v0 v1 : Value) (R : Ending → World → Prop) (w : World) : Prop := (
 CallB Tryd.prog Builtin.len #[90] 3 #[false] #[v0] w (fun t8_1 w1 =>
 LoopE [9] [(Value.int IntKind.i64 0)] w1 (fun h2 w2 K2 =>
 DoV Tryd.prog (binS BinOp.lss 3 (Operand.tmp 9) (Operand.tmp 8) (h2 9) t8_1) w2 (fun t10_3 w3 =>
 Br t10_3
(JoinE [] (fun K4 =>
 DoV Tryd.prog (Instr.indexAt 90 v0 (h2 9)) w3 (fun t12_5 w5 =>
 DoV Tryd.prog (Instr.loadAt 64 t12_5) w5 (fun t13_6 w6 =>
 DoV Tryd.prog (Instr.alloc 64 true (.tuple #[])) w6 (fun t6_7 w7 =>
 DoU Tryd.prog (Instr.storeAt 64 t6_7 t13_6) w7 (fun _ w8 =>
 JoinE [39] (fun K9 =>
 DrawE w8 (fun Rs10 Rb10 w10 =>
 DetOp Rb10 Rs10 w10 (fun w11 K11 => DoV Tryd.prog (Instr.loadAt 64 t6_7) w11 K11 (Pan R)) (fun c14_11 ψ11 =>
 DetOp Rs10 Rb10 w10 (fun w12 K12 => CallF Tryd.prog 81 #[c14_11] w12 K12 (Pan R)) (fun c15_12 ψ12 =>
 DetOp Rb10 Rs10 w10 (fun w13 K13 => DoV Tryd.prog (Op.unary UnOp.not c15_12) w13 K13 (Pan R)) (fun c16_13 ψ13 =>
 Gd c16_13 false (DetOp Rb10 Rs10 w10 (fun w14 K14 => DoV Tryd.prog (Instr.fieldAt 64 t6_7 0) w14 K14 (Pan R)) (fun c18_14 ψ14 =>
 DetOp Rb10 Rs10 w10 (fun w15 K15 => DoV Tryd.prog (Instr.loadAt 3 c18_14) w15 K15 (Pan R)) (fun c19_15 ψ15 =>
 DetOp Rb10 Rs10 w10 (fun w16 K16 => DoV Tryd.prog (binS BinOp.add 3 (Operand.tmp 20) (Operand.tmp 21) v1 (h2 9)) w16 K16 (Pan R)) (fun c22_16 ψ16 =>
 DetOp Rb10 Rs10 w10 (fun w17 K17 => DoV Tryd.prog (binS BinOp.neq 3 (Operand.tmp 19) (Operand.tmp 22) c19_15 c22_16) w17 K17 (Pan R)) (fun c23_17 ψ17 =>
 Gd c23_17 false (DetOp Rb10 Rs10 w10 (fun w18 K18 => DoV Tryd.prog (binS BinOp.gtr 3 (Operand.tmp 26) (Operand.const (Value.int IntKind.i64 0)) (h2 9) (Value.int IntKind.i64 0)) w18 K18 (Pan R)) (fun c27_18 ψ18 =>
 Gd c27_18 true (DetOp Rb10 Rs10 w10 (fun w19 K19 => DoV Tryd.prog (Instr.fieldAt 64 t6_7 1) w19 K19 (Pan R)) (fun c29_19 ψ19 =>
 DetOp Rb10 Rs10 w10 (fun w20 K20 => DoV Tryd.prog (Instr.loadAt 3 c29_19) w20 K20 (Pan R)) (fun c30_20 ψ20 =>
 DetOp Rb10 Rs10 w10 (fun w21 K21 => DoV Tryd.prog (binS BinOp.sub 3 (Operand.tmp 32) (Operand.const (Value.int IntKind.i64 1)) (h2 9) (Value.int IntKind.i64 1)) w21 K21 (Pan R)) (fun c33_21 ψ21 =>
 DetOp Rb10 Rs10 w10 (fun w22 K22 => DoV Tryd.prog (Instr.indexAt 90 v0 c33_21) w22 K22 (Pan R)) (fun c34_22 ψ22 =>
 DetOp Rb10 Rs10 w10 (fun w23 K23 => DoV Tryd.prog (Instr.fieldAt 64 c34_22 1) w23 K23 (Pan R)) (fun c35_23 ψ23 =>
 DetOp Rb10 Rs10 w10 (fun w24 K24 => DoV Tryd.prog (Instr.loadAt 3 c35_23) w24 K24 (Pan R)) (fun c36_24 ψ24 =>
 ∀ w25, Rb10 w10 w25 → ((((((((((((((True ∧ ψ11 w25) ∧ ψ12 w25) ∧ ψ13 w25) ∧ ψ14 w25) ∧ ψ15 w25) ∧ ψ16 w25) ∧ ψ17 w25) ∧ ψ18 w25) ∧ ψ19 w25) ∧ ψ20 w25) ∧ ψ21 w25) ∧ ψ22 w25) ∧ ψ23 w25) ∧ ψ24 w25) →
 DoV Tryd.prog (binS BinOp.lss 3 (Operand.tmp 30) (Operand.tmp 36) c30_20 c36_24) w25 (fun t37_26 w26 =>
 K9 [t37_26] w26) (Pan R))))))))
(∀ w27, Rb10 w10 w27 → ((((((((True ∧ ψ11 w27) ∧ ψ12 w27) ∧ ψ13 w27) ∧ ψ14 w27) ∧ ψ15 w27) ∧ ψ16 w27) ∧ ψ17 w27) ∧ ψ18 w27) →
 K9 [(Value.bool false)] w27)))
(∀ w28, Rb10 w10 w28 → (((((((True ∧ ψ11 w28) ∧ ψ12 w28) ∧ ψ13 w28) ∧ ψ14 w28) ∧ ψ15 w28) ∧ ψ16 w28) ∧ ψ17 w28) →
 K9 [(Value.bool true)] w28))))))
(∀ w29, Rb10 w10 w29 → (((True ∧ ψ11 w29) ∧ ψ12 w29) ∧ ψ13 w29) →
 K9 [(Value.bool true)] w29))))))
(fun h30 w30 =>
 Br (h30 39)
(R (.returned (Value.bool false)) w30)
(K4 [] w30))) (Pan R)) (Pan R)) (Pan R)) (Pan R))
(fun _ w31 =>
 DoV Tryd.prog (binS BinOp.add 3 (Operand.tmp 9) (Operand.const (Value.int IntKind.i64 1)) (h2 9) (Value.int IntKind.i64 1)) w31 (fun t40_32 w32 =>
 K2 [t40_32] w32) (Pan R)))
(CallB Tryd.prog Builtin.len #[90] 3 #[false] #[v0] w3 (fun t42_33 w33 =>
 DoV Tryd.prog (binS BinOp.leq 3 (Operand.tmp 42) (Operand.const (Value.int IntKind.i64 2000)) t42_33 (Value.int IntKind.i64 2000)) w33 (fun t43_34 w34 =>
 R (.returned t43_34) w34) (Pan R)) (Pan R))) (Pan R))) (Pan R))
theorem sh__report_entries_follow_eq (v0 v1 : Value) (R : Ending → World → Prop) (w : World) : vc Tryd.prog [(4, 23, false, 2)] [9] (Tryd.f66.body.getD .skip) (endE Tryd.prog Tryd.f66.results R) (argsE [v0, v1]) [] w = sh__report_entries_follow v0 v1 R w := by kernel_rfl
theorem sh__report_entries_follow_ok (v0 v1 : Value) {R : Ending → World → Prop} {w : World} (h : sh__report_entries_follow v0 v1 R w) : Calls Tryd.prog 66 #[v0, v1] w R :=
  calls_of_vc (args := [v0, v1]) [(4, 23, false, 2)] [9] follows_mixed Tryd.func66 rfl (of_decide_eq_true (by kernel_rfl)) (by kernel_rfl) ((sh__report_entries_follow_eq v0 v1 R w).symm ▸ h)
/- landfall/landfallref07.Valid -/
def sh_landfallref07_Valid (v0 : Value) (R : Ending → World → Prop) (w : World) : Prop := (
 CallB Tryd.prog Builtin.len #[46] 3 #[false] #[v0] w (fun t4_1 w1 =>
 DoV Tryd.prog (binS BinOp.leq 3 (Operand.tmp 4) (Operand.const (Value.int IntKind.i64 32)) t4_1 (Value.int IntKind.i64 32)) w1 (fun t5_2 w2 =>
 Gd t5_2 true (CallF Tryd.prog 82 #[v0] w2 (fun t8_3 w3 =>
 R (.returned t8_3) w3) (Pan R))
(R (.returned (Value.bool false)) w2)) (Pan R)) (Pan R))
theorem sh_landfallref07_Valid_eq (v0 : Value) (R : Ending → World → Prop) (w : World) : vc Tryd.prog [] [] (Tryd.f67.body.getD .skip) (endE Tryd.prog Tryd.f67.results R) (argsE [v0]) [] w = sh_landfallref07_Valid v0 R w := by kernel_rfl
theorem sh_landfallref07_Valid_ok (v0 : Value) {R : Ending → World → Prop} {w : World} (h : sh_landfallref07_Valid v0 R w) : Calls Tryd.prog 67 #[v0] w R :=
  calls_of_vc (args := [v0]) [] [] follows_mixed Tryd.func67 rfl (of_decide_eq_true (by kernel_rfl)) (by kernel_rfl) ((sh_landfallref07_Valid_eq v0 R w).symm ▸ h)
/- landfall/landfallref24.Follow -/
def sh_landfallref24_Follow (v0 v1 : Value) (R : Ending → World → Prop) (w : World) : Prop := (
 LoopE [5] [(Value.int IntKind.i64 0)] w (fun h1 w1 K1 =>
 CallB Tryd.prog Builtin.len #[47] 3 #[false] #[v0] w1 (fun t8_2 w2 =>
 DoV Tryd.prog (binS BinOp.lss 3 (Operand.tmp 6) (Operand.tmp 8) (h1 5) t8_2) w2 (fun t9_3 w3 =>
 Br t9_3
(JoinE [] (fun K4 =>
 JoinE [46] (fun K5 =>
 DrawE w3 (fun Rs6 Rb6 w6 =>
 DetOp Rb6 Rs6 w6 (fun w7 K7 => DoV Tryd.prog (Instr.indexAt 47 v0 (h1 5)) w7 K7 (Pan R)) (fun c14_7 ψ7 =>
 DetOp Rb6 Rs6 w6 (fun w8 K8 => DoV Tryd.prog (Instr.loadAt 64 c14_7) w8 K8 (Pan R)) (fun c15_8 ψ8 =>
 DetOp Rs6 Rb6 w6 (fun w9 K9 => CallF Tryd.prog 49 #[c15_8] w9 K9 (Pan R)) (fun c16_9 ψ9 =>
 DetOp Rb6 Rs6 w6 (fun w10 K10 => DoV Tryd.prog (Op.unary UnOp.not c16_9) w10 K10 (Pan R)) (fun c17_10 ψ10 =>
 Gd c17_10 false (DetOp Rb6 Rs6 w6 (fun w11 K11 => DoV Tryd.prog (Instr.indexAt 47 v0 (h1 5)) w11 K11 (Pan R)) (fun c21_11 ψ11 =>
 DetOp Rb6 Rs6 w6 (fun w12 K12 => DoV Tryd.prog (Instr.fieldAt 64 c21_11 0) w12 K12 (Pan R)) (fun c22_12 ψ12 =>
 DetOp Rb6 Rs6 w6 (fun w13 K13 => DoV Tryd.prog (Instr.loadAt 3 c22_12) w13 K13 (Pan R)) (fun c23_13 ψ13 =>
 DetOp Rb6 Rs6 w6 (fun w14 K14 => DoV Tryd.prog (binS BinOp.add 3 (Operand.tmp 24) (Operand.tmp 25) v1 (h1 5)) w14 K14 (Pan R)) (fun c26_14 ψ14 =>
 DetOp Rb6 Rs6 w6 (fun w15 K15 => DoV Tryd.prog (binS BinOp.neq 3 (Operand.tmp 23) (Operand.tmp 26) c23_13 c26_14) w15 K15 (Pan R)) (fun c27_15 ψ15 =>
 Gd c27_15 false (DetOp Rb6 Rs6 w6 (fun w16 K16 => DoV Tryd.prog (binS BinOp.gtr 3 (Operand.tmp 30) (Operand.const (Value.int IntKind.i64 0)) (h1 5) (Value.int IntKind.i64 0)) w16 K16 (Pan R)) (fun c31_16 ψ16 =>
 Gd c31_16 true (DetOp Rb6 Rs6 w6 (fun w17 K17 => DoV Tryd.prog (Instr.indexAt 47 v0 (h1 5)) w17 K17 (Pan R)) (fun c35_17 ψ17 =>
 DetOp Rb6 Rs6 w6 (fun w18 K18 => DoV Tryd.prog (Instr.fieldAt 64 c35_17 1) w18 K18 (Pan R)) (fun c36_18 ψ18 =>
 DetOp Rb6 Rs6 w6 (fun w19 K19 => DoV Tryd.prog (Instr.loadAt 3 c36_18) w19 K19 (Pan R)) (fun c37_19 ψ19 =>
 DetOp Rb6 Rs6 w6 (fun w20 K20 => DoV Tryd.prog (binS BinOp.sub 3 (Operand.tmp 39) (Operand.const (Value.int IntKind.i64 1)) (h1 5) (Value.int IntKind.i64 1)) w20 K20 (Pan R)) (fun c40_20 ψ20 =>
 DetOp Rb6 Rs6 w6 (fun w21 K21 => DoV Tryd.prog (Instr.indexAt 47 v0 c40_20) w21 K21 (Pan R)) (fun c41_21 ψ21 =>
 DetOp Rb6 Rs6 w6 (fun w22 K22 => DoV Tryd.prog (Instr.fieldAt 64 c41_21 1) w22 K22 (Pan R)) (fun c42_22 ψ22 =>
 DetOp Rb6 Rs6 w6 (fun w23 K23 => DoV Tryd.prog (Instr.loadAt 3 c42_22) w23 K23 (Pan R)) (fun c43_23 ψ23 =>
 ∀ w24, Rb6 w6 w24 → (((((((((((((((((True ∧ ψ7 w24) ∧ ψ8 w24) ∧ ψ9 w24) ∧ ψ10 w24) ∧ ψ11 w24) ∧ ψ12 w24) ∧ ψ13 w24) ∧ ψ14 w24) ∧ ψ15 w24) ∧ ψ16 w24) ∧ ψ17 w24) ∧ ψ18 w24) ∧ ψ19 w24) ∧ ψ20 w24) ∧ ψ21 w24) ∧ ψ22 w24) ∧ ψ23 w24) →
 DoV Tryd.prog (binS BinOp.lss 3 (Operand.tmp 37) (Operand.tmp 43) c37_19 c43_23) w24 (fun t44_25 w25 =>
 K5 [t44_25] w25) (Pan R)))))))))
(∀ w26, Rb6 w6 w26 → ((((((((((True ∧ ψ7 w26) ∧ ψ8 w26) ∧ ψ9 w26) ∧ ψ10 w26) ∧ ψ11 w26) ∧ ψ12 w26) ∧ ψ13 w26) ∧ ψ14 w26) ∧ ψ15 w26) ∧ ψ16 w26) →
 K5 [(Value.bool false)] w26)))
(∀ w27, Rb6 w6 w27 → (((((((((True ∧ ψ7 w27) ∧ ψ8 w27) ∧ ψ9 w27) ∧ ψ10 w27) ∧ ψ11 w27) ∧ ψ12 w27) ∧ ψ13 w27) ∧ ψ14 w27) ∧ ψ15 w27) →
 K5 [(Value.bool true)] w27)))))))
(∀ w28, Rb6 w6 w28 → ((((True ∧ ψ7 w28) ∧ ψ8 w28) ∧ ψ9 w28) ∧ ψ10 w28) →
 K5 [(Value.bool true)] w28)))))))
(fun h29 w29 =>
 Br (h29 46)
(R (.returned (Value.bool false)) w29)
(K4 [] w29)))
(fun _ w30 =>
 DoV Tryd.prog (binS BinOp.add 3 (Operand.tmp 10) (Operand.const (Value.int IntKind.i64 1)) (h1 5) (Value.int IntKind.i64 1)) w30 (fun t11_31 w31 =>
 K1 [t11_31] w31) (Pan R)))
(CallB Tryd.prog Builtin.len #[47] 3 #[false] #[v0] w3 (fun t48_32 w32 =>
 DoV Tryd.prog (binS BinOp.leq 3 (Operand.tmp 48) (Operand.const (Value.int IntKind.i64 2000)) t48_32 (Value.int IntKind.i64 2000)) w32 (fun t49_33 w33 =>
 R (.returned t49_33) w33) (Pan R)) (Pan R))) (Pan R)) (Pan R)))
theorem sh_landfallref24_Follow_eq (v0 v1 : Value) (R : Ending → World → Prop) (w : World) : vc Tryd.prog [(4, 32, false, 5)] [5] (Tryd.f68.body.getD .skip) (endE Tryd.prog Tryd.f68.results R) (argsE [v0, v1]) [] w = sh_landfallref24_Follow v0 v1 R w := by kernel_rfl
theorem sh_landfallref24_Follow_ok (v0 v1 : Value) {R : Ending → World → Prop} {w : World} (h : sh_landfallref24_Follow v0 v1 R w) : Calls Tryd.prog 68 #[v0, v1] w R :=
  calls_of_vc (args := [v0, v1]) [(4, 32, false, 5)] [5] follows_mixed Tryd.func68 rfl (of_decide_eq_true (by kernel_rfl)) (by kernel_rfl) ((sh_landfallref24_Follow_eq v0 v1 R w).symm ▸ h)
/- slices.Clone[[]landfall/api.Entry,landfall/api.Entry] -/
def sh_slices_Clone___api_Entry_api_Entry_ (v0 : Value) (R : Ending → World → Prop) (w : World) : Prop := (
 DoV Tryd.prog (binS BinOp.eql 47 (Operand.tmp 3) (Operand.const (Value.slice none 0 0)) v0 (Value.slice none 0 0)) w (fun t4_1 w1 =>
 Br t4_1
(R (.returned (Value.slice none 0 0)) w1)
(DoV Tryd.prog (Instr.buildSlice 47 0 #[]) w1 (fun t5_2 w2 =>
 CallB Tryd.prog Builtin.append #[47, 47] 47 #[false, false] #[t5_2, v0] w2 (fun t7_3 w3 =>
 R (.returned t7_3) w3) (Pan R)) (Pan R))) (Pan R))
theorem sh_slices_Clone___api_Entry_api_Entry__eq (v0 : Value) (R : Ending → World → Prop) (w : World) : vc Tryd.prog [] [] (Tryd.f69.body.getD .skip) (endE Tryd.prog Tryd.f69.results R) (argsE [v0]) [] w = sh_slices_Clone___api_Entry_api_Entry_ v0 R w := by kernel_rfl
theorem sh_slices_Clone___api_Entry_api_Entry__ok (v0 : Value) {R : Ending → World → Prop} {w : World} (h : sh_slices_Clone___api_Entry_api_Entry_ v0 R w) : Calls Tryd.prog 69 #[v0] w R :=
  calls_of_vc (args := [v0]) [] [] follows_mixed Tryd.func69 rfl (of_decide_eq_true (by kernel_rfl)) (by kernel_rfl) ((sh_slices_Clone___api_Entry_api_Entry__eq v0 R w).symm ▸ h)
/- landfall/report.message -/
def sh_report_message (v0 : Value) (R : Ending → World → Prop) (w : World) : Prop := (
 DoV Tryd.prog (Instr.box 51 v0) w (fun t1_1 w1 =>
 DoV Tryd.prog (Instr.fieldAt 51 t1_1 0) w1 (fun t6_2 w2 =>
 DoV Tryd.prog (Instr.loadAt 3 t6_2) w2 (fun t7_3 w3 =>
 DoV Tryd.prog (Instr.fieldAt 51 t1_1 1) w3 (fun t8_4 w4 =>
 DoV Tryd.prog (Instr.loadAt 3 t8_4) w4 (fun t9_5 w5 =>
 DoV Tryd.prog (Instr.fieldAt 51 t1_1 2) w5 (fun t10_6 w6 =>
 DoV Tryd.prog (Instr.loadAt 47 t10_6) w6 (fun t11_7 w7 =>
 CallB Tryd.prog Builtin.len #[47] 3 #[false] #[t11_7] w7 (fun t12_8 w8 =>
 DoV Tryd.prog (Instr.buildSlice 24 3 #[(0, t7_3), (1, t9_5), (2, t12_8)]) w8 (fun t13_9 w9 =>
 DoV Tryd.prog (Instr.fieldAt 51 t1_1 3) w9 (fun t14_10 w10 =>
 DoV Tryd.prog (Instr.loadAt 39 t14_10) w10 (fun t15_11 w11 =>
 DoV Tryd.prog (Instr.fieldAt 51 t1_1 4) w11 (fun t16_12 w12 =>
 DoV Tryd.prog (Instr.loadAt 39 t16_12) w12 (fun t17_13 w13 =>
 DoV Tryd.prog (Instr.buildSlice 111 2 #[(0, t15_11), (1, t17_13)]) w13 (fun t18_14 w14 =>
 CallB Tryd.prog Builtin.len #[111] 3 #[false] #[t18_14] w14 (fun t19_15 w15 =>
 LoopE [3, 20] [t13_9, (Value.int IntKind.i64 0)] w15 (fun h16 w16 K16 =>
 DoV Tryd.prog (binS BinOp.lss 3 (Operand.tmp 20) (Operand.tmp 19) (h16 20) t19_15) w16 (fun t21_17 w17 =>
 Br t21_17
(DoV Tryd.prog (Instr.indexAt 111 t18_14 (h16 20)) w17 (fun t22_18 w18 =>
 DoV Tryd.prog (Instr.loadAt 39 t22_18) w18 (fun t23_19 w19 =>
 DoV Tryd.prog (binS BinOp.shr 39 (Operand.tmp 25) (Operand.const (Value.int IntKind.u64 32)) t23_19 (Value.int IntKind.u64 32)) w19 (fun t26_20 w20 =>
 DoV Tryd.prog (convert 39 3 t26_20) w20 (fun t27_21 w21 =>
 DoV Tryd.prog (binS BinOp.and 39 (Operand.tmp 28) (Operand.const (Value.int IntKind.u64 4294967295)) t23_19 (Value.int IntKind.u64 4294967295)) w21 (fun t29_22 w22 =>
 DoV Tryd.prog (convert 39 3 t29_22) w22 (fun t30_23 w23 =>
 DoV Tryd.prog (Instr.buildSlice 24 2 #[(0, t27_21), (1, t30_23)]) w23 (fun t31_24 w24 =>
 CallB Tryd.prog Builtin.append #[24, 24] 24 #[false, false] #[(h16 3), t31_24] w24 (fun t32_25 w25 =>
 DoV Tryd.prog (binS BinOp.add 3 (Operand.tmp 20) (Operand.const (Value.int IntKind.i64 1)) (h16 20) (Value.int IntKind.i64 1)) w25 (fun t33_26 w26 =>
 K16 [t32_25, t33_26] w26) (Pan R)) (Pan R)) (Pan R)) (Pan R)) (Pan R)) (Pan R)) (Pan R)) (Pan R)) (Pan R))
(R (.returned (h16 3)) w17)) (Pan R))) (Pan R)) (Pan R)) (Pan R)) (Pan R)) (Pan R)) (Pan R)) (Pan R)) (Pan R)) (Pan R)) (Pan R)) (Pan R)) (Pan R)) (Pan R)) (Pan R)) (Pan R))
theorem sh_report_message_eq (v0 : Value) (R : Ending → World → Prop) (w : World) : vc Tryd.prog [] [3, 20] (Tryd.f70.body.getD .skip) (endE Tryd.prog Tryd.f70.results R) (argsE [v0]) [] w = sh_report_message v0 R w := by kernel_rfl
theorem sh_report_message_ok (v0 : Value) {R : Ending → World → Prop} {w : World} (h : sh_report_message v0 R w) : Calls Tryd.prog 70 #[v0] w R :=
  calls_of_vc (args := [v0]) [] [3, 20] follows_mixed Tryd.func70 rfl (of_decide_eq_true (by kernel_rfl)) (by kernel_rfl) ((sh_report_message_eq v0 R w).symm ▸ h)
/- landfall/landfallref24.Message -/
def sh_landfallref24_Message (v0 : Value) (R : Ending → World → Prop) (w : World) : Prop := (
 DoV Tryd.prog (Instr.box 51 v0) w (fun t1_1 w1 =>
 DoV Tryd.prog (Instr.fieldAt 51 t1_1 0) w1 (fun t3_2 w2 =>
 DoV Tryd.prog (Instr.loadAt 3 t3_2) w2 (fun t4_3 w3 =>
 DoV Tryd.prog (Instr.fieldAt 51 t1_1 1) w3 (fun t5_4 w4 =>
 DoV Tryd.prog (Instr.loadAt 3 t5_4) w4 (fun t6_5 w5 =>
 DoV Tryd.prog (Instr.fieldAt 51 t1_1 2) w5 (fun t7_6 w6 =>
 DoV Tryd.prog (Instr.loadAt 47 t7_6) w6 (fun t8_7 w7 =>
 CallB Tryd.prog Builtin.len #[47] 3 #[false] #[t8_7] w7 (fun t9_8 w8 =>
 DoV Tryd.prog (Instr.fieldAt 51 t1_1 3) w8 (fun t10_9 w9 =>
 DoV Tryd.prog (Instr.loadAt 39 t10_9) w9 (fun t11_10 w10 =>
 DoV Tryd.prog (binS BinOp.quo 39 (Operand.tmp 11) (Operand.const (Value.int IntKind.u64 4294967296)) t11_10 (Value.int IntKind.u64 4294967296)) w10 (fun t12_11 w11 =>
 DoV Tryd.prog (convert 39 3 t12_11) w11 (fun t13_12 w12 =>
 DoV Tryd.prog (Instr.fieldAt 51 t1_1 3) w12 (fun t14_13 w13 =>
 DoV Tryd.prog (Instr.loadAt 39 t14_13) w13 (fun t15_14 w14 =>
 DoV Tryd.prog (binS BinOp.rem 39 (Operand.tmp 15) (Operand.const (Value.int IntKind.u64 4294967296)) t15_14 (Value.int IntKind.u64 4294967296)) w14 (fun t16_15 w15 =>
 DoV Tryd.prog (convert 39 3 t16_15) w15 (fun t17_16 w16 =>
 DoV Tryd.prog (Instr.fieldAt 51 t1_1 4) w16 (fun t18_17 w17 =>
 DoV Tryd.prog (Instr.loadAt 39 t18_17) w17 (fun t19_18 w18 =>
 DoV Tryd.prog (binS BinOp.quo 39 (Operand.tmp 19) (Operand.const (Value.int IntKind.u64 4294967296)) t19_18 (Value.int IntKind.u64 4294967296)) w18 (fun t20_19 w19 =>
 DoV Tryd.prog (convert 39 3 t20_19) w19 (fun t21_20 w20 =>
 DoV Tryd.prog (Instr.fieldAt 51 t1_1 4) w20 (fun t22_21 w21 =>
 DoV Tryd.prog (Instr.loadAt 39 t22_21) w21 (fun t23_22 w22 =>
 DoV Tryd.prog (binS BinOp.rem 39 (Operand.tmp 23) (Operand.const (Value.int IntKind.u64 4294967296)) t23_22 (Value.int IntKind.u64 4294967296)) w22 (fun t24_23 w23 =>
 DoV Tryd.prog (convert 39 3 t24_23) w23 (fun t25_24 w24 =>
 DoV Tryd.prog (Instr.buildSlice 24 7 #[(0, t4_3), (1, t6_5), (2, t9_8), (3, t13_12), (4, t17_16), (5, t21_20), (6, t25_24)]) w24 (fun t26_25 w25 =>
 R (.returned t26_25) w25) (Pan R)) (Pan R)) (Pan R)) (Pan R)) (Pan R)) (Pan R)) (Pan R)) (Pan R)) (Pan R)) (Pan R)) (Pan R)) (Pan R)) (Pan R)) (Pan R)) (Pan R)) (Pan R)) (Pan R)) (Pan R)) (Pan R)) (Pan R)) (Pan R)) (Pan R)) (Pan R)) (Pan R)) (Pan R))
theorem sh_landfallref24_Message_eq (v0 : Value) (R : Ending → World → Prop) (w : World) : vc Tryd.prog [] [] (Tryd.f71.body.getD .skip) (endE Tryd.prog Tryd.f71.results R) (argsE [v0]) [] w = sh_landfallref24_Message v0 R w := by kernel_rfl
theorem sh_landfallref24_Message_ok (v0 : Value) {R : Ending → World → Prop} {w : World} (h : sh_landfallref24_Message v0 R w) : Calls Tryd.prog 71 #[v0] w R :=
  calls_of_vc (args := [v0]) [] [] follows_mixed Tryd.func71 rfl (of_decide_eq_true (by kernel_rfl)) (by kernel_rfl) ((sh_landfallref24_Message_eq v0 R w).symm ▸ h)
/- landfall/landfalllaw24.turned -/
def sh_landfalllaw24_turned (v0 v1 : Value) (R : Ending → World → Prop) (w : World) : Prop := (
 DoV Tryd.prog (binS BinOp.lss 3 (Operand.tmp 5) (Operand.const (Value.int IntKind.i64 0)) v0 (Value.int IntKind.i64 0)) w (fun t6_1 w1 =>
 Br t6_1
(R (.returned v0) w1)
(DoV Tryd.prog (binS BinOp.rem 3 (Operand.tmp 9) (Operand.const (Value.int IntKind.i64 10)) v0 (Value.int IntKind.i64 10)) w1 (fun t10_2 w2 =>
 DoV Tryd.prog (binS BinOp.sub 3 (Operand.tmp 8) (Operand.tmp 10) v0 t10_2) w2 (fun t11_3 w3 =>
 DoV Tryd.prog (binS BinOp.rem 3 (Operand.tmp 12) (Operand.const (Value.int IntKind.i64 10)) v0 (Value.int IntKind.i64 10)) w3 (fun t13_4 w4 =>
 DoV Tryd.prog (binS BinOp.add 3 (Operand.tmp 13) (Operand.const (Value.int IntKind.i64 1)) t13_4 (Value.int IntKind.i64 1)) w4 (fun t14_5 w5 =>
 DoV Tryd.prog (convert 5 3 v1) w5 (fun t16_6 w6 =>
 DoV Tryd.prog (binS BinOp.rem 3 (Operand.tmp 16) (Operand.const (Value.int IntKind.i64 9)) t16_6 (Value.int IntKind.i64 9)) w6 (fun t17_7 w7 =>
 DoV Tryd.prog (binS BinOp.add 3 (Operand.tmp 14) (Operand.tmp 17) t14_5 t17_7) w7 (fun t18_8 w8 =>
 DoV Tryd.prog (binS BinOp.rem 3 (Operand.tmp 18) (Operand.const (Value.int IntKind.i64 10)) t18_8 (Value.int IntKind.i64 10)) w8 (fun t19_9 w9 =>
 DoV Tryd.prog (binS BinOp.add 3 (Operand.tmp 11) (Operand.tmp 19) t11_3 t19_9) w9 (fun t20_10 w10 =>
 R (.returned t20_10) w10) (Pan R)) (Pan R)) (Pan R)) (Pan R)) (Pan R)) (Pan R)) (Pan R)) (Pan R)) (Pan R))) (Pan R))
theorem sh_landfalllaw24_turned_eq (v0 v1 : Value) (R : Ending → World → Prop) (w : World) : vc Tryd.prog [] [] (Tryd.f74.body.getD .skip) (endE Tryd.prog Tryd.f74.results R) (argsE [v0, v1]) [] w = sh_landfalllaw24_turned v0 v1 R w := by kernel_rfl
theorem sh_landfalllaw24_turned_ok (v0 v1 : Value) {R : Ending → World → Prop} {w : World} (h : sh_landfalllaw24_turned v0 v1 R w) : Calls Tryd.prog 74 #[v0, v1] w R :=
  calls_of_vc (args := [v0, v1]) [] [] follows_mixed Tryd.func74 rfl (of_decide_eq_true (by kernel_rfl)) (by kernel_rfl) ((sh_landfalllaw24_turned_eq v0 v1 R w).symm ▸ h)
/- landfall/landfallref21.Formed -/
def sh_landfallref21_Formed (v0 : Value) (R : Ending → World → Prop) (w : World) : Prop := (
 DoV Tryd.prog (Instr.box 64 v0) w (fun t1_1 w1 =>
 JoinE [] (fun K2 =>
 JoinE [12] (fun K3 =>
 DoV Tryd.prog (Instr.fieldAt 64 t1_1 0) w1 (fun t3_4 w4 =>
 DoV Tryd.prog (Instr.loadAt 3 t3_4) w4 (fun t4_5 w5 =>
 CallF Tryd.prog 86 #[t4_5, (Value.int IntKind.i64 1), (Value.int IntKind.i64 2000)] w5 (fun t5_6 w6 =>
 DoV Tryd.prog (Op.unary UnOp.not t5_6) w6 (fun t6_7 w7 =>
 Gd t6_7 false (DoV Tryd.prog (Instr.fieldAt 64 t1_1 1) w7 (fun t8_8 w8 =>
 DoV Tryd.prog (Instr.loadAt 3 t8_8) w8 (fun t9_9 w9 =>
 CallF Tryd.prog 86 #[t9_9, (Value.int IntKind.i64 0), (Value.int IntKind.i64 1000000000)] w9 (fun t10_10 w10 =>
 DoV Tryd.prog (Op.unary UnOp.not t10_10) w10 (fun t11_11 w11 =>
 K3 [t11_11] w11) (Pan R)) (Pan R)) (Pan R)) (Pan R))
(K3 [(Value.bool true)] w7)) (Pan R)) (Pan R)) (Pan R)) (Pan R))
(fun h12 w12 =>
 Br (h12 12)
(R (.returned (Value.bool false)) w12)
(K2 [] w12)))
(fun _ w13 =>
 DoV Tryd.prog (Instr.fieldAt 64 t1_1 2) w13 (fun t13_14 w14 =>
 DoV Tryd.prog (Instr.loadAt 3 t13_14) w14 (fun t14_15 w15 =>
 DoV Tryd.prog (binS BinOp.eql 3 (Operand.tmp 14) (Operand.const (Value.int IntKind.i64 1)) t14_15 (Value.int IntKind.i64 1)) w15 (fun t15_16 w16 =>
 Br t15_16
(JoinE [] (fun K17 =>
 JoinE [42] (fun K18 =>
 DoV Tryd.prog (Instr.fieldAt 64 t1_1 3) w16 (fun t16_19 w19 =>
 DoV Tryd.prog (Instr.loadAt 3 t16_19) w19 (fun t17_20 w20 =>
 DoV Tryd.prog (binS BinOp.neq 3 (Operand.tmp 17) (Operand.const (Value.int IntKind.i64 0)) t17_20 (Value.int IntKind.i64 0)) w20 (fun t18_21 w21 =>
 Gd t18_21 false (DoV Tryd.prog (Instr.fieldAt 64 t1_1 4) w21 (fun t20_22 w22 =>
 DoV Tryd.prog (Instr.loadAt 3 t20_22) w22 (fun t21_23 w23 =>
 DoV Tryd.prog (binS BinOp.neq 3 (Operand.tmp 21) (Operand.const (Value.int IntKind.i64 0)) t21_23 (Value.int IntKind.i64 0)) w23 (fun t22_24 w24 =>
 Gd t22_24 false (DoV Tryd.prog (Instr.fieldAt 64 t1_1 5) w24 (fun t25_25 w25 =>
 DoV Tryd.prog (Instr.loadAt 3 t25_25) w25 (fun t26_26 w26 =>
 CallF Tryd.prog 86 #[t26_26, (Value.int IntKind.i64 0), (Value.int IntKind.i64 63)] w26 (fun t27_27 w27 =>
 DoV Tryd.prog (Op.unary UnOp.not t27_27) w27 (fun t28_28 w28 =>
 Gd t28_28 false (DoV Tryd.prog (Instr.fieldAt 64 t1_1 6) w28 (fun t31_29 w29 =>
 DoV Tryd.prog (Instr.loadAt 3 t31_29) w29 (fun t32_30 w30 =>
 CallF Tryd.prog 86 #[t32_30, (Value.int IntKind.i64 0), (Value.int IntKind.i64 100000)] w30 (fun t33_31 w31 =>
 DoV Tryd.prog (Op.unary UnOp.not t33_31) w31 (fun t34_32 w32 =>
 Gd t34_32 false (DoV Tryd.prog (Instr.fieldAt 64 t1_1 6) w32 (fun t37_33 w33 =>
 DoV Tryd.prog (Instr.loadAt 3 t37_33) w33 (fun t38_34 w34 =>
 DoV Tryd.prog (Instr.fieldAt 64 t1_1 1) w34 (fun t39_35 w35 =>
 DoV Tryd.prog (Instr.loadAt 3 t39_35) w35 (fun t40_36 w36 =>
 DoV Tryd.prog (binS BinOp.gtr 3 (Operand.tmp 38) (Operand.tmp 40) t38_34 t40_36) w36 (fun t41_37 w37 =>
 K18 [t41_37] w37) (Pan R)) (Pan R)) (Pan R)) (Pan R)) (Pan R))
(K18 [(Value.bool true)] w32)) (Pan R)) (Pan R)) (Pan R)) (Pan R))
(K18 [(Value.bool true)] w28)) (Pan R)) (Pan R)) (Pan R)) (Pan R))
(K18 [(Value.bool true)] w24)) (Pan R)) (Pan R)) (Pan R))
(K18 [(Value.bool true)] w21)) (Pan R)) (Pan R)) (Pan R))
(fun h38 w38 =>
 Br (h38 42)
(R (.returned (Value.bool false)) w38)
(K17 [] w38)))
(fun _ w39 =>
 DoV Tryd.prog (Instr.fieldAt 64 t1_1 7) w39 (fun t43_40 w40 =>
 DoV Tryd.prog (Instr.loadAt 62 t43_40) w40 (fun t44_41 w41 =>
 CallF Tryd.prog 87 #[t44_41, (Value.int IntKind.i64 0), (Value.int IntKind.i64 100000)] w41 (fun t45_42 w42 =>
 Gd t45_42 true (DoV Tryd.prog (Instr.fieldAt 64 t1_1 7) w42 (fun t47_43 w43 =>
 DoV Tryd.prog (Instr.fieldAt 62 t47_43 0) w43 (fun t48_44 w44 =>
 DoV Tryd.prog (Instr.loadAt 3 t48_44) w44 (fun t49_45 w45 =>
 DoV Tryd.prog (Instr.fieldAt 64 t1_1 7) w45 (fun t50_46 w46 =>
 DoV Tryd.prog (Instr.fieldAt 62 t50_46 1) w46 (fun t51_47 w47 =>
 DoV Tryd.prog (Instr.loadAt 3 t51_47) w47 (fun t52_48 w48 =>
 DoV Tryd.prog (binS BinOp.eql 3 (Operand.tmp 49) (Operand.tmp 52) t49_45 t52_48) w48 (fun t53_49 w49 =>
 Gd t53_49 true (DoV Tryd.prog (Instr.fieldAt 64 t1_1 8) w49 (fun t56_50 w50 =>
 DoV Tryd.prog (Instr.loadAt 3 t56_50) w50 (fun t57_51 w51 =>
 CallF Tryd.prog 86 #[t57_51, (Value.int IntKind.i64 (-1000)), (Value.int IntKind.i64 1000)] w51 (fun t58_52 w52 =>
 Gd t58_52 true (DoV Tryd.prog (Instr.fieldAt 64 t1_1 9) w52 (fun t61_53 w53 =>
 DoV Tryd.prog (Instr.loadAt 3 t61_53) w53 (fun t62_54 w54 =>
 CallF Tryd.prog 86 #[t62_54, (Value.int IntKind.i64 0), (Value.int IntKind.i64 10000)] w54 (fun t63_55 w55 =>
 Gd t63_55 true (DoV Tryd.prog (Instr.fieldAt 64 t1_1 10) w55 (fun t66_56 w56 =>
 DoV Tryd.prog (Instr.loadAt 3 t66_56) w56 (fun t67_57 w57 =>
 CallF Tryd.prog 86 #[t67_57, (Value.int IntKind.i64 0), (Value.int IntKind.i64 1000000000)] w57 (fun t68_58 w58 =>
 R (.returned t68_58) w58) (Pan R)) (Pan R)) (Pan R))
(R (.returned (Value.bool false)) w55)) (Pan R)) (Pan R)) (Pan R))
(R (.returned (Value.bool false)) w52)) (Pan R)) (Pan R)) (Pan R))
(R (.returned (Value.bool false)) w49)) (Pan R)) (Pan R)) (Pan R)) (Pan R)) (Pan R)) (Pan R)) (Pan R))
(R (.returned (Value.bool false)) w42)) (Pan R)) (Pan R)) (Pan R)))
(JoinE [] (fun K59 =>
 JoinE [88] (fun K60 =>
 DoV Tryd.prog (Instr.fieldAt 64 t1_1 3) w16 (fun t70_61 w61 =>
 DoV Tryd.prog (Instr.loadAt 3 t70_61) w61 (fun t71_62 w62 =>
 CallF Tryd.prog 86 #[t71_62, (Value.int IntKind.i64 1), (Value.int IntKind.i64 8)] w62 (fun t72_63 w63 =>
 DoV Tryd.prog (Op.unary UnOp.not t72_63) w63 (fun t73_64 w64 =>
 Gd t73_64 false (DoV Tryd.prog (Instr.fieldAt 64 t1_1 8) w64 (fun t75_65 w65 =>
 DoV Tryd.prog (Instr.loadAt 3 t75_65) w65 (fun t76_66 w66 =>
 DoV Tryd.prog (binS BinOp.neq 3 (Operand.tmp 76) (Operand.const (Value.int IntKind.i64 0)) t76_66 (Value.int IntKind.i64 0)) w66 (fun t77_67 w67 =>
 Gd t77_67 false (DoV Tryd.prog (Instr.fieldAt 64 t1_1 9) w67 (fun t80_68 w68 =>
 DoV Tryd.prog (Instr.loadAt 3 t80_68) w68 (fun t81_69 w69 =>
 DoV Tryd.prog (binS BinOp.neq 3 (Operand.tmp 81) (Operand.const (Value.int IntKind.i64 0)) t81_69 (Value.int IntKind.i64 0)) w69 (fun t82_70 w70 =>
 Gd t82_70 false (DoV Tryd.prog (Instr.fieldAt 64 t1_1 10) w70 (fun t85_71 w71 =>
 DoV Tryd.prog (Instr.loadAt 3 t85_71) w71 (fun t86_72 w72 =>
 DoV Tryd.prog (binS BinOp.neq 3 (Operand.tmp 86) (Operand.const (Value.int IntKind.i64 0)) t86_72 (Value.int IntKind.i64 0)) w72 (fun t87_73 w73 =>
 K60 [t87_73] w73) (Pan R)) (Pan R)) (Pan R))
(K60 [(Value.bool true)] w70)) (Pan R)) (Pan R)) (Pan R))
(K60 [(Value.bool true)] w67)) (Pan R)) (Pan R)) (Pan R))
(K60 [(Value.bool true)] w64)) (Pan R)) (Pan R)) (Pan R)) (Pan R))
(fun h74 w74 =>
 Br (h74 88)
(R (.returned (Value.bool false)) w74)
(K59 [] w74)))
(fun _ w75 =>
 DoV Tryd.prog (Instr.fieldAt 64 t1_1 2) w75 (fun t89_76 w76 =>
 DoV Tryd.prog (Instr.loadAt 3 t89_76) w76 (fun t90_77 w77 =>
 DoV Tryd.prog (binS BinOp.eql 3 (Operand.tmp 90) (Operand.const (Value.int IntKind.i64 2)) t90_77 (Value.int IntKind.i64 2)) w77 (fun t91_78 w78 =>
 Br t91_78
(DoV Tryd.prog (Instr.fieldAt 64 t1_1 4) w78 (fun t92_79 w79 =>
 DoV Tryd.prog (Instr.loadAt 3 t92_79) w79 (fun t93_80 w80 =>
 DoV Tryd.prog (binS BinOp.eql 3 (Operand.tmp 93) (Operand.const (Value.int IntKind.i64 0)) t93_80 (Value.int IntKind.i64 0)) w80 (fun t94_81 w81 =>
 Gd t94_81 true (DoV Tryd.prog (Instr.fieldAt 64 t1_1 5) w81 (fun t96_82 w82 =>
 DoV Tryd.prog (Instr.loadAt 3 t96_82) w82 (fun t97_83 w83 =>
 DoV Tryd.prog (binS BinOp.eql 3 (Operand.tmp 97) (Operand.const (Value.int IntKind.i64 0)) t97_83 (Value.int IntKind.i64 0)) w83 (fun t98_84 w84 =>
 Gd t98_84 true (DoV Tryd.prog (Instr.fieldAt 64 t1_1 6) w84 (fun t101_85 w85 =>
 DoV Tryd.prog (Instr.loadAt 3 t101_85) w85 (fun t102_86 w86 =>
 DoV Tryd.prog (binS BinOp.eql 3 (Operand.tmp 102) (Operand.const (Value.int IntKind.i64 0)) t102_86 (Value.int IntKind.i64 0)) w86 (fun t103_87 w87 =>
 Gd t103_87 true (DoV Tryd.prog (Instr.fieldAt 64 t1_1 7) w87 (fun t106_88 w88 =>
 DoV Tryd.prog (Instr.loadAt 62 t106_88) w88 (fun t107_89 w89 =>
 CallF Tryd.prog 87 #[t107_89, (Value.int IntKind.i64 (-100000)), (Value.int IntKind.i64 100000)] w89 (fun t108_90 w90 =>
 R (.returned t108_90) w90) (Pan R)) (Pan R)) (Pan R))
(R (.returned (Value.bool false)) w87)) (Pan R)) (Pan R)) (Pan R))
(R (.returned (Value.bool false)) w84)) (Pan R)) (Pan R)) (Pan R))
(R (.returned (Value.bool false)) w81)) (Pan R)) (Pan R)) (Pan R))
(DoV Tryd.prog (Instr.fieldAt 64 t1_1 4) w78 (fun t110_91 w91 =>
 DoV Tryd.prog (Instr.loadAt 3 t110_91) w91 (fun t111_92 w92 =>
 CallF Tryd.prog 86 #[t111_92, (Value.int IntKind.i64 1), (Value.int IntKind.i64 1000000)] w92 (fun t112_93 w93 =>
 DoV Tryd.prog (Op.unary UnOp.not t112_93) w93 (fun t113_94 w94 =>
 Br t113_94
(R (.returned (Value.bool false)) w94)
(DoV Tryd.prog (Instr.fieldAt 64 t1_1 2) w94 (fun t114_95 w95 =>
 DoV Tryd.prog (Instr.loadAt 3 t114_95) w95 (fun t115_96 w96 =>
 DoV Tryd.prog (binS BinOp.eql 3 (Operand.tmp 115) (Operand.const (Value.int IntKind.i64 4)) t115_96 (Value.int IntKind.i64 4)) w96 (fun t116_97 w97 =>
 Br t116_97
(DoV Tryd.prog (Instr.fieldAt 64 t1_1 5) w97 (fun t117_98 w98 =>
 DoV Tryd.prog (Instr.loadAt 3 t117_98) w98 (fun t118_99 w99 =>
 CallF Tryd.prog 86 #[t118_99, (Value.int IntKind.i64 0), (Value.int IntKind.i64 63)] w99 (fun t119_100 w100 =>
 Gd t119_100 true (DoV Tryd.prog (Instr.fieldAt 64 t1_1 6) w100 (fun t121_101 w101 =>
 DoV Tryd.prog (Instr.loadAt 3 t121_101) w101 (fun t122_102 w102 =>
 CallF Tryd.prog 86 #[t122_102, (Value.int IntKind.i64 0), (Value.int IntKind.i64 31)] w102 (fun t123_103 w103 =>
 Gd t123_103 true (DoV Tryd.prog (Instr.fieldAt 64 t1_1 7) w103 (fun t126_104 w104 =>
 DoV Tryd.prog (Instr.loadAt 62 t126_104) w104 (fun t127_105 w105 =>
 DoV Tryd.prog (Instr.build 62 #[]) w105 (fun t128_106 w106 =>
 DoV Tryd.prog (binS BinOp.eql 62 (Operand.tmp 127) (Operand.tmp 128) t127_105 t128_106) w106 (fun t129_107 w107 =>
 R (.returned t129_107) w107) (Pan R)) (Pan R)) (Pan R)) (Pan R))
(R (.returned (Value.bool false)) w103)) (Pan R)) (Pan R)) (Pan R))
(R (.returned (Value.bool false)) w100)) (Pan R)) (Pan R)) (Pan R))
(JoinE [] (fun K108 =>
 JoinE [144] (fun K109 =>
 DoV Tryd.prog (Instr.fieldAt 64 t1_1 5) w97 (fun t131_110 w110 =>
 DoV Tryd.prog (Instr.loadAt 3 t131_110) w110 (fun t132_111 w111 =>
 DoV Tryd.prog (binS BinOp.neq 3 (Operand.tmp 132) (Operand.const (Value.int IntKind.i64 0)) t132_111 (Value.int IntKind.i64 0)) w111 (fun t133_112 w112 =>
 Gd t133_112 false (DoV Tryd.prog (Instr.fieldAt 64 t1_1 6) w112 (fun t135_113 w113 =>
 DoV Tryd.prog (Instr.loadAt 3 t135_113) w113 (fun t136_114 w114 =>
 DoV Tryd.prog (binS BinOp.neq 3 (Operand.tmp 136) (Operand.const (Value.int IntKind.i64 0)) t136_114 (Value.int IntKind.i64 0)) w114 (fun t137_115 w115 =>
 Gd t137_115 false (DoV Tryd.prog (Instr.fieldAt 64 t1_1 7) w115 (fun t140_116 w116 =>
 DoV Tryd.prog (Instr.loadAt 62 t140_116) w116 (fun t141_117 w117 =>
 CallF Tryd.prog 87 #[t141_117, (Value.int IntKind.i64 0), (Value.int IntKind.i64 100000)] w117 (fun t142_118 w118 =>
 DoV Tryd.prog (Op.unary UnOp.not t142_118) w118 (fun t143_119 w119 =>
 K109 [t143_119] w119) (Pan R)) (Pan R)) (Pan R)) (Pan R))
(K109 [(Value.bool true)] w115)) (Pan R)) (Pan R)) (Pan R))
(K109 [(Value.bool true)] w112)) (Pan R)) (Pan R)) (Pan R))
(fun h120 w120 =>
 Br (h120 144)
(R (.returned (Value.bool false)) w120)
(K108 [] w120)))
(fun _ w121 =>
 JoinE [] (fun K122 =>
 DoV Tryd.prog (Instr.fieldAt 64 t1_1 2) w121 (fun t145_123 w123 =>
 DoV Tryd.prog (Instr.loadAt 3 t145_123) w123 (fun t146_124 w124 =>
 JoinE [147] (fun K125 =>
 DoV Tryd.prog (binS BinOp.eql 3 (Operand.tmp 146) (Operand.const (Value.int IntKind.i64 3)) t146_124 (Value.int IntKind.i64 3)) w124 (fun t148_126 w126 =>
 Br t148_126
(K125 [t148_126] w126)
(DoV Tryd.prog (binS BinOp.eql 3 (Operand.tmp 146) (Operand.const (Value.int IntKind.i64 7)) t146_124 (Value.int IntKind.i64 7)) w126 (fun t149_127 w127 =>
 K125 [t149_127] w127) (Pan R))) (Pan R))
(fun h128 w128 =>
 Br (h128 147)
(R (.returned (Value.bool true)) w128)
(DoV Tryd.prog (binS BinOp.eql 3 (Operand.tmp 146) (Operand.const (Value.int IntKind.i64 5)) t146_124 (Value.int IntKind.i64 5)) w128 (fun t151_129 w129 =>
 Br t151_129
(DoV Tryd.prog (Instr.fieldAt 64 t1_1 7) w129 (fun t152_130 w130 =>
 DoV Tryd.prog (Instr.fieldAt 62 t152_130 0) w130 (fun t153_131 w131 =>
 DoV Tryd.prog (Instr.loadAt 3 t153_131) w131 (fun t154_132 w132 =>
 DoV Tryd.prog (binS BinOp.eql 3 (Operand.tmp 154) (Operand.const (Value.int IntKind.i64 0)) t154_132 (Value.int IntKind.i64 0)) w132 (fun t155_133 w133 =>
 R (.returned t155_133) w133) (Pan R)) (Pan R)) (Pan R)) (Pan R))
(DoV Tryd.prog (binS BinOp.eql 3 (Operand.tmp 146) (Operand.const (Value.int IntKind.i64 6)) t146_124 (Value.int IntKind.i64 6)) w129 (fun t157_134 w134 =>
 Br t157_134
(DoV Tryd.prog (Instr.fieldAt 64 t1_1 7) w134 (fun t158_135 w135 =>
 DoV Tryd.prog (Instr.fieldAt 62 t158_135 0) w135 (fun t159_136 w136 =>
 DoV Tryd.prog (Instr.loadAt 3 t159_136) w136 (fun t160_137 w137 =>
 DoV Tryd.prog (Instr.fieldAt 64 t1_1 7) w137 (fun t161_138 w138 =>
 DoV Tryd.prog (Instr.fieldAt 62 t161_138 1) w138 (fun t162_139 w139 =>
 DoV Tryd.prog (Instr.loadAt 3 t162_139) w139 (fun t163_140 w140 =>
 DoV Tryd.prog (binS BinOp.eql 3 (Operand.tmp 160) (Operand.tmp 163) t160_137 t163_140) w140 (fun t164_141 w141 =>
 R (.returned t164_141) w141) (Pan R)) (Pan R)) (Pan R)) (Pan R)) (Pan R)) (Pan R)) (Pan R))
(K122 [] w134)) (Pan R))) (Pan R)))) (Pan R)) (Pan R))
(fun _ w142 =>
 R (.returned (Value.bool false)) w142)))) (Pan R)) (Pan R)) (Pan R))) (Pan R)) (Pan R)) (Pan R)) (Pan R))) (Pan R)) (Pan R)) (Pan R)))) (Pan R)) (Pan R)) (Pan R))) (Pan R))
theorem sh_landfallref21_Formed_eq (v0 : Value) (R : Ending → World → Prop) (w : World) : vc Tryd.prog [] [] (Tryd.f75.body.getD .skip) (endE Tryd.prog Tryd.f75.results R) (argsE [v0]) [] w = sh_landfallref21_Formed v0 R w := by kernel_rfl
theorem sh_landfallref21_Formed_ok (v0 : Value) {R : Ending → World → Prop} {w : World} (h : sh_landfallref21_Formed v0 R w) : Calls Tryd.prog 75 #[v0] w R :=
  calls_of_vc (args := [v0]) [] [] follows_mixed Tryd.func75 rfl (of_decide_eq_true (by kernel_rfl)) (by kernel_rfl) ((sh_landfallref21_Formed_eq v0 R w).symm ▸ h)
/- landfall/report.ints -/
def sh_report_ints (v0 : Value) (R : Ending → World → Prop) (w : World) : Prop := (
 DoV Tryd.prog (Instr.box 64 v0) w (fun t1_1 w1 =>
 DoV Tryd.prog (Instr.fieldAt 64 t1_1 0) w1 (fun t3_2 w2 =>
 DoV Tryd.prog (Instr.loadAt 3 t3_2) w2 (fun t4_3 w3 =>
 DoV Tryd.prog (Instr.fieldAt 64 t1_1 1) w3 (fun t5_4 w4 =>
 DoV Tryd.prog (Instr.loadAt 3 t5_4) w4 (fun t6_5 w5 =>
 DoV Tryd.prog (Instr.fieldAt 64 t1_1 2) w5 (fun t7_6 w6 =>
 DoV Tryd.prog (Instr.loadAt 3 t7_6) w6 (fun t8_7 w7 =>
 DoV Tryd.prog (Instr.fieldAt 64 t1_1 3) w7 (fun t9_8 w8 =>
 DoV Tryd.prog (Instr.loadAt 3 t9_8) w8 (fun t10_9 w9 =>
 DoV Tryd.prog (Instr.fieldAt 64 t1_1 4) w9 (fun t11_10 w10 =>
 DoV Tryd.prog (Instr.loadAt 3 t11_10) w10 (fun t12_11 w11 =>
 DoV Tryd.prog (Instr.fieldAt 64 t1_1 5) w11 (fun t13_12 w12 =>
 DoV Tryd.prog (Instr.loadAt 3 t13_12) w12 (fun t14_13 w13 =>
 DoV Tryd.prog (Instr.fieldAt 64 t1_1 6) w13 (fun t15_14 w14 =>
 DoV Tryd.prog (Instr.loadAt 3 t15_14) w14 (fun t16_15 w15 =>
 DoV Tryd.prog (Instr.fieldAt 64 t1_1 7) w15 (fun t17_16 w16 =>
 DoV Tryd.prog (Instr.fieldAt 62 t17_16 0) w16 (fun t18_17 w17 =>
 DoV Tryd.prog (Instr.loadAt 3 t18_17) w17 (fun t19_18 w18 =>
 DoV Tryd.prog (Instr.fieldAt 64 t1_1 7) w18 (fun t20_19 w19 =>
 DoV Tryd.prog (Instr.fieldAt 62 t20_19 1) w19 (fun t21_20 w20 =>
 DoV Tryd.prog (Instr.loadAt 3 t21_20) w20 (fun t22_21 w21 =>
 DoV Tryd.prog (Instr.fieldAt 64 t1_1 8) w21 (fun t23_22 w22 =>
 DoV Tryd.prog (Instr.loadAt 3 t23_22) w22 (fun t24_23 w23 =>
 DoV Tryd.prog (Instr.fieldAt 64 t1_1 9) w23 (fun t25_24 w24 =>
 DoV Tryd.prog (Instr.loadAt 3 t25_24) w24 (fun t26_25 w25 =>
 DoV Tryd.prog (Instr.fieldAt 64 t1_1 10) w25 (fun t27_26 w26 =>
 DoV Tryd.prog (Instr.loadAt 3 t27_26) w26 (fun t28_27 w27 =>
 DoV Tryd.prog (Instr.buildSlice 24 12 #[(0, t4_3), (1, t6_5), (2, t8_7), (3, t10_9), (4, t12_11), (5, t14_13), (6, t16_15), (7, t19_18), (8, t22_21), (9, t24_23), (10, t26_25), (11, t28_27)]) w27 (fun t29_28 w28 =>
 R (.returned t29_28) w28) (Pan R)) (Pan R)) (Pan R)) (Pan R)) (Pan R)) (Pan R)) (Pan R)) (Pan R)) (Pan R)) (Pan R)) (Pan R)) (Pan R)) (Pan R)) (Pan R)) (Pan R)) (Pan R)) (Pan R)) (Pan R)) (Pan R)) (Pan R)) (Pan R)) (Pan R)) (Pan R)) (Pan R)) (Pan R)) (Pan R)) (Pan R)) (Pan R))
theorem sh_report_ints_eq (v0 : Value) (R : Ending → World → Prop) (w : World) : vc Tryd.prog [] [] (Tryd.f79.body.getD .skip) (endE Tryd.prog Tryd.f79.results R) (argsE [v0]) [] w = sh_report_ints v0 R w := by kernel_rfl
theorem sh_report_ints_ok (v0 : Value) {R : Ending → World → Prop} {w : World} (h : sh_report_ints v0 R w) : Calls Tryd.prog 79 #[v0] w R :=
  calls_of_vc (args := [v0]) [] [] follows_mixed Tryd.func79 rfl (of_decide_eq_true (by kernel_rfl)) (by kernel_rfl) ((sh_report_ints_eq v0 R w).symm ▸ h)
/- landfall/region.invalid -/
def sh_region_invalid (v0 : Value) (R : Ending → World → Prop) (w : World) : Prop := (
 CallF Tryd.prog 89 #[v0, (Value.func (Fn.func 90) #[] #[])] w (fun t4_1 w1 =>
 R (.returned t4_1) w1) (Pan R))
theorem sh_region_invalid_eq (v0 : Value) (R : Ending → World → Prop) (w : World) : vc Tryd.prog [] [] (Tryd.f80.body.getD .skip) (endE Tryd.prog Tryd.f80.results R) (argsE [v0]) [] w = sh_region_invalid v0 R w := by kernel_rfl
theorem sh_region_invalid_ok (v0 : Value) {R : Ending → World → Prop} {w : World} (h : sh_region_invalid v0 R w) : Calls Tryd.prog 80 #[v0] w R :=
  calls_of_vc (args := [v0]) [] [] follows_mixed Tryd.func80 rfl (of_decide_eq_true (by kernel_rfl)) (by kernel_rfl) ((sh_region_invalid_eq v0 R w).symm ▸ h)
/- landfall/report.isEntry -/
def sh_report_isEntry (v0 : Value) (R : Ending → World → Prop) (w : World) : Prop := (
 DoV Tryd.prog (Instr.box 64 v0) w (fun t1_1 w1 =>
 DoV Tryd.prog (Instr.fieldAt 64 t1_1 2) w1 (fun t8_2 w2 =>
 DoV Tryd.prog (Instr.loadAt 3 t8_2) w2 (fun t9_3 w3 =>
 CallF Tryd.prog 92 #[t9_3] w3 (fun t10_4 w4 =>
 DoV Tryd.prog (Instr.extract t10_4 0) w4 (fun t11_5 w5 =>
 DoV Tryd.prog (Instr.extract t10_4 1) w5 (fun t12_6 w6 =>
 DoV Tryd.prog (Instr.alloc 120 true (.tuple #[])) w6 (fun t3_7 w7 =>
 DoU Tryd.prog (Instr.storeAt 120 t3_7 t11_5) w7 (fun _ w8 =>
 JoinE [] (fun K9 =>
 JoinE [43] (fun K10 =>
 DoV Tryd.prog (Op.unary UnOp.not t12_6) w8 (fun t14_11 w11 =>
 Gd t14_11 false (DoV Tryd.prog (Instr.fieldAt 64 t1_1 0) w11 (fun t16_12 w12 =>
 DoV Tryd.prog (Instr.loadAt 3 t16_12) w12 (fun t17_13 w13 =>
 DoV Tryd.prog (binS BinOp.lss 3 (Operand.tmp 17) (Operand.const (Value.int IntKind.i64 1)) t17_13 (Value.int IntKind.i64 1)) w13 (fun t18_14 w14 =>
 Gd t18_14 false (DoV Tryd.prog (Instr.fieldAt 64 t1_1 0) w14 (fun t21_15 w15 =>
 DoV Tryd.prog (Instr.loadAt 3 t21_15) w15 (fun t22_16 w16 =>
 DoV Tryd.prog (binS BinOp.gtr 3 (Operand.tmp 22) (Operand.const (Value.int IntKind.i64 2000)) t22_16 (Value.int IntKind.i64 2000)) w16 (fun t23_17 w17 =>
 Gd t23_17 false (DoV Tryd.prog (Instr.fieldAt 64 t1_1 1) w17 (fun t26_18 w18 =>
 DoV Tryd.prog (Instr.loadAt 3 t26_18) w18 (fun t27_19 w19 =>
 DoV Tryd.prog (binS BinOp.lss 3 (Operand.tmp 27) (Operand.const (Value.int IntKind.i64 0)) t27_19 (Value.int IntKind.i64 0)) w19 (fun t28_20 w20 =>
 Gd t28_20 false (DoV Tryd.prog (Instr.fieldAt 64 t1_1 1) w20 (fun t31_21 w21 =>
 DoV Tryd.prog (Instr.loadAt 3 t31_21) w21 (fun t32_22 w22 =>
 DoV Tryd.prog (binS BinOp.gtr 3 (Operand.tmp 32) (Operand.const (Value.int IntKind.i64 1000000000)) t32_22 (Value.int IntKind.i64 1000000000)) w22 (fun t33_23 w23 =>
 Gd t33_23 false (DoV Tryd.prog (Instr.fieldAt 64 t1_1 7) w23 (fun t36_24 w24 =>
 DoV Tryd.prog (Instr.fieldAt 62 t36_24 0) w24 (fun t37_25 w25 =>
 DoV Tryd.prog (Instr.loadAt 3 t37_25) w25 (fun t38_26 w26 =>
 DoV Tryd.prog (Instr.fieldAt 64 t1_1 7) w26 (fun t39_27 w27 =>
 DoV Tryd.prog (Instr.fieldAt 62 t39_27 1) w27 (fun t40_28 w28 =>
 DoV Tryd.prog (Instr.loadAt 3 t40_28) w28 (fun t41_29 w29 =>
 DoV Tryd.prog (binS BinOp.gtr 3 (Operand.tmp 38) (Operand.tmp 41) t38_26 t41_29) w29 (fun t42_30 w30 =>
 K10 [t42_30] w30) (Pan R)) (Pan R)) (Pan R)) (Pan R)) (Pan R)) (Pan R)) (Pan R))
(K10 [(Value.bool true)] w23)) (Pan R)) (Pan R)) (Pan R))
(K10 [(Value.bool true)] w20)) (Pan R)) (Pan R)) (Pan R))
(K10 [(Value.bool true)] w17)) (Pan R)) (Pan R)) (Pan R))
(K10 [(Value.bool true)] w14)) (Pan R)) (Pan R)) (Pan R))
(K10 [(Value.bool true)] w11)) (Pan R))
(fun h31 w31 =>
 Br (h31 43)
(R (.returned (Value.bool false)) w31)
(K9 [] w31)))
(fun _ w32 =>
 DoV Tryd.prog (Instr.loadAt 64 t1_1) w32 (fun t44_33 w33 =>
 CallF Tryd.prog 79 #[t44_33] w33 (fun t45_34 w34 =>
 DoV Tryd.prog (Instr.sliceAt 24 t45_34 (some (Value.int IntKind.i64 3)) none none) w34 (fun t46_35 w35 =>
 CallB Tryd.prog Builtin.len #[24] 3 #[false] #[t46_35] w35 (fun t47_36 w36 =>
 LoopE [48] [(Value.int IntKind.i64 0)] w36 (fun h37 w37 K37 =>
 DoV Tryd.prog (binS BinOp.lss 3 (Operand.tmp 48) (Operand.tmp 47) (h37 48) t47_36) w37 (fun t49_38 w38 =>
 Br t49_38
(JoinE [] (fun K39 =>
 DoV Tryd.prog (Instr.indexAt 24 t46_35 (h37 48)) w38 (fun t51_40 w40 =>
 DoV Tryd.prog (Instr.loadAt 3 t51_40) w40 (fun t52_41 w41 =>
 JoinE [66] (fun K42 =>
 DoV Tryd.prog (Instr.indexAt 120 t3_7 (h37 48)) w41 (fun t55_43 w43 =>
 DoV Tryd.prog (Instr.indexAt 118 t55_43 (Value.int IntKind.i64 0)) w43 (fun t56_44 w44 =>
 DoV Tryd.prog (Instr.loadAt 3 t56_44) w44 (fun t57_45 w45 =>
 DoV Tryd.prog (binS BinOp.lss 3 (Operand.tmp 53) (Operand.tmp 57) t52_41 t57_45) w45 (fun t58_46 w46 =>
 Gd t58_46 false (DoV Tryd.prog (Instr.indexAt 120 t3_7 (h37 48)) w46 (fun t62_47 w47 =>
 DoV Tryd.prog (Instr.indexAt 118 t62_47 (Value.int IntKind.i64 1)) w47 (fun t63_48 w48 =>
 DoV Tryd.prog (Instr.loadAt 3 t63_48) w48 (fun t64_49 w49 =>
 DoV Tryd.prog (binS BinOp.gtr 3 (Operand.tmp 60) (Operand.tmp 64) t52_41 t64_49) w49 (fun t65_50 w50 =>
 K42 [t65_50] w50) (Pan R)) (Pan R)) (Pan R)) (Pan R))
(K42 [(Value.bool true)] w46)) (Pan R)) (Pan R)) (Pan R)) (Pan R))
(fun h51 w51 =>
 Br (h51 66)
(R (.returned (Value.bool false)) w51)
(K39 [] w51))) (Pan R)) (Pan R))
(fun _ w52 =>
 DoV Tryd.prog (binS BinOp.add 3 (Operand.tmp 48) (Operand.const (Value.int IntKind.i64 1)) (h37 48) (Value.int IntKind.i64 1)) w52 (fun t67_53 w53 =>
 K37 [t67_53] w53) (Pan R)))
(DoV Tryd.prog (Instr.fieldAt 64 t1_1 2) w38 (fun t68_54 w54 =>
 DoV Tryd.prog (Instr.loadAt 3 t68_54) w54 (fun t69_55 w55 =>
 DoV Tryd.prog (binS BinOp.eql 3 (Operand.tmp 69) (Operand.const (Value.int IntKind.i64 1)) t69_55 (Value.int IntKind.i64 1)) w55 (fun t71_56 w56 =>
 Br t71_56
(DoV Tryd.prog (Instr.fieldAt 64 t1_1 7) w56 (fun t72_57 w57 =>
 DoV Tryd.prog (Instr.fieldAt 62 t72_57 0) w57 (fun t73_58 w58 =>
 DoV Tryd.prog (Instr.loadAt 3 t73_58) w58 (fun t74_59 w59 =>
 DoV Tryd.prog (Instr.fieldAt 64 t1_1 7) w59 (fun t75_60 w60 =>
 DoV Tryd.prog (Instr.fieldAt 62 t75_60 1) w60 (fun t76_61 w61 =>
 DoV Tryd.prog (Instr.loadAt 3 t76_61) w61 (fun t77_62 w62 =>
 DoV Tryd.prog (binS BinOp.eql 3 (Operand.tmp 74) (Operand.tmp 77) t74_59 t77_62) w62 (fun t78_63 w63 =>
 Gd t78_63 true (DoV Tryd.prog (Instr.fieldAt 64 t1_1 6) w63 (fun t80_64 w64 =>
 DoV Tryd.prog (Instr.loadAt 3 t80_64) w64 (fun t81_65 w65 =>
 DoV Tryd.prog (Instr.fieldAt 64 t1_1 1) w65 (fun t82_66 w66 =>
 DoV Tryd.prog (Instr.loadAt 3 t82_66) w66 (fun t83_67 w67 =>
 DoV Tryd.prog (binS BinOp.leq 3 (Operand.tmp 81) (Operand.tmp 83) t81_65 t83_67) w67 (fun t84_68 w68 =>
 R (.returned t84_68) w68) (Pan R)) (Pan R)) (Pan R)) (Pan R)) (Pan R))
(R (.returned (Value.bool false)) w63)) (Pan R)) (Pan R)) (Pan R)) (Pan R)) (Pan R)) (Pan R)) (Pan R))
(DoV Tryd.prog (binS BinOp.eql 3 (Operand.tmp 69) (Operand.const (Value.int IntKind.i64 6)) t69_55 (Value.int IntKind.i64 6)) w56 (fun t87_69 w69 =>
 Br t87_69
(DoV Tryd.prog (Instr.fieldAt 64 t1_1 7) w69 (fun t88_70 w70 =>
 DoV Tryd.prog (Instr.fieldAt 62 t88_70 0) w70 (fun t89_71 w71 =>
 DoV Tryd.prog (Instr.loadAt 3 t89_71) w71 (fun t90_72 w72 =>
 DoV Tryd.prog (Instr.fieldAt 64 t1_1 7) w72 (fun t91_73 w73 =>
 DoV Tryd.prog (Instr.fieldAt 62 t91_73 1) w73 (fun t92_74 w74 =>
 DoV Tryd.prog (Instr.loadAt 3 t92_74) w74 (fun t93_75 w75 =>
 DoV Tryd.prog (binS BinOp.eql 3 (Operand.tmp 90) (Operand.tmp 93) t90_72 t93_75) w75 (fun t94_76 w76 =>
 R (.returned t94_76) w76) (Pan R)) (Pan R)) (Pan R)) (Pan R)) (Pan R)) (Pan R)) (Pan R))
(R (.returned (Value.bool true)) w69)) (Pan R))) (Pan R)) (Pan R)) (Pan R))) (Pan R))) (Pan R)) (Pan R)) (Pan R)) (Pan R))) (Pan R)) (Pan R)) (Pan R)) (Pan R)) (Pan R)) (Pan R)) (Pan R)) (Pan R))
theorem sh_report_isEntry_eq (v0 : Value) (R : Ending → World → Prop) (w : World) : vc Tryd.prog [] [48] (Tryd.f81.body.getD .skip) (endE Tryd.prog Tryd.f81.results R) (argsE [v0]) [] w = sh_report_isEntry v0 R w := by kernel_rfl
theorem sh_report_isEntry_ok (v0 : Value) {R : Ending → World → Prop} {w : World} (h : sh_report_isEntry v0 R w) : Calls Tryd.prog 81 #[v0] w R :=
  calls_of_vc (args := [v0]) [] [48] follows_mixed Tryd.func81 rfl (of_decide_eq_true (by kernel_rfl)) (by kernel_rfl) ((sh_report_isEntry_eq v0 R w).symm ▸ h)
/- landfall/landfallref07.polygons -/
def sh_landfallref07_polygons (v0 : Value) (R : Ending → World → Prop) (w : World) : Prop := (
 LoopE [3] [(Value.int IntKind.i64 0)] w (fun h1 w1 K1 =>
 CallB Tryd.prog Builtin.len #[46] 3 #[false] #[v0] w1 (fun t7_2 w2 =>
 DoV Tryd.prog (binS BinOp.lss 3 (Operand.tmp 5) (Operand.tmp 7) (h1 3) t7_2) w2 (fun t8_3 w3 =>
 Br t8_3
(DoV Tryd.prog (Instr.indexAt 46 v0 (h1 3)) w3 (fun t13_4 w4 =>
 DoV Tryd.prog (Instr.loadAt 110 t13_4) w4 (fun t14_5 w5 =>
 CallF Tryd.prog 93 #[t14_5] w5 (fun t15_6 w6 =>
 DoV Tryd.prog (Op.unary UnOp.not t15_6) w6 (fun t17_7 w7 =>
 Br t17_7
(R (.returned (Value.bool false)) w7)
(DoV Tryd.prog (binS BinOp.add 3 (Operand.tmp 9) (Operand.const (Value.int IntKind.i64 1)) (h1 3) (Value.int IntKind.i64 1)) w7 (fun t10_8 w8 =>
 K1 [t10_8] w8) (Pan R))) (Pan R)) (Pan R)) (Pan R)) (Pan R))
(R (.returned (Value.bool true)) w3)) (Pan R)) (Pan R)))
theorem sh_landfallref07_polygons_eq (v0 : Value) (R : Ending → World → Prop) (w : World) : vc Tryd.prog [] [3] (Tryd.f82.body.getD .skip) (endE Tryd.prog Tryd.f82.results R) (argsE [v0]) [] w = sh_landfallref07_polygons v0 R w := by kernel_rfl
theorem sh_landfallref07_polygons_ok (v0 : Value) {R : Ending → World → Prop} {w : World} (h : sh_landfallref07_polygons v0 R w) : Calls Tryd.prog 82 #[v0] w R :=
  calls_of_vc (args := [v0]) [] [3] follows_mixed Tryd.func82 rfl (of_decide_eq_true (by kernel_rfl)) (by kernel_rfl) ((sh_landfallref07_polygons_eq v0 R w).symm ▸ h)
/- landfall/landfallref21.in -/
def sh_landfallref21_in (v0 v1 v2 : Value) (R : Ending → World → Prop) (w : World) : Prop := (
 DoV Tryd.prog (binS BinOp.geq 3 (Operand.tmp 7) (Operand.tmp 8) v0 v1) w (fun t9_1 w1 =>
 Gd t9_1 true (DoV Tryd.prog (binS BinOp.leq 3 (Operand.tmp 11) (Operand.tmp 12) v0 v2) w1 (fun t13_2 w2 =>
 R (.returned t13_2) w2) (Pan R))
(R (.returned (Value.bool false)) w1)) (Pan R))
theorem sh_landfallref21_in_eq (v0 v1 v2 : Value) (R : Ending → World → Prop) (w : World) : vc Tryd.prog [] [] (Tryd.f86.body.getD .skip) (endE Tryd.prog Tryd.f86.results R) (argsE [v0, v1, v2]) [] w = sh_landfallref21_in v0 v1 v2 R w := by kernel_rfl
theorem sh_landfallref21_in_ok (v0 v1 v2 : Value) {R : Ending → World → Prop} {w : World} (h : sh_landfallref21_in v0 v1 v2 R w) : Calls Tryd.prog 86 #[v0, v1, v2] w R :=
  calls_of_vc (args := [v0, v1, v2]) [] [] follows_mixed Tryd.func86 rfl (of_decide_eq_true (by kernel_rfl)) (by kernel_rfl) ((sh_landfallref21_in_eq v0 v1 v2 R w).symm ▸ h)
/- landfall/landfallref21.span -/
def sh_landfallref21_span (v0 v1 v2 : Value) (R : Ending → World → Prop) (w : World) : Prop := (
 DoV Tryd.prog (Instr.box 62 v0) w (fun t3_1 w1 =>
 DoV Tryd.prog (Instr.fieldAt 62 t3_1 0) w1 (fun t7_2 w2 =>
 DoV Tryd.prog (Instr.loadAt 3 t7_2) w2 (fun t8_3 w3 =>
 DoV Tryd.prog (Instr.fieldAt 62 t3_1 1) w3 (fun t10_4 w4 =>
 DoV Tryd.prog (Instr.loadAt 3 t10_4) w4 (fun t11_5 w5 =>
 CallF Tryd.prog 86 #[t8_3, v1, t11_5] w5 (fun t12_6 w6 =>
 Gd t12_6 true (DoV Tryd.prog (Instr.fieldAt 62 t3_1 1) w6 (fun t14_7 w7 =>
 DoV Tryd.prog (Instr.loadAt 3 t14_7) w7 (fun t15_8 w8 =>
 DoV Tryd.prog (binS BinOp.leq 3 (Operand.tmp 15) (Operand.tmp 16) t15_8 v2) w8 (fun t17_9 w9 =>
 R (.returned t17_9) w9) (Pan R)) (Pan R)) (Pan R))
(R (.returned (Value.bool false)) w6)) (Pan R)) (Pan R)) (Pan R)) (Pan R)) (Pan R)) (Pan R))
theorem sh_landfallref21_span_eq (v0 v1 v2 : Value) (R : Ending → World → Prop) (w : World) : vc Tryd.prog [] [] (Tryd.f87.body.getD .skip) (endE Tryd.prog Tryd.f87.results R) (argsE [v0, v1, v2]) [] w = sh_landfallref21_span v0 v1 v2 R w := by kernel_rfl
theorem sh_landfallref21_span_ok (v0 v1 v2 : Value) {R : Ending → World → Prop} {w : World} (h : sh_landfallref21_span v0 v1 v2 R w) : Calls Tryd.prog 87 #[v0, v1, v2] w R :=
  calls_of_vc (args := [v0, v1, v2]) [] [] follows_mixed Tryd.func87 rfl (of_decide_eq_true (by kernel_rfl)) (by kernel_rfl) ((sh_landfallref21_span_eq v0 v1 v2 R w).symm ▸ h)
/- slices.ContainsFunc[[][]landfall/api.Point,[]landfall/api.Point] -/
def sh_slices_ContainsFunc_____api_Point___api_Point_ (v0 v1 : Value) (R : Ending → World → Prop) (w : World) : Prop := (
 CallF Tryd.prog 96 #[v0, v1] w (fun t7_1 w1 =>
 DoV Tryd.prog (binS BinOp.geq 3 (Operand.tmp 7) (Operand.const (Value.int IntKind.i64 0)) t7_1 (Value.int IntKind.i64 0)) w1 (fun t8_2 w2 =>
 R (.returned t8_2) w2) (Pan R)) (Pan R))
theorem sh_slices_ContainsFunc_____api_Point___api_Point__eq (v0 v1 : Value) (R : Ending → World → Prop) (w : World) : vc Tryd.prog [] [] (Tryd.f89.body.getD .skip) (endE Tryd.prog Tryd.f89.results R) (argsE [v0, v1]) [] w = sh_slices_ContainsFunc_____api_Point___api_Point_ v0 v1 R w := by kernel_rfl
theorem sh_slices_ContainsFunc_____api_Point___api_Point__ok (v0 v1 : Value) {R : Ending → World → Prop} {w : World} (h : sh_slices_ContainsFunc_____api_Point___api_Point_ v0 v1 R w) : Calls Tryd.prog 89 #[v0, v1] w R :=
  calls_of_vc (args := [v0, v1]) [] [] follows_mixed Tryd.func89 rfl (of_decide_eq_true (by kernel_rfl)) (by kernel_rfl) ((sh_slices_ContainsFunc_____api_Point___api_Point__eq v0 v1 R w).symm ▸ h)
/- landfall/region.invalid$1 -/
def sh_region_invalid_1 (v0 : Value) (R : Ending → World → Prop) (w : World) : Prop := (
 CallF Tryd.prog 91 #[v0] w (fun t4_1 w1 =>
 DoV Tryd.prog (Op.unary UnOp.not t4_1) w1 (fun t5_2 w2 =>
 R (.returned t5_2) w2) (Pan R)) (Pan R))
theorem sh_region_invalid_1_eq (v0 : Value) (R : Ending → World → Prop) (w : World) : vc Tryd.prog [] [] (Tryd.f90.body.getD .skip) (endE Tryd.prog Tryd.f90.results R) (argsE [v0]) [] w = sh_region_invalid_1 v0 R w := by kernel_rfl
theorem sh_region_invalid_1_ok (v0 : Value) {R : Ending → World → Prop} {w : World} (h : sh_region_invalid_1 v0 R w) : Calls Tryd.prog 90 #[v0] w R :=
  calls_of_vc (args := [v0]) [] [] follows_mixed Tryd.func90 rfl (of_decide_eq_true (by kernel_rfl)) (by kernel_rfl) ((sh_region_invalid_1_eq v0 R w).symm ▸ h)
/- landfall/hull.Valid -/
def sh_hull_Valid (v0 : Value) (R : Ending → World → Prop) (w : World) : Prop := (
 DoV Tryd.prog (Instr.box 110 v0) w (fun t1_1 w1 =>
 DoV Tryd.prog (Instr.alloc 4 true (.tuple #[])) w1 (fun t2_2 w2 =>
 JoinE [] (fun K3 =>
 JoinE [16] (fun K4 =>
 DoV Tryd.prog (Instr.loadAt 110 t1_1) w2 (fun t9_5 w5 =>
 CallB Tryd.prog Builtin.len #[110] 3 #[false] #[t9_5] w5 (fun t10_6 w6 =>
 DoV Tryd.prog (binS BinOp.lss 3 (Operand.tmp 10) (Operand.const (Value.int IntKind.i64 1)) t10_6 (Value.int IntKind.i64 1)) w6 (fun t11_7 w7 =>
 Gd t11_7 false (DoV Tryd.prog (Instr.loadAt 110 t1_1) w7 (fun t13_8 w8 =>
 CallB Tryd.prog Builtin.len #[110] 3 #[false] #[t13_8] w8 (fun t14_9 w9 =>
 DoV Tryd.prog (binS BinOp.gtr 3 (Operand.tmp 14) (Operand.const (Value.int IntKind.i64 64)) t14_9 (Value.int IntKind.i64 64)) w9 (fun t15_10 w10 =>
 K4 [t15_10] w10) (Pan R)) (Pan R)) (Pan R))
(K4 [(Value.bool true)] w7)) (Pan R)) (Pan R)) (Pan R))
(fun h11 w11 =>
 Br (h11 16)
(DoU Tryd.prog (Instr.storeAt 4 t2_2 (Value.bool false)) w11 (fun _ w12 =>
 Res Tryd.prog [.cell t2_2 4] w12 R) (Pan R))
(K3 [] w11)))
(fun _ w13 =>
 DoV Tryd.prog (Instr.loadAt 110 t1_1) w13 (fun t17_14 w14 =>
 CallB Tryd.prog Builtin.len #[110] 3 #[false] #[t17_14] w14 (fun t18_15 w15 =>
 LoopE [19] [(Value.int IntKind.i64 0)] w15 (fun h16 w16 K16 =>
 DoV Tryd.prog (binS BinOp.lss 3 (Operand.tmp 19) (Operand.tmp 18) (h16 19) t18_15) w16 (fun t20_17 w17 =>
 Br t20_17
(JoinE [] (fun K18 =>
 DoV Tryd.prog (Instr.indexAt 110 t17_14 (h16 19)) w17 (fun t22_19 w19 =>
 DoV Tryd.prog (Instr.loadAt 109 t22_19) w19 (fun t23_20 w20 =>
 DoV Tryd.prog (Instr.alloc 109 true (.tuple #[])) w20 (fun t4_21 w21 =>
 DoU Tryd.prog (Instr.storeAt 109 t4_21 t23_20) w21 (fun _ w22 =>
 JoinE [38] (fun K23 =>
 DrawE w22 (fun Rs24 Rb24 w24 =>
 DetOp Rb24 Rs24 w24 (fun w25 K25 => DoV Tryd.prog (Instr.loadAt 109 t4_21) w25 K25 (Pan R)) (fun c24_25 ψ25 =>
 DetOp Rs24 Rb24 w24 (fun w26 K26 => CallF Tryd.prog 97 #[c24_25] w26 K26 (Pan R)) (fun c25_26 ψ26 =>
 DetOp Rb24 Rs24 w24 (fun w27 K27 => DoV Tryd.prog (Op.unary UnOp.not c25_26) w27 K27 (Pan R)) (fun c26_27 ψ27 =>
 Gd c26_27 false (DetOp Rb24 Rs24 w24 (fun w28 K28 => DoV Tryd.prog (binS BinOp.gtr 3 (Operand.tmp 28) (Operand.const (Value.int IntKind.i64 0)) (h16 19) (Value.int IntKind.i64 0)) w28 K28 (Pan R)) (fun c29_28 ψ28 =>
 Gd c29_28 true (DetOp Rb24 Rs24 w24 (fun w29 K29 => DoV Tryd.prog (Instr.loadAt 110 t1_1) w29 K29 (Pan R)) (fun c31_29 ψ29 =>
 DetOp Rb24 Rs24 w24 (fun w30 K30 => DoV Tryd.prog (Instr.indexAt 110 c31_29 (Value.int IntKind.i64 0)) w30 K30 (Pan R)) (fun c32_30 ψ30 =>
 DetOp Rb24 Rs24 w24 (fun w31 K31 => DoV Tryd.prog (Instr.loadAt 109 c32_30) w31 K31 (Pan R)) (fun c33_31 ψ31 =>
 DetOp Rb24 Rs24 w24 (fun w32 K32 => DoV Tryd.prog (Instr.loadAt 109 t4_21) w32 K32 (Pan R)) (fun c34_32 ψ32 =>
 ∀ w33, Rb24 w24 w33 → ((((((((True ∧ ψ25 w33) ∧ ψ26 w33) ∧ ψ27 w33) ∧ ψ28 w33) ∧ ψ29 w33) ∧ ψ30 w33) ∧ ψ31 w33) ∧ ψ32 w33) →
 CallF Tryd.prog 98 #[c33_31, c34_32] w33 (fun t35_34 w34 =>
 DoV Tryd.prog (binS BinOp.geq 3 (Operand.tmp 35) (Operand.const (Value.int IntKind.i64 0)) t35_34 (Value.int IntKind.i64 0)) w34 (fun t36_35 w35 =>
 K23 [t36_35] w35) (Pan R)) (Pan R))))))
(∀ w36, Rb24 w24 w36 → ((((True ∧ ψ25 w36) ∧ ψ26 w36) ∧ ψ27 w36) ∧ ψ28 w36) →
 K23 [(Value.bool false)] w36)))
(∀ w37, Rb24 w24 w37 → (((True ∧ ψ25 w37) ∧ ψ26 w37) ∧ ψ27 w37) →
 K23 [(Value.bool true)] w37))))))
(fun h38 w38 =>
 Br (h38 38)
(DoU Tryd.prog (Instr.storeAt 4 t2_2 (Value.bool false)) w38 (fun _ w39 =>
 Res Tryd.prog [.cell t2_2 4] w39 R) (Pan R))
(K18 [] w38))) (Pan R)) (Pan R)) (Pan R)) (Pan R))
(fun _ w40 =>
 DoV Tryd.prog (binS BinOp.add 3 (Operand.tmp 19) (Operand.const (Value.int IntKind.i64 1)) (h16 19) (Value.int IntKind.i64 1)) w40 (fun t39_41 w41 =>
 K16 [t39_41] w41) (Pan R)))
(DoV Tryd.prog (Instr.loadAt 110 t1_1) w17 (fun t40_42 w42 =>
 CallB Tryd.prog Builtin.len #[110] 3 #[false] #[t40_42] w42 (fun t41_43 w43 =>
 DoV Tryd.prog (binS BinOp.lss 3 (Operand.tmp 41) (Operand.const (Value.int IntKind.i64 3)) t41_43 (Value.int IntKind.i64 3)) w43 (fun t42_44 w44 =>
 Br t42_44
(DoU Tryd.prog (Instr.storeAt 4 t2_2 (Value.bool true)) w44 (fun _ w45 =>
 Res Tryd.prog [.cell t2_2 4] w45 R) (Pan R))
(DoV Tryd.prog (Instr.loadAt 110 t1_1) w44 (fun t43_46 w46 =>
 CallF Tryd.prog 99 #[t43_46] w46 (fun t44_47 w47 =>
 RangeE Tryd.prog t44_47 2 w47 (fun D48 xs48 w49 J48 =>
 DoV Tryd.prog (Instr.alloc 109 true (.tuple #[])) w49 (fun t5_50 w50 =>
 DoU Tryd.prog (Instr.storeAt 109 t5_50 (nth xs48 0)) w50 (fun _ w51 =>
 DoV Tryd.prog (Instr.alloc 109 true (.tuple #[])) w51 (fun t6_52 w52 =>
 DoU Tryd.prog (Instr.storeAt 109 t6_52 (nth xs48 1)) w52 (fun _ w53 =>
(KeepL D48 w49 w53 ∧ ∀ o54,
 DoV Tryd.prog (Instr.loadAt 110 t1_1) (w53.putObj (D48 + 1) o54) (fun t47_55 w55 =>
 CallB Tryd.prog Builtin.len #[110] 3 #[false] #[t47_55] w55 (fun t48_56 w56 =>
 LoopE [49] [(Value.int IntKind.i64 0)] w56 (fun h57 w57 K57 =>
 DoV Tryd.prog (binS BinOp.lss 3 (Operand.tmp 49) (Operand.tmp 48) (h57 49) t48_56) w57 (fun t50_58 w58 =>
 Br t50_58
(JoinE [] (fun K59 =>
 DoV Tryd.prog (Instr.indexAt 110 t47_55 (h57 49)) w58 (fun t51_60 w60 =>
 DoV Tryd.prog (Instr.loadAt 109 t51_60) w60 (fun t52_61 w61 =>
 DoV Tryd.prog (Instr.alloc 109 true (.tuple #[])) w61 (fun t8_62 w62 =>
 DoU Tryd.prog (Instr.storeAt 109 t8_62 t52_61) w62 (fun _ w63 =>
 JoinE [67] (fun K64 =>
 DoV Tryd.prog (Instr.loadAt 109 t8_62) w63 (fun t53_65 w65 =>
 DoV Tryd.prog (Instr.loadAt 109 t5_50) w65 (fun t54_66 w66 =>
 DoV Tryd.prog (binS BinOp.neq 109 (Operand.tmp 53) (Operand.tmp 54) t53_65 t54_66) w66 (fun t55_67 w67 =>
 Gd t55_67 true (DoV Tryd.prog (Instr.loadAt 109 t8_62) w67 (fun t57_68 w68 =>
 DoV Tryd.prog (Instr.loadAt 109 t6_52) w68 (fun t58_69 w69 =>
 DoV Tryd.prog (binS BinOp.neq 109 (Operand.tmp 57) (Operand.tmp 58) t57_68 t58_69) w69 (fun t59_70 w70 =>
 Gd t59_70 true (DoV Tryd.prog (Instr.loadAt 109 t5_50) w70 (fun t62_71 w71 =>
 DoV Tryd.prog (Instr.loadAt 109 t6_52) w71 (fun t63_72 w72 =>
 DoV Tryd.prog (Instr.loadAt 109 t8_62) w72 (fun t64_73 w73 =>
 CallF Tryd.prog 100 #[t62_71, t63_72, t64_73] w73 (fun t65_74 w74 =>
 DoV Tryd.prog (binS BinOp.leq 3 (Operand.tmp 65) (Operand.const (Value.int IntKind.i64 0)) t65_74 (Value.int IntKind.i64 0)) w74 (fun t66_75 w75 =>
 K64 [t66_75] w75) NoX) NoX) NoX) NoX) NoX)
(K64 [(Value.bool false)] w70)) NoX) NoX) NoX)
(K64 [(Value.bool false)] w67)) NoX) NoX) NoX)
(fun h76 w76 =>
 Br (h76 67)
(DoU Tryd.prog (Instr.storeAt 4 t2_2 (Value.bool false)) w76 (fun _ w77 =>
(KeepL D48 (w53.putObj (D48 + 1) o54) w77 ∧ ∀ o78, J48 .ret (w77.putObj (D48 + 1) o78))) NoX)
(K59 [] w76))) NoX) NoX) NoX) NoX)
(fun _ w79 =>
 DoV Tryd.prog (binS BinOp.add 3 (Operand.tmp 49) (Operand.const (Value.int IntKind.i64 1)) (h57 49) (Value.int IntKind.i64 1)) w79 (fun t68_80 w80 =>
 K57 [t68_80] w80) NoX))
((KeepL D48 (w53.putObj (D48 + 1) o54) w58 ∧ ∀ o81, J48 .normal (w58.putObj (D48 + 1) o81)))) NoX)) NoX) NoX)) NoX) NoX) NoX) NoX)
(fun D82 w83 =>
 DoU Tryd.prog (Instr.storeAt 4 t2_2 (Value.bool true)) w83 (fun _ w84 =>
 MarkE D82 w84 (fun w85 => Res Tryd.prog [.cell t2_2 4] w85 R)) NoX)
(fun D86 w87 =>
 MarkE D86 w87 (fun w88 => Res Tryd.prog [.cell t2_2 4] w88 R))
[]) (Pan R)) (Pan R))) (Pan R)) (Pan R)) (Pan R))) (Pan R))) (Pan R)) (Pan R))) (Pan R)) (Pan R))
theorem sh_hull_Valid_eq (v0 : Value) (R : Ending → World → Prop) (w : World) : vc Tryd.prog [(6, 11, false, 2)] [19, 49] (Tryd.f91.body.getD .skip) (endM Tryd.prog Tryd.f91.results R) (argsE [v0]) [] w = sh_hull_Valid v0 R w := by kernel_rfl
theorem sh_hull_Valid_ok (v0 : Value) {R : Ending → World → Prop} {w : World} (h : sh_hull_Valid v0 R w) : Calls Tryd.prog 91 #[v0] w R :=
  calls_of_vcM (args := [v0]) [(6, 11, false, 2)] [19, 49] follows_mixed Tryd.func91 rfl (of_decide_eq_true (by kernel_rfl)) (by kernel_rfl) ((sh_hull_Valid_eq v0 R w).symm ▸ h)
/- landfall/report.of -/
def sh_report_of (v0 : Value) (R : Ending → World → Prop) (w : World) : Prop := (
 DoV Tryd.prog (Instr.alloc 120 true (.tuple #[])) w (fun t2_1 w1 =>
 DoV Tryd.prog (Instr.build 118 #[(0, (Value.int IntKind.i64 1)), (1, (Value.int IntKind.i64 8))]) w1 (fun t9_2 w2 =>
 DoV Tryd.prog (Instr.build 118 #[(0, (Value.int IntKind.i64 1)), (1, (Value.int IntKind.i64 1000000))]) w2 (fun t10_3 w3 =>
 DoV Tryd.prog (Instr.build 118 #[(0, (Value.int IntKind.i64 0)), (1, (Value.int IntKind.i64 63))]) w3 (fun t11_4 w4 =>
 DoV Tryd.prog (Instr.alloc 118 true (.tuple #[])) w4 (fun t4_5 w5 =>
 DoV Tryd.prog (Instr.alloc 118 true (.tuple #[])) w5 (fun t5_6 w6 =>
 DoV Tryd.prog (Instr.alloc 118 true (.tuple #[])) w6 (fun t6_7 w7 =>
 DoU Tryd.prog (Instr.storeAt 118 t4_5 t9_2) w7 (fun _ w8 =>
 DoU Tryd.prog (Instr.storeAt 118 t5_6 t10_3) w8 (fun _ w9 =>
 DoU Tryd.prog (Instr.storeAt 118 t6_7 t11_4) w9 (fun _ w10 =>
 DoV Tryd.prog (Instr.build 118 #[(0, (Value.int IntKind.i64 0)), (1, (Value.int IntKind.i64 100000))]) w10 (fun t12_11 w11 =>
 DoV Tryd.prog (Instr.alloc 118 true (.tuple #[])) w11 (fun t7_12 w12 =>
 DoU Tryd.prog (Instr.storeAt 118 t7_12 t12_11) w12 (fun _ w13 =>
 JoinE [] (fun K14 =>
 DoV Tryd.prog (binS BinOp.eql 3 (Operand.tmp 13) (Operand.const (Value.int IntKind.i64 1)) v0 (Value.int IntKind.i64 1)) w13 (fun t15_15 w15 =>
 Br t15_15
(DrawE w15 (fun Rs16 Rb16 w16 =>
 DetOp Rb16 Rs16 w16 (fun w17 K17 => CallF Tryd.prog 101 #[] w17 K17 (Pan R)) (fun c16_17 ψ17 =>
 DetOp Rb16 Rs16 w16 (fun w18 K18 => CallF Tryd.prog 101 #[] w18 K18 (Pan R)) (fun c17_18 ψ18 =>
 DetOp Rb16 Rs16 w16 (fun w19 K19 => DoV Tryd.prog (Instr.loadAt 118 t6_7) w19 K19 (Pan R)) (fun c18_19 ψ19 =>
 DetOp Rb16 Rs16 w16 (fun w20 K20 => DoV Tryd.prog (Instr.build 118 #[(0, (Value.int IntKind.i64 0)), (1, (Value.int IntKind.i64 100000))]) w20 K20 (Pan R)) (fun c19_20 ψ20 =>
 DetOp Rb16 Rs16 w16 (fun w21 K21 => DoV Tryd.prog (Instr.loadAt 118 t7_12) w21 K21 (Pan R)) (fun c20_21 ψ21 =>
 DetOp Rb16 Rs16 w16 (fun w22 K22 => DoV Tryd.prog (Instr.loadAt 118 t7_12) w22 K22 (Pan R)) (fun c21_22 ψ22 =>
 DetOp Rb16 Rs16 w16 (fun w23 K23 => DoV Tryd.prog (Instr.build 118 #[(0, (Value.int IntKind.i64 (-1000))), (1, (Value.int IntKind.i64 1000))]) w23 K23 (Pan R)) (fun c22_23 ψ23 =>
 DetOp Rb16 Rs16 w16 (fun w24 K24 => DoV Tryd.prog (Instr.build 118 #[(0, (Value.int IntKind.i64 0)), (1, (Value.int IntKind.i64 10000))]) w24 K24 (Pan R)) (fun c23_24 ψ24 =>
 DetOp Rb16 Rs16 w16 (fun w25 K25 => DoV Tryd.prog (Instr.build 118 #[(0, (Value.int IntKind.i64 0)), (1, (Value.int IntKind.i64 1000000000))]) w25 K25 (Pan R)) (fun c24_25 ψ25 =>
 DetOp Rs16 Rb16 w16 (fun w26 K26 => CallF Tryd.prog 101 #[] w26 K26 (Pan R)) (fun c25_26 ψ26 =>
 ∀ w27, Rb16 w16 w27 → ((((((((((True ∧ ψ17 w27) ∧ ψ18 w27) ∧ ψ19 w27) ∧ ψ20 w27) ∧ ψ21 w27) ∧ ψ22 w27) ∧ ψ23 w27) ∧ ψ24 w27) ∧ ψ25 w27) ∧ ψ26 w27) →
 DoV Tryd.prog (Instr.build 120 #[(0, c16_17), (1, c17_18), (2, c18_19), (3, c19_20), (4, c20_21), (5, c21_22), (6, c22_23), (7, c23_24), (8, c24_25), (9, c25_26)]) w27 (fun t26_28 w28 =>
 DoU Tryd.prog (Instr.storeAt 120 t2_1 t26_28) w28 (fun _ w29 =>
 Res Tryd.prog [.cell t2_1 120, .tmp (Value.bool true)] w29 R) (Pan R)) (Pan R)))))))))))))
(DoV Tryd.prog (binS BinOp.eql 3 (Operand.tmp 13) (Operand.const (Value.int IntKind.i64 2)) v0 (Value.int IntKind.i64 2)) w15 (fun t28_30 w30 =>
 Br t28_30
(DoV Tryd.prog (Instr.build 118 #[(0, (Value.int IntKind.i64 (-100000))), (1, (Value.int IntKind.i64 100000))]) w30 (fun t29_31 w31 =>
 DoV Tryd.prog (Instr.alloc 118 true (.tuple #[])) w31 (fun t8_32 w32 =>
 DoU Tryd.prog (Instr.storeAt 118 t8_32 t29_31) w32 (fun _ w33 =>
 DrawE w33 (fun Rs34 Rb34 w34 =>
 DetOp Rb34 Rs34 w34 (fun w35 K35 => DoV Tryd.prog (Instr.loadAt 118 t4_5) w35 K35 (Pan R)) (fun c30_35 ψ35 =>
 DetOp Rb34 Rs34 w34 (fun w36 K36 => CallF Tryd.prog 101 #[] w36 K36 (Pan R)) (fun c31_36 ψ36 =>
 DetOp Rb34 Rs34 w34 (fun w37 K37 => CallF Tryd.prog 101 #[] w37 K37 (Pan R)) (fun c32_37 ψ37 =>
 DetOp Rs34 Rb34 w34 (fun w38 K38 => CallF Tryd.prog 101 #[] w38 K38 (Pan R)) (fun c33_38 ψ38 =>
 DetOp Rb34 Rs34 w34 (fun w39 K39 => DoV Tryd.prog (Instr.loadAt 118 t8_32) w39 K39 (Pan R)) (fun c34_39 ψ39 =>
 DetOp Rb34 Rs34 w34 (fun w40 K40 => DoV Tryd.prog (Instr.loadAt 118 t8_32) w40 K40 (Pan R)) (fun c35_40 ψ40 =>
 ∀ w41, Rb34 w34 w41 → ((((((True ∧ ψ35 w41) ∧ ψ36 w41) ∧ ψ37 w41) ∧ ψ38 w41) ∧ ψ39 w41) ∧ ψ40 w41) →
 DoV Tryd.prog (Instr.build 120 #[(0, c30_35), (1, c31_36), (2, c32_37), (3, c33_38), (4, c34_39), (5, c35_40)]) w41 (fun t36_42 w42 =>
 DoU Tryd.prog (Instr.storeAt 120 t2_1 t36_42) w42 (fun _ w43 =>
 Res Tryd.prog [.cell t2_1 120, .tmp (Value.bool true)] w43 R) (Pan R)) (Pan R))))))))) (Pan R)) (Pan R)) (Pan R))
(JoinE [37] (fun K44 =>
 DoV Tryd.prog (binS BinOp.eql 3 (Operand.tmp 13) (Operand.const (Value.int IntKind.i64 3)) v0 (Value.int IntKind.i64 3)) w30 (fun t38_45 w45 =>
 Br t38_45
(K44 [t38_45] w45)
(DoV Tryd.prog (binS BinOp.eql 3 (Operand.tmp 13) (Operand.const (Value.int IntKind.i64 7)) v0 (Value.int IntKind.i64 7)) w45 (fun t39_46 w46 =>
 Br t39_46
(K44 [t39_46] w46)
(DoV Tryd.prog (binS BinOp.eql 3 (Operand.tmp 13) (Operand.const (Value.int IntKind.i64 6)) v0 (Value.int IntKind.i64 6)) w46 (fun t40_47 w47 =>
 K44 [t40_47] w47) (Pan R))) (Pan R))) (Pan R))
(fun h48 w48 =>
 Br (h48 37)
(DrawE w48 (fun Rs49 Rb49 w49 =>
 DetOp Rb49 Rs49 w49 (fun w50 K50 => DoV Tryd.prog (Instr.loadAt 118 t4_5) w50 K50 (Pan R)) (fun c41_50 ψ50 =>
 DetOp Rb49 Rs49 w49 (fun w51 K51 => DoV Tryd.prog (Instr.loadAt 118 t5_6) w51 K51 (Pan R)) (fun c42_51 ψ51 =>
 DetOp Rb49 Rs49 w49 (fun w52 K52 => CallF Tryd.prog 101 #[] w52 K52 (Pan R)) (fun c43_52 ψ52 =>
 DetOp Rs49 Rb49 w49 (fun w53 K53 => CallF Tryd.prog 101 #[] w53 K53 (Pan R)) (fun c44_53 ψ53 =>
 DetOp Rb49 Rs49 w49 (fun w54 K54 => DoV Tryd.prog (Instr.loadAt 118 t7_12) w54 K54 (Pan R)) (fun c45_54 ψ54 =>
 DetOp Rb49 Rs49 w49 (fun w55 K55 => DoV Tryd.prog (Instr.loadAt 118 t7_12) w55 K55 (Pan R)) (fun c46_55 ψ55 =>
 ∀ w56, Rb49 w49 w56 → ((((((True ∧ ψ50 w56) ∧ ψ51 w56) ∧ ψ52 w56) ∧ ψ53 w56) ∧ ψ54 w56) ∧ ψ55 w56) →
 DoV Tryd.prog (Instr.build 120 #[(0, c41_50), (1, c42_51), (2, c43_52), (3, c44_53), (4, c45_54), (5, c46_55)]) w56 (fun t47_57 w57 =>
 DoU Tryd.prog (Instr.storeAt 120 t2_1 t47_57) w57 (fun _ w58 =>
 Res Tryd.prog [.cell t2_1 120, .tmp (Value.bool true)] w58 R) (Pan R)) (Pan R)))))))))
(DoV Tryd.prog (binS BinOp.eql 3 (Operand.tmp 13) (Operand.const (Value.int IntKind.i64 4)) v0 (Value.int IntKind.i64 4)) w48 (fun t49_59 w59 =>
 Br t49_59
(DoV Tryd.prog (Instr.loadAt 118 t4_5) w59 (fun t50_60 w60 =>
 DoV Tryd.prog (Instr.loadAt 118 t5_6) w60 (fun t51_61 w61 =>
 DoV Tryd.prog (Instr.loadAt 118 t6_7) w61 (fun t52_62 w62 =>
 DoV Tryd.prog (Instr.build 118 #[(0, (Value.int IntKind.i64 0)), (1, (Value.int IntKind.i64 31))]) w62 (fun t53_63 w63 =>
 DoV Tryd.prog (Instr.build 120 #[(0, t50_60), (1, t51_61), (2, t52_62), (3, t53_63)]) w63 (fun t54_64 w64 =>
 DoU Tryd.prog (Instr.storeAt 120 t2_1 t54_64) w64 (fun _ w65 =>
 Res Tryd.prog [.cell t2_1 120, .tmp (Value.bool true)] w65 R) (Pan R)) (Pan R)) (Pan R)) (Pan R)) (Pan R)) (Pan R))
(DoV Tryd.prog (binS BinOp.eql 3 (Operand.tmp 13) (Operand.const (Value.int IntKind.i64 5)) v0 (Value.int IntKind.i64 5)) w59 (fun t56_66 w66 =>
 Br t56_66
(DrawE w66 (fun Rs67 Rb67 w67 =>
 DetOp Rb67 Rs67 w67 (fun w68 K68 => DoV Tryd.prog (Instr.loadAt 118 t4_5) w68 K68 (Pan R)) (fun c57_68 ψ68 =>
 DetOp Rb67 Rs67 w67 (fun w69 K69 => DoV Tryd.prog (Instr.loadAt 118 t5_6) w69 K69 (Pan R)) (fun c58_69 ψ69 =>
 DetOp Rb67 Rs67 w67 (fun w70 K70 => CallF Tryd.prog 101 #[] w70 K70 (Pan R)) (fun c59_70 ψ70 =>
 DetOp Rb67 Rs67 w67 (fun w71 K71 => CallF Tryd.prog 101 #[] w71 K71 (Pan R)) (fun c60_71 ψ71 =>
 DetOp Rs67 Rb67 w67 (fun w72 K72 => CallF Tryd.prog 101 #[] w72 K72 (Pan R)) (fun c61_72 ψ72 =>
 DetOp Rb67 Rs67 w67 (fun w73 K73 => DoV Tryd.prog (Instr.loadAt 118 t7_12) w73 K73 (Pan R)) (fun c62_73 ψ73 =>
 ∀ w74, Rb67 w67 w74 → ((((((True ∧ ψ68 w74) ∧ ψ69 w74) ∧ ψ70 w74) ∧ ψ71 w74) ∧ ψ72 w74) ∧ ψ73 w74) →
 DoV Tryd.prog (Instr.build 120 #[(0, c57_68), (1, c58_69), (2, c59_70), (3, c60_71), (4, c61_72), (5, c62_73)]) w74 (fun t63_75 w75 =>
 DoU Tryd.prog (Instr.storeAt 120 t2_1 t63_75) w75 (fun _ w76 =>
 Res Tryd.prog [.cell t2_1 120, .tmp (Value.bool true)] w76 R) (Pan R)) (Pan R)))))))))
(K14 [] w66)) (Pan R))) (Pan R))))) (Pan R))) (Pan R))
(fun _ w77 =>
 DoV Tryd.prog (Instr.build 120 #[]) w77 (fun t64_78 w78 =>
 DoU Tryd.prog (Instr.storeAt 120 t2_1 t64_78) w78 (fun _ w79 =>
 Res Tryd.prog [.cell t2_1 120, .tmp (Value.bool false)] w79 R) (Pan R)) (Pan R))) (Pan R)) (Pan R)) (Pan R)) (Pan R)) (Pan R)) (Pan R)) (Pan R)) (Pan R)) (Pan R)) (Pan R)) (Pan R)) (Pan R)) (Pan R))
theorem sh_report_of_eq (v0 : Value) (R : Ending → World → Prop) (w : World) : vc Tryd.prog [(5, 10, false, 10), (8, 6, false, 4), (12, 6, false, 4), (16, 6, false, 5)] [] (Tryd.f92.body.getD .skip) (endE Tryd.prog Tryd.f92.results R) (argsE [v0]) [] w = sh_report_of v0 R w := by kernel_rfl
theorem sh_report_of_ok (v0 : Value) {R : Ending → World → Prop} {w : World} (h : sh_report_of v0 R w) : Calls Tryd.prog 92 #[v0] w R :=
  calls_of_vc (args := [v0]) [(5, 10, false, 10), (8, 6, false, 4), (12, 6, false, 4), (16, 6, false, 5)] [] follows_mixed Tryd.func92 rfl (of_decide_eq_true (by kernel_rfl)) (by kernel_rfl) ((sh_report_of_eq v0 R w).symm ▸ h)
/- landfall/landfallref03.Valid -/
def sh_landfallref03_Valid (v0 : Value) (R : Ending → World → Prop) (w : World) : Prop := (
 CallB Tryd.prog Builtin.len #[110] 3 #[false] #[v0] w (fun t8_1 w1 =>
 JoinE [] (fun K2 =>
 JoinE [19] (fun K3 =>
 DoV Tryd.prog (binS BinOp.lss 3 (Operand.tmp 9) (Operand.const (Value.int IntKind.i64 1)) t8_1 (Value.int IntKind.i64 1)) w1 (fun t10_4 w4 =>
 Gd t10_4 false (DoV Tryd.prog (binS BinOp.gtr 3 (Operand.tmp 12) (Operand.const (Value.int IntKind.i64 64)) t8_1 (Value.int IntKind.i64 64)) w4 (fun t13_5 w5 =>
 Gd t13_5 false (CallF Tryd.prog 102 #[v0] w5 (fun t17_6 w6 =>
 DoV Tryd.prog (Op.unary UnOp.not t17_6) w6 (fun t18_7 w7 =>
 K3 [t18_7] w7) (Pan R)) (Pan R))
(K3 [(Value.bool true)] w5)) (Pan R))
(K3 [(Value.bool true)] w4)) (Pan R))
(fun h8 w8 =>
 Br (h8 19)
(R (.returned (Value.bool false)) w8)
(K2 [] w8)))
(fun _ w9 =>
 LoopE [4] [(Value.int IntKind.i64 1)] w9 (fun h10 w10 K10 =>
 DoV Tryd.prog (binS BinOp.lss 3 (Operand.tmp 20) (Operand.tmp 21) (h10 4) t8_1) w10 (fun t22_11 w11 =>
 Br t22_11
(DrawE w11 (fun Rs12 Rb12 w12 =>
 DetOp Rb12 Rs12 w12 (fun w13 K13 => DoV Tryd.prog (Instr.indexAt 110 v0 (Value.int IntKind.i64 0)) w13 K13 (Pan R)) (fun c26_13 ψ13 =>
 DetOp Rb12 Rs12 w12 (fun w14 K14 => DoV Tryd.prog (Instr.loadAt 109 c26_13) w14 K14 (Pan R)) (fun c27_14 ψ14 =>
 DetOp Rb12 Rs12 w12 (fun w15 K15 => DoV Tryd.prog (Instr.indexAt 110 v0 (h10 4)) w15 K15 (Pan R)) (fun c30_15 ψ15 =>
 DetOp Rb12 Rs12 w12 (fun w16 K16 => DoV Tryd.prog (Instr.loadAt 109 c30_15) w16 K16 (Pan R)) (fun c31_16 ψ16 =>
 ∀ w17, Rb12 w12 w17 → ((((True ∧ ψ13 w17) ∧ ψ14 w17) ∧ ψ15 w17) ∧ ψ16 w17) →
 CallF Tryd.prog 103 #[c27_14, c31_16] w17 (fun t32_18 w18 =>
 DoV Tryd.prog (Op.unary UnOp.not t32_18) w18 (fun t33_19 w19 =>
 Br t33_19
(R (.returned (Value.bool false)) w19)
(DoV Tryd.prog (binS BinOp.add 3 (Operand.tmp 23) (Operand.const (Value.int IntKind.i64 1)) (h10 4) (Value.int IntKind.i64 1)) w19 (fun t24_20 w20 =>
 K10 [t24_20] w20) (Pan R))) (Pan R)) (Pan R)))))))
(LoopE [5, 6] [(Value.int IntKind.i64 0), undef] w11 (fun h21 w21 K21 =>
 JoinE [] (fun K22 =>
 DoV Tryd.prog (binS BinOp.lss 3 (Operand.tmp 34) (Operand.tmp 35) (h21 5) t8_1) w21 (fun t36_23 w23 =>
 Gd t36_23 true (DoV Tryd.prog (binS BinOp.gtr 3 (Operand.tmp 38) (Operand.const (Value.int IntKind.i64 2)) t8_1 (Value.int IntKind.i64 2)) w23 (fun t39_24 w24 =>
 Br t39_24
(K22 [] w24)
(R (.returned (Value.bool true)) w24)) (Pan R))
(R (.returned (Value.bool true)) w23)) (Pan R))
(fun _ w25 =>
 LoopE [6] [(Value.int IntKind.i64 0)] w25 (fun h26 w26 K26 =>
 DoV Tryd.prog (binS BinOp.lss 3 (Operand.tmp 43) (Operand.tmp 44) (h26 6) t8_1) w26 (fun t45_27 w27 =>
 Br t45_27
(JoinE [] (fun K28 =>
 JoinE [77] (fun K29 =>
 DrawE w27 (fun Rs30 Rb30 w30 =>
 DetOp Rb30 Rs30 w30 (fun w31 K31 => DoV Tryd.prog (binS BinOp.neq 3 (Operand.tmp 48) (Operand.tmp 49) (h26 6) (h21 5)) w31 K31 (Pan R)) (fun c50_31 ψ31 =>
 Gd c50_31 true (DetOp Rb30 Rs30 w30 (fun w32 K32 => DoV Tryd.prog (binS BinOp.add 3 (Operand.tmp 53) (Operand.const (Value.int IntKind.i64 1)) (h21 5) (Value.int IntKind.i64 1)) w32 K32 (Pan R)) (fun c54_32 ψ32 =>
 DetOp Rb30 Rs30 w30 (fun w33 K33 => DoV Tryd.prog (binS BinOp.rem 3 (Operand.tmp 54) (Operand.tmp 55) c54_32 t8_1) w33 K33 (Pan R)) (fun c56_33 ψ33 =>
 DetOp Rb30 Rs30 w30 (fun w34 K34 => DoV Tryd.prog (binS BinOp.neq 3 (Operand.tmp 52) (Operand.tmp 56) (h26 6) c56_33) w34 K34 (Pan R)) (fun c57_34 ψ34 =>
 Gd c57_34 true (DetOp Rb30 Rs30 w30 (fun w35 K35 => DoV Tryd.prog (Instr.indexAt 110 v0 (h21 5)) w35 K35 (Pan R)) (fun c62_35 ψ35 =>
 DetOp Rb30 Rs30 w30 (fun w36 K36 => DoV Tryd.prog (Instr.loadAt 109 c62_35) w36 K36 (Pan R)) (fun c63_36 ψ36 =>
 DetOp Rb30 Rs30 w30 (fun w37 K37 => DoV Tryd.prog (binS BinOp.add 3 (Operand.tmp 65) (Operand.const (Value.int IntKind.i64 1)) (h21 5) (Value.int IntKind.i64 1)) w37 K37 (Pan R)) (fun c66_37 ψ37 =>
 DetOp Rb30 Rs30 w30 (fun w38 K38 => DoV Tryd.prog (binS BinOp.rem 3 (Operand.tmp 66) (Operand.tmp 67) c66_37 t8_1) w38 K38 (Pan R)) (fun c68_38 ψ38 =>
 DetOp Rb30 Rs30 w30 (fun w39 K39 => DoV Tryd.prog (Instr.indexAt 110 v0 c68_38) w39 K39 (Pan R)) (fun c69_39 ψ39 =>
 DetOp Rb30 Rs30 w30 (fun w40 K40 => DoV Tryd.prog (Instr.loadAt 109 c69_39) w40 K40 (Pan R)) (fun c70_40 ψ40 =>
 DetOp Rb30 Rs30 w30 (fun w41 K41 => DoV Tryd.prog (Instr.indexAt 110 v0 (h26 6)) w41 K41 (Pan R)) (fun c73_41 ψ41 =>
 DetOp Rb30 Rs30 w30 (fun w42 K42 => DoV Tryd.prog (Instr.loadAt 109 c73_41) w42 K42 (Pan R)) (fun c74_42 ψ42 =>
 ∀ w43, Rb30 w30 w43 → ((((((((((((True ∧ ψ31 w43) ∧ ψ32 w43) ∧ ψ33 w43) ∧ ψ34 w43) ∧ ψ35 w43) ∧ ψ36 w43) ∧ ψ37 w43) ∧ ψ38 w43) ∧ ψ39 w43) ∧ ψ40 w43) ∧ ψ41 w43) ∧ ψ42 w43) →
 CallF Tryd.prog 104 #[c63_36, c70_40, c74_42] w43 (fun t75_44 w44 =>
 DoV Tryd.prog (binS BinOp.leq 3 (Operand.tmp 75) (Operand.const (Value.int IntKind.i64 0)) t75_44 (Value.int IntKind.i64 0)) w44 (fun t76_45 w45 =>
 K29 [t76_45] w45) (Pan R)) (Pan R))))))))))
(∀ w46, Rb30 w30 w46 → ((((True ∧ ψ31 w46) ∧ ψ32 w46) ∧ ψ33 w46) ∧ ψ34 w46) →
 K29 [(Value.bool false)] w46)))))
(∀ w47, Rb30 w30 w47 → (True ∧ ψ31 w47) →
 K29 [(Value.bool false)] w47))))
(fun h48 w48 =>
 Br (h48 77)
(R (.returned (Value.bool false)) w48)
(K28 [] w48)))
(fun _ w49 =>
 DoV Tryd.prog (binS BinOp.add 3 (Operand.tmp 46) (Operand.const (Value.int IntKind.i64 1)) (h26 6) (Value.int IntKind.i64 1)) w49 (fun t47_50 w50 =>
 K26 [t47_50] w50) (Pan R)))
(DoV Tryd.prog (binS BinOp.add 3 (Operand.tmp 41) (Operand.const (Value.int IntKind.i64 1)) (h21 5) (Value.int IntKind.i64 1)) w27 (fun t42_51 w51 =>
 K21 [t42_51, (h26 6)] w51) (Pan R))) (Pan R)))))) (Pan R)))) (Pan R))
theorem sh_landfallref03_Valid_eq (v0 : Value) (R : Ending → World → Prop) (w : World) : vc Tryd.prog [(7, 7, false, 0), (15, 27, false, 0)] [4, 5, 6] (Tryd.f93.body.getD .skip) (endE Tryd.prog Tryd.f93.results R) (argsE [v0]) [] w = sh_landfallref03_Valid v0 R w := by kernel_rfl
theorem sh_landfallref03_Valid_ok (v0 : Value) {R : Ending → World → Prop} {w : World} (h : sh_landfallref03_Valid v0 R w) : Calls Tryd.prog 93 #[v0] w R :=
  calls_of_vc (args := [v0]) [(7, 7, false, 0), (15, 27, false, 0)] [4, 5, 6] follows_mixed Tryd.func93 rfl (of_decide_eq_true (by kernel_rfl)) (by kernel_rfl) ((sh_landfallref03_Valid_eq v0 R w).symm ▸ h)
/- slices.IndexFunc[[][]landfall/api.Point,[]landfall/api.Point] -/
def sh_slices_IndexFunc_____api_Point___api_Point_ (v0 v1 : Value) (R : Ending → World → Prop) (w : World) : Prop := (
 CallB Tryd.prog Builtin.len #[46] 3 #[false] #[v0] w (fun t7_1 w1 =>
 LoopE [8] [(Value.int IntKind.i64 0)] w1 (fun h2 w2 K2 =>
 DoV Tryd.prog (binS BinOp.lss 3 (Operand.tmp 8) (Operand.tmp 7) (h2 8) t7_1) w2 (fun t9_3 w3 =>
 Br t9_3
(DoV Tryd.prog (Instr.indexAt 46 v0 (h2 8)) w3 (fun t14_4 w4 =>
 DoV Tryd.prog (Instr.loadAt 110 t14_4) w4 (fun t15_5 w5 =>
 CallV Tryd.prog v1 #[t15_5] w5 (fun t16_6 w6 =>
 Br t16_6
(R (.returned (h2 8)) w6)
(DoV Tryd.prog (binS BinOp.add 3 (Operand.tmp 8) (Operand.const (Value.int IntKind.i64 1)) (h2 8) (Value.int IntKind.i64 1)) w6 (fun t18_7 w7 =>
 K2 [t18_7] w7) (Pan R))) (Pan R)) (Pan R)) (Pan R))
(R (.returned (Value.int IntKind.i64 (-1))) w3)) (Pan R))) (Pan R))
theorem sh_slices_IndexFunc_____api_Point___api_Point__eq (v0 v1 : Value) (R : Ending → World → Prop) (w : World) : vc Tryd.prog [] [8] (Tryd.f96.body.getD .skip) (endE Tryd.prog Tryd.f96.results R) (argsE [v0, v1]) [] w = sh_slices_IndexFunc_____api_Point___api_Point_ v0 v1 R w := by kernel_rfl
theorem sh_slices_IndexFunc_____api_Point___api_Point__ok (v0 v1 : Value) {R : Ending → World → Prop} {w : World} (h : sh_slices_IndexFunc_____api_Point___api_Point_ v0 v1 R w) : Calls Tryd.prog 96 #[v0, v1] w R :=
  calls_of_vc (args := [v0, v1]) [] [8] follows_mixed Tryd.func96 rfl (of_decide_eq_true (by kernel_rfl)) (by kernel_rfl) ((sh_slices_IndexFunc_____api_Point___api_Point__eq v0 v1 R w).symm ▸ h)
/- landfall/hull.isPlace -/
def sh_hull_isPlace (v0 : Value) (R : Ending → World → Prop) (w : World) : Prop := (
 DoV Tryd.prog (Instr.box 109 v0) w (fun t1_1 w1 =>
 DoV Tryd.prog (Instr.fieldAt 109 t1_1 0) w1 (fun t3_2 w2 =>
 DoV Tryd.prog (Instr.loadAt 3 t3_2) w2 (fun t4_3 w3 =>
 DoV Tryd.prog (Instr.fieldAt 109 t1_1 0) w3 (fun t5_4 w4 =>
 DoV Tryd.prog (Instr.loadAt 3 t5_4) w4 (fun t6_5 w5 =>
 DoV Tryd.prog (Op.unary UnOp.neg t6_5) w5 (fun t7_6 w6 =>
 DoV Tryd.prog (Instr.fieldAt 109 t1_1 1) w6 (fun t8_7 w7 =>
 DoV Tryd.prog (Instr.loadAt 3 t8_7) w7 (fun t9_8 w8 =>
 DoV Tryd.prog (Instr.fieldAt 109 t1_1 1) w8 (fun t10_9 w9 =>
 DoV Tryd.prog (Instr.loadAt 3 t10_9) w9 (fun t11_10 w10 =>
 DoV Tryd.prog (Op.unary UnOp.neg t11_10) w10 (fun t12_11 w11 =>
 CallB Tryd.prog Builtin.max #[3, 3, 3, 3] 3 #[false, false, false, false] #[t4_3, t7_6, t9_8, t12_11] w11 (fun t13_12 w12 =>
 DoV Tryd.prog (binS BinOp.leq 3 (Operand.tmp 13) (Operand.const (Value.int IntKind.i64 500000)) t13_12 (Value.int IntKind.i64 500000)) w12 (fun t14_13 w13 =>
 Gd t14_13 true (DoV Tryd.prog (Instr.fieldAt 109 t1_1 0) w13 (fun t16_14 w14 =>
 DoV Tryd.prog (Instr.loadAt 3 t16_14) w14 (fun t17_15 w15 =>
 DoV Tryd.prog (Instr.fieldAt 109 t1_1 1) w15 (fun t18_16 w16 =>
 DoV Tryd.prog (Instr.loadAt 3 t18_16) w16 (fun t19_17 w17 =>
 CallB Tryd.prog Builtin.min #[3, 3] 3 #[false, false] #[t17_15, t19_17] w17 (fun t20_18 w18 =>
 DoV Tryd.prog (binS BinOp.geq 3 (Operand.tmp 20) (Operand.const (Value.int IntKind.i64 (-500000))) t20_18 (Value.int IntKind.i64 (-500000))) w18 (fun t21_19 w19 =>
 R (.returned t21_19) w19) (Pan R)) (Pan R)) (Pan R)) (Pan R)) (Pan R)) (Pan R))
(R (.returned (Value.bool false)) w13)) (Pan R)) (Pan R)) (Pan R)) (Pan R)) (Pan R)) (Pan R)) (Pan R)) (Pan R)) (Pan R)) (Pan R)) (Pan R)) (Pan R)) (Pan R))
theorem sh_hull_isPlace_eq (v0 : Value) (R : Ending → World → Prop) (w : World) : vc Tryd.prog [] [] (Tryd.f97.body.getD .skip) (endE Tryd.prog Tryd.f97.results R) (argsE [v0]) [] w = sh_hull_isPlace v0 R w := by kernel_rfl
theorem sh_hull_isPlace_ok (v0 : Value) {R : Ending → World → Prop} {w : World} (h : sh_hull_isPlace v0 R w) : Calls Tryd.prog 97 #[v0] w R :=
  calls_of_vc (args := [v0]) [] [] follows_mixed Tryd.func97 rfl (of_decide_eq_true (by kernel_rfl)) (by kernel_rfl) ((sh_hull_isPlace_eq v0 R w).symm ▸ h)
/- landfall/hull.compare -/
def sh_hull_compare (v0 v1 : Value) (R : Ending → World → Prop) (w : World) : Prop := (
 DoV Tryd.prog (Instr.box 109 v0) w (fun t2_1 w1 =>
 DoV Tryd.prog (Instr.box 109 v1) w1 (fun t3_2 w2 =>
 DrawE w2 (fun Rs3 Rb3 w3 =>
 DetOp Rb3 Rs3 w3 (fun w4 K4 => DoV Tryd.prog (Instr.fieldAt 109 t2_1 0) w4 K4 (Pan R)) (fun c5_4 ψ4 =>
 DetOp Rb3 Rs3 w3 (fun w5 K5 => DoV Tryd.prog (Instr.loadAt 3 c5_4) w5 K5 (Pan R)) (fun c6_5 ψ5 =>
 DetOp Rb3 Rs3 w3 (fun w6 K6 => DoV Tryd.prog (Instr.fieldAt 109 t3_2 0) w6 K6 (Pan R)) (fun c7_6 ψ6 =>
 DetOp Rb3 Rs3 w3 (fun w7 K7 => DoV Tryd.prog (Instr.loadAt 3 c7_6) w7 K7 (Pan R)) (fun c8_7 ψ7 =>
 DetOp Rs3 Rb3 w3 (fun w8 K8 => CallF Tryd.prog 110 #[c6_5, c8_7] w8 K8 (Pan R)) (fun c9_8 ψ8 =>
 DetOp Rb3 Rs3 w3 (fun w9 K9 => DoV Tryd.prog (Instr.fieldAt 109 t2_1 1) w9 K9 (Pan R)) (fun c10_9 ψ9 =>
 DetOp Rb3 Rs3 w3 (fun w10 K10 => DoV Tryd.prog (Instr.loadAt 3 c10_9) w10 K10 (Pan R)) (fun c11_10 ψ10 =>
 DetOp Rb3 Rs3 w3 (fun w11 K11 => DoV Tryd.prog (Instr.fieldAt 109 t3_2 1) w11 K11 (Pan R)) (fun c12_11 ψ11 =>
 DetOp Rb3 Rs3 w3 (fun w12 K12 => DoV Tryd.prog (Instr.loadAt 3 c12_11) w12 K12 (Pan R)) (fun c13_12 ψ12 =>
 ∀ w13, Rb3 w3 w13 → (((((((((True ∧ ψ4 w13) ∧ ψ5 w13) ∧ ψ6 w13) ∧ ψ7 w13) ∧ ψ8 w13) ∧ ψ9 w13) ∧ ψ10 w13) ∧ ψ11 w13) ∧ ψ12 w13) →
 CallF Tryd.prog 110 #[c11_10, c13_12] w13 (fun t14_14 w14 =>
 DoV Tryd.prog (Instr.buildSlice 24 2 #[(0, c9_8), (1, t14_14)]) w14 (fun t15_15 w15 =>
 CallF Tryd.prog 109 #[t15_15] w15 (fun t16_16 w16 =>
 R (.returned t16_16) w16) (Pan R)) (Pan R)) (Pan R)))))))))))) (Pan R)) (Pan R))
theorem sh_hull_compare_eq (v0 v1 : Value) (R : Ending → World → Prop) (w : World) : vc Tryd.prog [(1, 9, false, 5)] [] (Tryd.f98.body.getD .skip) (endE Tryd.prog Tryd.f98.results R) (argsE [v0, v1]) [] w = sh_hull_compare v0 v1 R w := by kernel_rfl
theorem sh_hull_compare_ok (v0 v1 : Value) {R : Ending → World → Prop} {w : World} (h : sh_hull_compare v0 v1 R w) : Calls Tryd.prog 98 #[v0, v1] w R :=
  calls_of_vc (args := [v0, v1]) [(1, 9, false, 5)] [] follows_mixed Tryd.func98 rfl (of_decide_eq_true (by kernel_rfl)) (by kernel_rfl) ((sh_hull_compare_eq v0 v1 R w).symm ▸ h)
/- landfall/hull.sides -/
def sh_hull_sides (v0 : Value) (R : Ending → World → Prop) (w : World) : Prop := (
 DoV Tryd.prog (Instr.box 110 v0) w (fun t1_1 w1 =>
 DoV Tryd.prog (Instr.makeFunc (Fn.func 111) #[] #[t1_1]) w1 (fun t3_2 w2 =>
 R (.returned t3_2) w2) (Pan R)) (Pan R))
theorem sh_hull_sides_eq (v0 : Value) (R : Ending → World → Prop) (w : World) : vc Tryd.prog [] [] (Tryd.f99.body.getD .skip) (endE Tryd.prog Tryd.f99.results R) (argsE [v0]) [] w = sh_hull_sides v0 R w := by kernel_rfl
theorem sh_hull_sides_ok (v0 : Value) {R : Ending → World → Prop} {w : World} (h : sh_hull_sides v0 R w) : Calls Tryd.prog 99 #[v0] w R :=
  calls_of_vc (args := [v0]) [] [] follows_mixed Tryd.func99 rfl (of_decide_eq_true (by kernel_rfl)) (by kernel_rfl) ((sh_hull_sides_eq v0 R w).symm ▸ h)
/- landfall/hull.turn -/
def sh_hull_turn (v0 v1 v2 : Value) (R : Ending → World → Prop) (w : World) : Prop := (
 DoV Tryd.prog (Instr.box 109 v0) w (fun t3_1 w1 =>
 DoV Tryd.prog (Instr.box 109 v1) w1 (fun t4_2 w2 =>
 DoV Tryd.prog (Instr.box 109 v2) w2 (fun t5_3 w3 =>
 DoV Tryd.prog (Instr.fieldAt 109 t4_2 0) w3 (fun t7_4 w4 =>
 DoV Tryd.prog (Instr.loadAt 3 t7_4) w4 (fun t8_5 w5 =>
 DoV Tryd.prog (Instr.fieldAt 109 t3_1 0) w5 (fun t9_6 w6 =>
 DoV Tryd.prog (Instr.loadAt 3 t9_6) w6 (fun t10_7 w7 =>
 DoV Tryd.prog (binS BinOp.sub 3 (Operand.tmp 8) (Operand.tmp 10) t8_5 t10_7) w7 (fun t11_8 w8 =>
 DoV Tryd.prog (Instr.fieldAt 109 t5_3 1) w8 (fun t12_9 w9 =>
 DoV Tryd.prog (Instr.loadAt 3 t12_9) w9 (fun t13_10 w10 =>
 DoV Tryd.prog (Instr.fieldAt 109 t3_1 1) w10 (fun t14_11 w11 =>
 DoV Tryd.prog (Instr.loadAt 3 t14_11) w11 (fun t15_12 w12 =>
 DoV Tryd.prog (binS BinOp.sub 3 (Operand.tmp 13) (Operand.tmp 15) t13_10 t15_12) w12 (fun t16_13 w13 =>
 DoV Tryd.prog (binS BinOp.mul 3 (Operand.tmp 11) (Operand.tmp 16) t11_8 t16_13) w13 (fun t17_14 w14 =>
 DoV Tryd.prog (Instr.fieldAt 109 t4_2 1) w14 (fun t18_15 w15 =>
 DoV Tryd.prog (Instr.loadAt 3 t18_15) w15 (fun t19_16 w16 =>
 DoV Tryd.prog (Instr.fieldAt 109 t3_1 1) w16 (fun t20_17 w17 =>
 DoV Tryd.prog (Instr.loadAt 3 t20_17) w17 (fun t21_18 w18 =>
 DoV Tryd.prog (binS BinOp.sub 3 (Operand.tmp 19) (Operand.tmp 21) t19_16 t21_18) w18 (fun t22_19 w19 =>
 DoV Tryd.prog (Instr.fieldAt 109 t5_3 0) w19 (fun t23_20 w20 =>
 DoV Tryd.prog (Instr.loadAt 3 t23_20) w20 (fun t24_21 w21 =>
 DoV Tryd.prog (Instr.fieldAt 109 t3_1 0) w21 (fun t25_22 w22 =>
 DoV Tryd.prog (Instr.loadAt 3 t25_22) w22 (fun t26_23 w23 =>
 DoV Tryd.prog (binS BinOp.sub 3 (Operand.tmp 24) (Operand.tmp 26) t24_21 t26_23) w23 (fun t27_24 w24 =>
 DoV Tryd.prog (binS BinOp.mul 3 (Operand.tmp 22) (Operand.tmp 27) t22_19 t27_24) w24 (fun t28_25 w25 =>
 DoV Tryd.prog (binS BinOp.sub 3 (Operand.tmp 17) (Operand.tmp 28) t17_14 t28_25) w25 (fun t29_26 w26 =>
 R (.returned t29_26) w26) (Pan R)) (Pan R)) (Pan R)) (Pan R)) (Pan R)) (Pan R)) (Pan R)) (Pan R)) (Pan R)) (Pan R)) (Pan R)) (Pan R)) (Pan R)) (Pan R)) (Pan R)) (Pan R)) (Pan R)) (Pan R)) (Pan R)) (Pan R)) (Pan R)) (Pan R)) (Pan R)) (Pan R)) (Pan R)) (Pan R))
theorem sh_hull_turn_eq (v0 v1 v2 : Value) (R : Ending → World → Prop) (w : World) : vc Tryd.prog [] [] (Tryd.f100.body.getD .skip) (endE Tryd.prog Tryd.f100.results R) (argsE [v0, v1, v2]) [] w = sh_hull_turn v0 v1 v2 R w := by kernel_rfl
theorem sh_hull_turn_ok (v0 v1 v2 : Value) {R : Ending → World → Prop} {w : World} (h : sh_hull_turn v0 v1 v2 R w) : Calls Tryd.prog 100 #[v0, v1, v2] w R :=
  calls_of_vc (args := [v0, v1, v2]) [] [] follows_mixed Tryd.func100 rfl (of_decide_eq_true (by kernel_rfl)) (by kernel_rfl) ((sh_hull_turn_eq v0 v1 v2 R w).symm ▸ h)
/- landfall/report.none -/
def sh_report_none (R : Ending → World → Prop) (w : World) : Prop := (
 DoV Tryd.prog (Instr.alloc 118 true (.tuple #[])) w (fun t0_1 w1 =>
 DoV Tryd.prog (Instr.build 118 #[(0, (Value.int IntKind.i64 0)), (1, (Value.int IntKind.i64 0))]) w1 (fun t1_2 w2 =>
 DoU Tryd.prog (Instr.storeAt 118 t0_1 t1_2) w2 (fun _ w3 =>
 Res Tryd.prog [.cell t0_1 118] w3 R) (Pan R)) (Pan R)) (Pan R))
theorem sh_report_none_eq (R : Ending → World → Prop) (w : World) : vc Tryd.prog [] [] (Tryd.f101.body.getD .skip) (endE Tryd.prog Tryd.f101.results R) (argsE []) [] w = sh_report_none  R w := by kernel_rfl
theorem sh_report_none_ok {R : Ending → World → Prop} {w : World} (h : sh_report_none  R w) : Calls Tryd.prog 101 #[] w R :=
  calls_of_vc (args := []) [] [] follows_mixed Tryd.func101 rfl (of_decide_eq_true (by kernel_rfl)) (by kernel_rfl) ((sh_report_none_eq  R w).symm ▸ h)
/- landfall/landfallref03.places -/
def sh_landfallref03_places (v0 : Value) (R : Ending → World → Prop) (w : World) : Prop := (
 LoopE [3] [(Value.int IntKind.i64 0)] w (fun h1 w1 K1 =>
 CallB Tryd.prog Builtin.len #[110] 3 #[false] #[v0] w1 (fun t6_2 w2 =>
 DoV Tryd.prog (binS BinOp.lss 3 (Operand.tmp 4) (Operand.tmp 6) (h1 3) t6_2) w2 (fun t7_3 w3 =>
 Br t7_3
(DoV Tryd.prog (Instr.indexAt 110 v0 (h1 3)) w3 (fun t12_4 w4 =>
 DoV Tryd.prog (Instr.loadAt 109 t12_4) w4 (fun t13_5 w5 =>
 CallF Tryd.prog 112 #[t13_5] w5 (fun t14_6 w6 =>
 DoV Tryd.prog (Op.unary UnOp.not t14_6) w6 (fun t15_7 w7 =>
 Br t15_7
(R (.returned (Value.bool false)) w7)
(DoV Tryd.prog (binS BinOp.add 3 (Operand.tmp 8) (Operand.const (Value.int IntKind.i64 1)) (h1 3) (Value.int IntKind.i64 1)) w7 (fun t9_8 w8 =>
 K1 [t9_8] w8) (Pan R))) (Pan R)) (Pan R)) (Pan R)) (Pan R))
(R (.returned (Value.bool true)) w3)) (Pan R)) (Pan R)))
theorem sh_landfallref03_places_eq (v0 : Value) (R : Ending → World → Prop) (w : World) : vc Tryd.prog [] [3] (Tryd.f102.body.getD .skip) (endE Tryd.prog Tryd.f102.results R) (argsE [v0]) [] w = sh_landfallref03_places v0 R w := by kernel_rfl
theorem sh_landfallref03_places_ok (v0 : Value) {R : Ending → World → Prop} {w : World} (h : sh_landfallref03_places v0 R w) : Calls Tryd.prog 102 #[v0] w R :=
  calls_of_vc (args := [v0]) [] [3] follows_mixed Tryd.func102 rfl (of_decide_eq_true (by kernel_rfl)) (by kernel_rfl) ((sh_landfallref03_places_eq v0 R w).symm ▸ h)
/- landfall/landfallref03.Less -/
def sh_landfallref03_Less (v0 v1 : Value) (R : Ending → World → Prop) (w : World) : Prop := (
 DoV Tryd.prog (Instr.box 109 v0) w (fun t2_1 w1 =>
 DoV Tryd.prog (Instr.box 109 v1) w1 (fun t3_2 w2 =>
 DoV Tryd.prog (Instr.fieldAt 109 t2_1 0) w2 (fun t5_3 w3 =>
 DoV Tryd.prog (Instr.loadAt 3 t5_3) w3 (fun t6_4 w4 =>
 DoV Tryd.prog (Instr.fieldAt 109 t3_2 0) w4 (fun t7_5 w5 =>
 DoV Tryd.prog (Instr.loadAt 3 t7_5) w5 (fun t8_6 w6 =>
 DoV Tryd.prog (binS BinOp.lss 3 (Operand.tmp 6) (Operand.tmp 8) t6_4 t8_6) w6 (fun t9_7 w7 =>
 Gd t9_7 false (DoV Tryd.prog (Instr.fieldAt 109 t2_1 0) w7 (fun t11_8 w8 =>
 DoV Tryd.prog (Instr.loadAt 3 t11_8) w8 (fun t12_9 w9 =>
 DoV Tryd.prog (Instr.fieldAt 109 t3_2 0) w9 (fun t13_10 w10 =>
 DoV Tryd.prog (Instr.loadAt 3 t13_10) w10 (fun t14_11 w11 =>
 DoV Tryd.prog (binS BinOp.eql 3 (Operand.tmp 12) (Operand.tmp 14) t12_9 t14_11) w11 (fun t15_12 w12 =>
 Gd t15_12 true (DoV Tryd.prog (Instr.fieldAt 109 t2_1 1) w12 (fun t17_13 w13 =>
 DoV Tryd.prog (Instr.loadAt 3 t17_13) w13 (fun t18_14 w14 =>
 DoV Tryd.prog (Instr.fieldAt 109 t3_2 1) w14 (fun t19_15 w15 =>
 DoV Tryd.prog (Instr.loadAt 3 t19_15) w15 (fun t20_16 w16 =>
 DoV Tryd.prog (binS BinOp.lss 3 (Operand.tmp 18) (Operand.tmp 20) t18_14 t20_16) w16 (fun t21_17 w17 =>
 R (.returned t21_17) w17) (Pan R)) (Pan R)) (Pan R)) (Pan R)) (Pan R))
(R (.returned (Value.bool false)) w12)) (Pan R)) (Pan R)) (Pan R)) (Pan R)) (Pan R))
(R (.returned (Value.bool true)) w7)) (Pan R)) (Pan R)) (Pan R)) (Pan R)) (Pan R)) (Pan R)) (Pan R))
theorem sh_landfallref03_Less_eq (v0 v1 : Value) (R : Ending → World → Prop) (w : World) : vc Tryd.prog [] [] (Tryd.f103.body.getD .skip) (endE Tryd.prog Tryd.f103.results R) (argsE [v0, v1]) [] w = sh_landfallref03_Less v0 v1 R w := by kernel_rfl
theorem sh_landfallref03_Less_ok (v0 v1 : Value) {R : Ending → World → Prop} {w : World} (h : sh_landfallref03_Less v0 v1 R w) : Calls Tryd.prog 103 #[v0, v1] w R :=
  calls_of_vc (args := [v0, v1]) [] [] follows_mixed Tryd.func103 rfl (of_decide_eq_true (by kernel_rfl)) (by kernel_rfl) ((sh_landfallref03_Less_eq v0 v1 R w).symm ▸ h)
/- landfall/landfallref03.Cross -/
def sh_landfallref03_Cross (v0 v1 v2 : Value) (R : Ending → World → Prop) (w : World) : Prop := (
 DoV Tryd.prog (Instr.box 109 v0) w (fun t3_1 w1 =>
 DoV Tryd.prog (Instr.box 109 v1) w1 (fun t4_2 w2 =>
 DoV Tryd.prog (Instr.box 109 v2) w2 (fun t5_3 w3 =>
 DoV Tryd.prog (Instr.fieldAt 109 t4_2 0) w3 (fun t7_4 w4 =>
 DoV Tryd.prog (Instr.loadAt 3 t7_4) w4 (fun t8_5 w5 =>
 DoV Tryd.prog (Instr.fieldAt 109 t3_1 0) w5 (fun t9_6 w6 =>
 DoV Tryd.prog (Instr.loadAt 3 t9_6) w6 (fun t10_7 w7 =>
 DoV Tryd.prog (binS BinOp.sub 3 (Operand.tmp 8) (Operand.tmp 10) t8_5 t10_7) w7 (fun t11_8 w8 =>
 DoV Tryd.prog (Instr.fieldAt 109 t5_3 1) w8 (fun t12_9 w9 =>
 DoV Tryd.prog (Instr.loadAt 3 t12_9) w9 (fun t13_10 w10 =>
 DoV Tryd.prog (Instr.fieldAt 109 t3_1 1) w10 (fun t14_11 w11 =>
 DoV Tryd.prog (Instr.loadAt 3 t14_11) w11 (fun t15_12 w12 =>
 DoV Tryd.prog (binS BinOp.sub 3 (Operand.tmp 13) (Operand.tmp 15) t13_10 t15_12) w12 (fun t16_13 w13 =>
 DoV Tryd.prog (binS BinOp.mul 3 (Operand.tmp 11) (Operand.tmp 16) t11_8 t16_13) w13 (fun t17_14 w14 =>
 DoV Tryd.prog (Instr.fieldAt 109 t4_2 1) w14 (fun t18_15 w15 =>
 DoV Tryd.prog (Instr.loadAt 3 t18_15) w15 (fun t19_16 w16 =>
 DoV Tryd.prog (Instr.fieldAt 109 t3_1 1) w16 (fun t20_17 w17 =>
 DoV Tryd.prog (Instr.loadAt 3 t20_17) w17 (fun t21_18 w18 =>
 DoV Tryd.prog (binS BinOp.sub 3 (Operand.tmp 19) (Operand.tmp 21) t19_16 t21_18) w18 (fun t22_19 w19 =>
 DoV Tryd.prog (Instr.fieldAt 109 t5_3 0) w19 (fun t23_20 w20 =>
 DoV Tryd.prog (Instr.loadAt 3 t23_20) w20 (fun t24_21 w21 =>
 DoV Tryd.prog (Instr.fieldAt 109 t3_1 0) w21 (fun t25_22 w22 =>
 DoV Tryd.prog (Instr.loadAt 3 t25_22) w22 (fun t26_23 w23 =>
 DoV Tryd.prog (binS BinOp.sub 3 (Operand.tmp 24) (Operand.tmp 26) t24_21 t26_23) w23 (fun t27_24 w24 =>
 DoV Tryd.prog (binS BinOp.mul 3 (Operand.tmp 22) (Operand.tmp 27) t22_19 t27_24) w24 (fun t28_25 w25 =>
 DoV Tryd.prog (binS BinOp.sub 3 (Operand.tmp 17) (Operand.tmp 28) t17_14 t28_25) w25 (fun t29_26 w26 =>
 R (.returned t29_26) w26) (Pan R)) (Pan R)) (Pan R)) (Pan R)) (Pan R)) (Pan R)) (Pan R)) (Pan R)) (Pan R)) (Pan R)) (Pan R)) (Pan R)) (Pan R)) (Pan R)) (Pan R)) (Pan R)) (Pan R)) (Pan R)) (Pan R)) (Pan R)) (Pan R)) (Pan R)) (Pan R)) (Pan R)) (Pan R)) (Pan R))
theorem sh_landfallref03_Cross_eq (v0 v1 v2 : Value) (R : Ending → World → Prop) (w : World) : vc Tryd.prog [] [] (Tryd.f104.body.getD .skip) (endE Tryd.prog Tryd.f104.results R) (argsE [v0, v1, v2]) [] w = sh_landfallref03_Cross v0 v1 v2 R w := by kernel_rfl
theorem sh_landfallref03_Cross_ok (v0 v1 v2 : Value) {R : Ending → World → Prop} {w : World} (h : sh_landfallref03_Cross v0 v1 v2 R w) : Calls Tryd.prog 104 #[v0, v1, v2] w R :=
  calls_of_vc (args := [v0, v1, v2]) [] [] follows_mixed Tryd.func104 rfl (of_decide_eq_true (by kernel_rfl)) (by kernel_rfl) ((sh_landfallref03_Cross_eq v0 v1 v2 R w).symm ▸ h)
/- cmp.Or[int] -/
def sh_cmp_Or_int_ (v0 : Value) (R : Ending → World → Prop) (w : World) : Prop := (
 CallB Tryd.prog Builtin.len #[24] 3 #[false] #[v0] w (fun t7_1 w1 =>
 LoopE [8] [(Value.int IntKind.i64 0)] w1 (fun h2 w2 K2 =>
 DoV Tryd.prog (binS BinOp.lss 3 (Operand.tmp 8) (Operand.tmp 7) (h2 8) t7_1) w2 (fun t9_3 w3 =>
 Br t9_3
(DoV Tryd.prog (Instr.indexAt 24 v0 (h2 8)) w3 (fun t10_4 w4 =>
 DoV Tryd.prog (Instr.loadAt 3 t10_4) w4 (fun t11_5 w5 =>
 DoV Tryd.prog (binS BinOp.neq 3 (Operand.tmp 12) (Operand.tmp 13) t11_5 (Value.int IntKind.i64 0)) w5 (fun t14_6 w6 =>
 Br t14_6
(R (.returned t11_5) w6)
(DoV Tryd.prog (binS BinOp.add 3 (Operand.tmp 8) (Operand.const (Value.int IntKind.i64 1)) (h2 8) (Value.int IntKind.i64 1)) w6 (fun t16_7 w7 =>
 K2 [t16_7] w7) (Pan R))) (Pan R)) (Pan R)) (Pan R))
(R (.returned (Value.int IntKind.i64 0)) w3)) (Pan R))) (Pan R))
theorem sh_cmp_Or_int__eq (v0 : Value) (R : Ending → World → Prop) (w : World) : vc Tryd.prog [] [8] (Tryd.f109.body.getD .skip) (endE Tryd.prog Tryd.f109.results R) (argsE [v0]) [] w = sh_cmp_Or_int_ v0 R w := by kernel_rfl
theorem sh_cmp_Or_int__ok (v0 : Value) {R : Ending → World → Prop} {w : World} (h : sh_cmp_Or_int_ v0 R w) : Calls Tryd.prog 109 #[v0] w R :=
  calls_of_vc (args := [v0]) [] [8] follows_mixed Tryd.func109 rfl (of_decide_eq_true (by kernel_rfl)) (by kernel_rfl) ((sh_cmp_Or_int__eq v0 R w).symm ▸ h)
/- cmp.Compare[int] -/
def sh_cmp_Compare_int_ (v0 v1 : Value) (R : Ending → World → Prop) (w : World) : Prop := (
 CallF Tryd.prog 118 #[v0] w (fun t8_1 w1 =>
 CallF Tryd.prog 118 #[v1] w1 (fun t10_2 w2 =>
 Br t8_1
(Br t10_2
(R (.returned (Value.int IntKind.i64 0)) w2)
(R (.returned (Value.int IntKind.i64 (-1))) w2))
(Br t10_2
(R (.returned (Value.int IntKind.i64 1)) w2)
(DoV Tryd.prog (binS BinOp.lss 3 (Operand.tmp 14) (Operand.tmp 15) v0 v1) w2 (fun t16_3 w3 =>
 Br t16_3
(R (.returned (Value.int IntKind.i64 (-1))) w3)
(DoV Tryd.prog (binS BinOp.gtr 3 (Operand.tmp 17) (Operand.tmp 18) v0 v1) w3 (fun t19_4 w4 =>
 Br t19_4
(R (.returned (Value.int IntKind.i64 1)) w4)
(R (.returned (Value.int IntKind.i64 0)) w4)) (Pan R))) (Pan R)))) (Pan R)) (Pan R))
theorem sh_cmp_Compare_int__eq (v0 v1 : Value) (R : Ending → World → Prop) (w : World) : vc Tryd.prog [] [] (Tryd.f110.body.getD .skip) (endE Tryd.prog Tryd.f110.results R) (argsE [v0, v1]) [] w = sh_cmp_Compare_int_ v0 v1 R w := by kernel_rfl
theorem sh_cmp_Compare_int__ok (v0 v1 : Value) {R : Ending → World → Prop} {w : World} (h : sh_cmp_Compare_int_ v0 v1 R w) : Calls Tryd.prog 110 #[v0, v1] w R :=
  calls_of_vc (args := [v0, v1]) [] [] follows_mixed Tryd.func110 rfl (of_decide_eq_true (by kernel_rfl)) (by kernel_rfl) ((sh_cmp_Compare_int__eq v0 v1 R w).symm ▸ h)
/- landfall/hull.sides$1 -/
def sh_hull_sides_1 (v0 v1 : Value) (R : Ending → World → Prop) (w : World) : Prop := (
 DoV Tryd.prog (Instr.loadAt 110 v1) w (fun t5_1 w1 =>
 CallB Tryd.prog Builtin.len #[110] 3 #[false] #[t5_1] w1 (fun t6_2 w2 =>
 LoopE [7] [(Value.int IntKind.i64 0)] w2 (fun h3 w3 K3 =>
 DoV Tryd.prog (binS BinOp.lss 3 (Operand.tmp 7) (Operand.tmp 6) (h3 7) t6_2) w3 (fun t8_4 w4 =>
 Br t8_4
(DoV Tryd.prog (Instr.indexAt 110 t5_1 (h3 7)) w4 (fun t10_5 w5 =>
 DoV Tryd.prog (Instr.loadAt 109 t10_5) w5 (fun t11_6 w6 =>
 DoV Tryd.prog (Instr.alloc 109 true (.tuple #[])) w6 (fun t4_7 w7 =>
 DoU Tryd.prog (Instr.storeAt 109 t4_7 t11_6) w7 (fun _ w8 =>
 DrawE w8 (fun Rs9 Rb9 w9 =>
 DetOp Rb9 Rs9 w9 (fun w10 K10 => DoV Tryd.prog (Instr.loadAt 109 t4_7) w10 K10 (Pan R)) (fun c13_10 ψ10 =>
 DetOp Rb9 Rs9 w9 (fun w11 K11 => DoV Tryd.prog (Instr.loadAt 110 v1) w11 K11 (Pan R)) (fun c14_11 ψ11 =>
 DetOp Rb9 Rs9 w9 (fun w12 K12 => DoV Tryd.prog (binS BinOp.add 3 (Operand.tmp 15) (Operand.const (Value.int IntKind.i64 1)) (h3 7) (Value.int IntKind.i64 1)) w12 K12 (Pan R)) (fun c16_12 ψ12 =>
 DetOp Rb9 Rs9 w9 (fun w13 K13 => DoV Tryd.prog (Instr.loadAt 110 v1) w13 K13 (Pan R)) (fun c17_13 ψ13 =>
 DetOp Rb9 Rs9 w9 (fun w14 K14 => CallB Tryd.prog Builtin.len #[110] 3 #[false] #[c17_13] w14 K14 (Pan R)) (fun c18_14 ψ14 =>
 DetOp Rb9 Rs9 w9 (fun w15 K15 => DoV Tryd.prog (binS BinOp.rem 3 (Operand.tmp 16) (Operand.tmp 18) c16_12 c18_14) w15 K15 (Pan R)) (fun c19_15 ψ15 =>
 DetOp Rb9 Rs9 w9 (fun w16 K16 => DoV Tryd.prog (Instr.indexAt 110 c14_11 c19_15) w16 K16 (Pan R)) (fun c20_16 ψ16 =>
 DetOp Rb9 Rs9 w9 (fun w17 K17 => DoV Tryd.prog (Instr.loadAt 109 c20_16) w17 K17 (Pan R)) (fun c21_17 ψ17 =>
 ∀ w18, Rb9 w9 w18 → ((((((((True ∧ ψ10 w18) ∧ ψ11 w18) ∧ ψ12 w18) ∧ ψ13 w18) ∧ ψ14 w18) ∧ ψ15 w18) ∧ ψ16 w18) ∧ ψ17 w18) →
 CallV Tryd.prog v0 #[c13_10, c21_17] w18 (fun t22_19 w19 =>
 DoV Tryd.prog (Op.unary UnOp.not t22_19) w19 (fun t23_20 w20 =>
 Br t23_20
(R (.returned (Value.tuple #[])) w20)
(DoV Tryd.prog (binS BinOp.add 3 (Operand.tmp 7) (Operand.const (Value.int IntKind.i64 1)) (h3 7) (Value.int IntKind.i64 1)) w20 (fun t24_21 w21 =>
 K3 [t24_21] w21) (Pan R))) (Pan R)) (Pan R))))))))))) (Pan R)) (Pan R)) (Pan R)) (Pan R))
(R (.returned (Value.tuple #[])) w4)) (Pan R))) (Pan R)) (Pan R))
theorem sh_hull_sides_1_eq (v0 v1 : Value) (R : Ending → World → Prop) (w : World) : vc Tryd.prog [(3, 10, false, 0)] [7] (Tryd.f111.body.getD .skip) (endE Tryd.prog Tryd.f111.results R) (argsE [v0, v1]) [] w = sh_hull_sides_1 v0 v1 R w := by kernel_rfl
theorem sh_hull_sides_1_ok (v0 v1 : Value) {R : Ending → World → Prop} {w : World} (h : sh_hull_sides_1 v0 v1 R w) : Calls Tryd.prog 111 #[v0, v1] w R :=
  calls_of_vc (args := [v0, v1]) [(3, 10, false, 0)] [7] follows_mixed Tryd.func111 rfl (of_decide_eq_true (by kernel_rfl)) (by kernel_rfl) ((sh_hull_sides_1_eq v0 v1 R w).symm ▸ h)
/- landfall/landfallref03.Place -/
def sh_landfallref03_Place (v0 : Value) (R : Ending → World → Prop) (w : World) : Prop := (
 DoV Tryd.prog (Instr.box 109 v0) w (fun t1_1 w1 =>
 DoV Tryd.prog (Instr.fieldAt 109 t1_1 0) w1 (fun t3_2 w2 =>
 DoV Tryd.prog (Instr.loadAt 3 t3_2) w2 (fun t4_3 w3 =>
 DoV Tryd.prog (binS BinOp.geq 3 (Operand.tmp 4) (Operand.const (Value.int IntKind.i64 (-500000))) t4_3 (Value.int IntKind.i64 (-500000))) w3 (fun t5_4 w4 =>
 Gd t5_4 true (DoV Tryd.prog (Instr.fieldAt 109 t1_1 0) w4 (fun t7_5 w5 =>
 DoV Tryd.prog (Instr.loadAt 3 t7_5) w5 (fun t8_6 w6 =>
 DoV Tryd.prog (binS BinOp.leq 3 (Operand.tmp 8) (Operand.const (Value.int IntKind.i64 500000)) t8_6 (Value.int IntKind.i64 500000)) w6 (fun t9_7 w7 =>
 Gd t9_7 true (DoV Tryd.prog (Instr.fieldAt 109 t1_1 1) w7 (fun t12_8 w8 =>
 DoV Tryd.prog (Instr.loadAt 3 t12_8) w8 (fun t13_9 w9 =>
 DoV Tryd.prog (binS BinOp.geq 3 (Operand.tmp 13) (Operand.const (Value.int IntKind.i64 (-500000))) t13_9 (Value.int IntKind.i64 (-500000))) w9 (fun t14_10 w10 =>
 Gd t14_10 true (DoV Tryd.prog (Instr.fieldAt 109 t1_1 1) w10 (fun t17_11 w11 =>
 DoV Tryd.prog (Instr.loadAt 3 t17_11) w11 (fun t18_12 w12 =>
 DoV Tryd.prog (binS BinOp.leq 3 (Operand.tmp 18) (Operand.const (Value.int IntKind.i64 500000)) t18_12 (Value.int IntKind.i64 500000)) w12 (fun t19_13 w13 =>
 R (.returned t19_13) w13) (Pan R)) (Pan R)) (Pan R))
(R (.returned (Value.bool false)) w10)) (Pan R)) (Pan R)) (Pan R))
(R (.returned (Value.bool false)) w7)) (Pan R)) (Pan R)) (Pan R))
(R (.returned (Value.bool false)) w4)) (Pan R)) (Pan R)) (Pan R)) (Pan R))
theorem sh_landfallref03_Place_eq (v0 : Value) (R : Ending → World → Prop) (w : World) : vc Tryd.prog [] [] (Tryd.f112.body.getD .skip) (endE Tryd.prog Tryd.f112.results R) (argsE [v0]) [] w = sh_landfallref03_Place v0 R w := by kernel_rfl
theorem sh_landfallref03_Place_ok (v0 : Value) {R : Ending → World → Prop} {w : World} (h : sh_landfallref03_Place v0 R w) : Calls Tryd.prog 112 #[v0] w R :=
  calls_of_vc (args := [v0]) [] [] follows_mixed Tryd.func112 rfl (of_decide_eq_true (by kernel_rfl)) (by kernel_rfl) ((sh_landfallref03_Place_eq v0 R w).symm ▸ h)
/- cmp.isNaN[int] -/
def sh_cmp_isNaN_int_ (v0 : Value) (R : Ending → World → Prop) (w : World) : Prop := (
 DoV Tryd.prog (binS BinOp.neq 3 (Operand.tmp 3) (Operand.tmp 4) v0 v0) w (fun t5_1 w1 =>
 R (.returned t5_1) w1) (Pan R))
theorem sh_cmp_isNaN_int__eq (v0 : Value) (R : Ending → World → Prop) (w : World) : vc Tryd.prog [] [] (Tryd.f118.body.getD .skip) (endE Tryd.prog Tryd.f118.results R) (argsE [v0]) [] w = sh_cmp_isNaN_int_ v0 R w := by kernel_rfl
theorem sh_cmp_isNaN_int__ok (v0 : Value) {R : Ending → World → Prop} {w : World} (h : sh_cmp_isNaN_int_ v0 R w) : Calls Tryd.prog 118 #[v0] w R :=
  calls_of_vc (args := [v0]) [] [] follows_mixed Tryd.func118 rfl (of_decide_eq_true (by kernel_rfl)) (by kernel_rfl) ((sh_cmp_isNaN_int__eq v0 R w).symm ▸ h)
end Go.Proofs.YtjinhojlnaplaaaDoor
