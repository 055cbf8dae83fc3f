/- WRITTEN BY gen.py: the chains of operations of some functions. -/
import Derived.Test.YtahplhcijlgelaaOps
import Derived.Test.YtahplhcijlgelaaRec
import Derived.Test.YtahplhcijlgelaaProg
import Derived.KernelRfl
namespace Go.Proofs.Ytahplhcijlgelaa
open Sh
set_option maxRecDepth 100000
theorem follows_mixed : Try.prog.follows .mixedOrders = true := by kernel_rfl
/- landfall/landfalllaw40.JournalMatchesReference -/
def sh_landfalllaw40_JournalMatchesReference (v0 v1 v2 : Value) (R : Ending → World → Prop) (w : World) : Prop := (
 DoV Try.prog (Instr.box 29 v1) w (fun t4_1 w1 =>
 CallF Try.prog 9 #[] w1 (fun t18_2 w2 =>
 JoinE [] (fun K3 =>
 JoinE [36] (fun K4 =>
 CallB Try.prog Builtin.len #[22] 3 #[false] #[v0] w2 (fun t20_5 w5 =>
 DoV Try.prog (binS BinOp.gtr 3 (Operand.tmp 20) (Operand.const (Value.int IntKind.i64 1500)) t20_5 (Value.int IntKind.i64 1500)) w5 (fun t21_6 w6 =>
 Gd t21_6 true (CallB Try.prog Builtin.len #[22] 3 #[false] #[v0] w6 (fun t24_7 w7 =>
 DoV Try.prog (binS BinOp.leq 3 (Operand.tmp 24) (Operand.const (Value.int IntKind.i64 200000)) t24_7 (Value.int IntKind.i64 200000)) w7 (fun t25_8 w8 =>
 Gd t25_8 false (CallB Try.prog Builtin.len #[30] 3 #[false] #[v2] w8 (fun t29_9 w9 =>
 DoV Try.prog (binS BinOp.gtr 3 (Operand.tmp 29) (Operand.const (Value.int IntKind.i64 40)) t29_9 (Value.int IntKind.i64 40)) w9 (fun t30_10 w10 =>
 Gd t30_10 true (CallB Try.prog Builtin.len #[30] 3 #[false] #[v2] w10 (fun t33_11 w11 =>
 DoV Try.prog (binS BinOp.leq 3 (Operand.tmp 33) (Operand.const (Value.int IntKind.i64 4000)) t33_11 (Value.int IntKind.i64 4000)) w11 (fun t34_12 w12 =>
 K4 [t34_12] w12) (Pan R)) (Pan R))
(K4 [(Value.bool false)] w10)) (Pan R)) (Pan R))
(K4 [(Value.bool true)] w8)) (Pan R)) (Pan R))
(CallB Try.prog Builtin.len #[30] 3 #[false] #[v2] w6 (fun t29_13 w13 =>
 DoV Try.prog (binS BinOp.gtr 3 (Operand.tmp 29) (Operand.const (Value.int IntKind.i64 40)) t29_13 (Value.int IntKind.i64 40)) w13 (fun t30_14 w14 =>
 Gd t30_14 true (CallB Try.prog Builtin.len #[30] 3 #[false] #[v2] w14 (fun t33_15 w15 =>
 DoV Try.prog (binS BinOp.leq 3 (Operand.tmp 33) (Operand.const (Value.int IntKind.i64 4000)) t33_15 (Value.int IntKind.i64 4000)) w15 (fun t34_16 w16 =>
 K4 [t34_16] w16) (Pan R)) (Pan R))
(K4 [(Value.bool false)] w14)) (Pan R)) (Pan R))) (Pan R)) (Pan R))
(fun h17 w17 =>
 Br (h17 36)
(R (.returned t18_2) w17)
(K3 [] w17)))
(fun _ w18 =>
 DoV Try.prog (Instr.loadAt 29 t4_1) w18 (fun t40_19 w19 =>
 CallF Try.prog 10 #[v0, t40_19] w19 (fun t41_20 w20 =>
 DoV Try.prog (Instr.extract t41_20 0) w20 (fun t42_21 w21 =>
 DoV Try.prog (Instr.extract t41_20 1) w21 (fun t43_22 w22 =>
 DoV Try.prog (Instr.loadAt 29 t4_1) w22 (fun t46_23 w23 =>
 CallF Try.prog 11 #[v0, t46_23] w23 (fun t47_24 w24 =>
 DoV Try.prog (Instr.extract t47_24 0) w24 (fun t48_25 w25 =>
 DoV Try.prog (Instr.extract t47_24 1) w25 (fun t49_26 w26 =>
 JoinE [7] (fun K27 =>
 Gd t18_2 true (CallF Try.prog 12 #[t42_21, t48_25] w26 (fun t54_28 w28 =>
 Gd t54_28 true (DoV Try.prog (binS BinOp.eql 32 (Operand.tmp 57) (Operand.tmp 58) t43_22 t49_26) w28 (fun t59_29 w29 =>
 K27 [t59_29] w29) (Pan R))
(K27 [(Value.bool false)] w28)) (Pan R))
(K27 [(Value.bool false)] w26))
(fun h30 w30 =>
 CallF Try.prog 13 #[v0] w30 (fun t63_31 w31 =>
 DoV Try.prog (Instr.extract t63_31 0) w31 (fun t64_32 w32 =>
 DoV Try.prog (Instr.extract t63_31 1) w32 (fun t65_33 w33 =>
 DoV Try.prog (Instr.extract t63_31 2) w33 (fun t66_34 w34 =>
 CallF Try.prog 14 #[v0] w34 (fun t69_35 w35 =>
 DoV Try.prog (Instr.extract t69_35 0) w35 (fun t70_36 w36 =>
 DoV Try.prog (Instr.extract t69_35 1) w36 (fun t71_37 w37 =>
 DoV Try.prog (Instr.extract t69_35 2) w37 (fun t72_38 w38 =>
 JoinE [7] (fun K39 =>
 Gd (h30 7) true (CallF Try.prog 15 #[t64_32, t70_36] w38 (fun t77_40 w40 =>
 Gd t77_40 true (DoV Try.prog (binS BinOp.eql 3 (Operand.tmp 80) (Operand.tmp 81) t65_33 t71_37) w40 (fun t82_41 w41 =>
 Gd t82_41 true (DoV Try.prog (binS BinOp.eql 32 (Operand.tmp 85) (Operand.tmp 86) t66_34 t72_38) w41 (fun t87_42 w42 =>
 K39 [t87_42] w42) (Pan R))
(K39 [(Value.bool false)] w41)) (Pan R))
(K39 [(Value.bool false)] w40)) (Pan R))
(K39 [(Value.bool false)] w38))
(fun h43 w43 =>
 CallF Try.prog 16 #[v2] w43 (fun t91_44 w44 =>
 DoV Try.prog (Instr.extract t91_44 0) w44 (fun t92_45 w45 =>
 DoV Try.prog (Instr.extract t91_44 1) w45 (fun t93_46 w46 =>
 CallF Try.prog 17 #[v2] w46 (fun t96_47 w47 =>
 DoV Try.prog (Instr.extract t96_47 0) w47 (fun t97_48 w48 =>
 DoV Try.prog (Instr.extract t96_47 1) w48 (fun t98_49 w49 =>
 Gd (h43 7) true (CallF Try.prog 18 #[t92_45, t97_48] w49 (fun t103_50 w50 =>
 Gd t103_50 true (DoV Try.prog (binS BinOp.eql 32 (Operand.tmp 106) (Operand.tmp 107) t93_46 t98_49) w50 (fun t108_51 w51 =>
 R (.returned t108_51) w51) (Pan R))
(R (.returned (Value.bool false)) w50)) (Pan R))
(R (.returned (Value.bool false)) w49)) (Pan R)) (Pan R)) (Pan R)) (Pan R)) (Pan R)) (Pan R))) (Pan R)) (Pan R)) (Pan R)) (Pan R)) (Pan R)) (Pan R)) (Pan R)) (Pan R))) (Pan R)) (Pan R)) (Pan R)) (Pan R)) (Pan R)) (Pan R)) (Pan R)) (Pan R))) (Pan R)) (Pan R))
theorem sh_landfalllaw40_JournalMatchesReference_eq (v0 v1 v2 : Value) (R : Ending → World → Prop) (w : World) : vc Try.prog [] [7] (Try.f3.body.getD .skip) (endE Try.prog Try.f3.results R) (argsE [v0, v1, v2]) [] w = sh_landfalllaw40_JournalMatchesReference v0 v1 v2 R w := by kernel_rfl
theorem sh_landfalllaw40_JournalMatchesReference_ok (v0 v1 v2 : Value) {R : Ending → World → Prop} {w : World} (h : sh_landfalllaw40_JournalMatchesReference v0 v1 v2 R w) : Calls Try.prog 3 #[v0, v1, v2] w R :=
  calls_of_vc (args := [v0, v1, v2]) [] [7] follows_mixed Try.func3 rfl (of_decide_eq_true (by kernel_rfl)) (by kernel_rfl) ((sh_landfalllaw40_JournalMatchesReference_eq v0 v1 v2 R w).symm ▸ h)
/- landfall/landfalllaw40.JournalWrites -/
def sh_landfalllaw40_JournalWrites (v0 v1 : Value) (R : Ending → World → Prop) (w : World) : Prop := (
 CallF Try.prog 9 #[] w (fun t21_1 w1 =>
 CallB Try.prog Builtin.len #[30] 3 #[false] #[v0] w1 (fun t23_2 w2 =>
 DoV Try.prog (binS BinOp.gtr 3 (Operand.tmp 23) (Operand.const (Value.int IntKind.i64 20)) t23_2 (Value.int IntKind.i64 20)) w2 (fun t24_3 w3 =>
 Br t24_3
(R (.returned t21_1) w3)
(CallF Try.prog 19 #[v0] w3 (fun t28_4 w4 =>
 DoV Try.prog (Instr.extract t28_4 0) w4 (fun t29_5 w5 =>
 DoV Try.prog (Instr.extract t28_4 1) w5 (fun t30_6 w6 =>
 DoV Try.prog (Instr.extract t28_4 2) w6 (fun t31_7 w7 =>
 DoV Try.prog (Instr.extract t28_4 3) w7 (fun t32_8 w8 =>
 CallF Try.prog 13 #[t29_5] w8 (fun t35_9 w9 =>
 DoV Try.prog (Instr.extract t35_9 0) w9 (fun t36_10 w10 =>
 DoV Try.prog (Instr.extract t35_9 1) w10 (fun t37_11 w11 =>
 DoV Try.prog (Instr.extract t35_9 2) w11 (fun t38_12 w12 =>
 JoinE [] (fun K13 =>
 JoinE [56] (fun K14 =>
 DoV Try.prog (Op.unary UnOp.not t32_8) w12 (fun t40_15 w15 =>
 Gd t40_15 false (DoV Try.prog (binS BinOp.neq 32 (Operand.tmp 42) (Operand.const (Value.int IntKind.i64 0)) t38_12 (Value.int IntKind.i64 0)) w15 (fun t43_16 w16 =>
 Gd t43_16 false (CallF Try.prog 15 #[t36_10, t31_7] w16 (fun t48_17 w17 =>
 DoV Try.prog (Op.unary UnOp.not t48_17) w17 (fun t49_18 w18 =>
 Gd t49_18 false (CallB Try.prog Builtin.len #[22] 3 #[false] #[t29_5] w18 (fun t54_19 w19 =>
 DoV Try.prog (binS BinOp.neq 3 (Operand.tmp 52) (Operand.tmp 54) t37_11 t54_19) w19 (fun t55_20 w20 =>
 K14 [t55_20] w20) (Pan R)) (Pan R))
(K14 [(Value.bool true)] w18)) (Pan R)) (Pan R))
(K14 [(Value.bool true)] w16)) (Pan R))
(K14 [(Value.bool true)] w15)) (Pan R))
(fun h21 w21 =>
 Br (h21 56)
(R (.returned (Value.bool false)) w21)
(K13 [] w21)))
(fun _ w22 =>
 DoV Try.prog (convert 44 3 v1) w22 (fun t58_23 w23 =>
 CallB Try.prog Builtin.len #[22] 3 #[false] #[t29_5] w23 (fun t60_24 w24 =>
 DoV Try.prog (binS BinOp.add 3 (Operand.tmp 60) (Operand.const (Value.int IntKind.i64 1)) t60_24 (Value.int IntKind.i64 1)) w24 (fun t61_25 w25 =>
 DoV Try.prog (binS BinOp.rem 3 (Operand.tmp 58) (Operand.tmp 61) t58_23 t61_25) w25 (fun t62_26 w26 =>
 CallB Try.prog Builtin.len #[45] 3 #[false] #[t30_6] w26 (fun t64_27 w27 =>
 LoopE [14, 15, 65] [(Value.int IntKind.i64 0), (Value.int IntKind.i64 0), (Value.int IntKind.i64 0)] w27 (fun h28 w28 K28 =>
 DoV Try.prog (binS BinOp.lss 3 (Operand.tmp 65) (Operand.tmp 64) (h28 65) t64_27) w28 (fun t66_29 w29 =>
 Br t66_29
(JoinE [14, 15] (fun K30 =>
 DoV Try.prog (Instr.indexAt 45 t30_6 (h28 65)) w29 (fun t67_31 w31 =>
 DoV Try.prog (Instr.loadAt 3 t67_31) w31 (fun t68_32 w32 =>
 DoV Try.prog (binS BinOp.leq 3 (Operand.tmp 69) (Operand.tmp 70) t68_32 t62_26) w32 (fun t71_33 w33 =>
 Br t71_33
(DoV Try.prog (binS BinOp.add 3 (Operand.tmp 72) (Operand.const (Value.int IntKind.i64 1)) (h28 14) (Value.int IntKind.i64 1)) w33 (fun t73_34 w34 =>
 K30 [t73_34, t68_32] w34) (Pan R))
(K30 [(h28 14), (h28 15)] w33)) (Pan R)) (Pan R)) (Pan R))
(fun h35 w35 =>
 DoV Try.prog (binS BinOp.add 3 (Operand.tmp 65) (Operand.const (Value.int IntKind.i64 1)) (h28 65) (Value.int IntKind.i64 1)) w35 (fun t75_36 w36 =>
 K28 [(h35 14), (h35 15), t75_36] w36) (Pan R)))
(DoV Try.prog (Instr.sliceAt 22 t29_5 none (some t62_26) none) w29 (fun t79_37 w37 =>
 CallF Try.prog 13 #[t79_37] w37 (fun t80_38 w38 =>
 DoV Try.prog (Instr.extract t80_38 0) w38 (fun t81_39 w39 =>
 DoV Try.prog (Instr.extract t80_38 1) w39 (fun t82_40 w40 =>
 DoV Try.prog (Instr.extract t80_38 2) w40 (fun t83_41 w41 =>
 Gd t21_1 true (DoV Try.prog (binS BinOp.eql 32 (Operand.tmp 86) (Operand.const (Value.int IntKind.i64 0)) t83_41 (Value.int IntKind.i64 0)) w41 (fun t87_42 w42 =>
 Gd t87_42 true (DoV Try.prog (binS BinOp.eql 3 (Operand.tmp 90) (Operand.tmp 91) t82_40 (h28 15)) w42 (fun t92_43 w43 =>
 Gd t92_43 true (DoV Try.prog (Instr.sliceAt 30 t31_7 none (some (h28 14)) none) w43 (fun t98_44 w44 =>
 CallF Try.prog 15 #[t81_39, t98_44] w44 (fun t99_45 w45 =>
 R (.returned t99_45) w45) (Pan R)) (Pan R))
(R (.returned (Value.bool false)) w43)) (Pan R))
(R (.returned (Value.bool false)) w42)) (Pan R))
(R (.returned (Value.bool false)) w41)) (Pan R)) (Pan R)) (Pan R)) (Pan R)) (Pan R))) (Pan R))) (Pan R)) (Pan R)) (Pan R)) (Pan R)) (Pan R))) (Pan R)) (Pan R)) (Pan R)) (Pan R)) (Pan R)) (Pan R)) (Pan R)) (Pan R)) (Pan R))) (Pan R)) (Pan R)) (Pan R))
theorem sh_landfalllaw40_JournalWrites_eq (v0 v1 : Value) (R : Ending → World → Prop) (w : World) : vc Try.prog [] [14, 15, 65] (Try.f4.body.getD .skip) (endE Try.prog Try.f4.results R) (argsE [v0, v1]) [] w = sh_landfalllaw40_JournalWrites v0 v1 R w := by kernel_rfl
theorem sh_landfalllaw40_JournalWrites_ok (v0 v1 : Value) {R : Ending → World → Prop} {w : World} (h : sh_landfalllaw40_JournalWrites v0 v1 R w) : Calls Try.prog 4 #[v0, v1] w R :=
  calls_of_vc (args := [v0, v1]) [] [14, 15, 65] follows_mixed Try.func4 rfl (of_decide_eq_true (by kernel_rfl)) (by kernel_rfl) ((sh_landfalllaw40_JournalWrites_eq v0 v1 R w).symm ▸ h)
/- landfall/landfalllaw40.JournalFollows -/
def sh_landfalllaw40_JournalFollows (v0 v1 : Value) (R : Ending → World → Prop) (w : World) : Prop := (
 CallF Try.prog 9 #[] w (fun t16_1 w1 =>
 JoinE [] (fun K2 =>
 JoinE [24] (fun K3 =>
 CallB Try.prog Builtin.len #[30] 3 #[false] #[v0] w1 (fun t18_4 w4 =>
 DoV Try.prog (binS BinOp.gtr 3 (Operand.tmp 18) (Operand.const (Value.int IntKind.i64 20)) t18_4 (Value.int IntKind.i64 20)) w4 (fun t19_5 w5 =>
 Gd t19_5 false (CallB Try.prog Builtin.len #[22] 3 #[false] #[v1] w5 (fun t22_6 w6 =>
 DoV Try.prog (binS BinOp.gtr 3 (Operand.tmp 22) (Operand.const (Value.int IntKind.i64 1000)) t22_6 (Value.int IntKind.i64 1000)) w6 (fun t23_7 w7 =>
 K3 [t23_7] w7) (Pan R)) (Pan R))
(K3 [(Value.bool true)] w5)) (Pan R)) (Pan R))
(fun h8 w8 =>
 Br (h8 24)
(R (.returned t16_1) w8)
(K2 [] w8)))
(fun _ w9 =>
 CallF Try.prog 19 #[v0] w9 (fun t28_10 w10 =>
 DoV Try.prog (Instr.extract t28_10 0) w10 (fun t29_11 w11 =>
 DoV Try.prog (Instr.extract t28_10 1) w11 (fun _ w12 =>
 DoV Try.prog (Instr.extract t28_10 2) w12 (fun t31_13 w13 =>
 DoV Try.prog (Instr.extract t28_10 3) w13 (fun t32_14 w14 =>
 DoV Try.prog (Instr.buildSlice 22 0 #[]) w14 (fun t34_15 w15 =>
 CallB Try.prog Builtin.append #[22, 22] 22 #[false, false] #[t34_15, t29_11] w15 (fun t36_16 w16 =>
 CallB Try.prog Builtin.append #[22, 22] 22 #[false, false] #[t36_16, v1] w16 (fun t38_17 w17 =>
 CallF Try.prog 13 #[t38_17] w17 (fun t39_18 w18 =>
 DoV Try.prog (Instr.extract t39_18 0) w18 (fun t40_19 w19 =>
 DoV Try.prog (Instr.extract t39_18 1) w19 (fun t41_20 w20 =>
 DoV Try.prog (Instr.extract t39_18 2) w20 (fun t42_21 w21 =>
 CallF Try.prog 13 #[v1] w21 (fun t45_22 w22 =>
 DoV Try.prog (Instr.extract t45_22 0) w22 (fun t46_23 w23 =>
 DoV Try.prog (Instr.extract t45_22 1) w23 (fun t47_24 w24 =>
 DoV Try.prog (Instr.extract t45_22 2) w24 (fun t48_25 w25 =>
 Gd t16_1 true (Gd t32_14 true (DoV Try.prog (binS BinOp.eql 32 (Operand.tmp 54) (Operand.const (Value.int IntKind.i64 0)) t42_21 (Value.int IntKind.i64 0)) w25 (fun t55_26 w26 =>
 Gd t55_26 true (DoV Try.prog (binS BinOp.eql 32 (Operand.tmp 58) (Operand.const (Value.int IntKind.i64 0)) t48_25 (Value.int IntKind.i64 0)) w26 (fun t59_27 w27 =>
 Gd t59_27 true (CallB Try.prog Builtin.len #[22] 3 #[false] #[t29_11] w27 (fun t64_28 w28 =>
 DoV Try.prog (binS BinOp.add 3 (Operand.tmp 64) (Operand.tmp 65) t64_28 t47_24) w28 (fun t66_29 w29 =>
 DoV Try.prog (binS BinOp.eql 3 (Operand.tmp 62) (Operand.tmp 66) t41_20 t66_29) w29 (fun t67_30 w30 =>
 Gd t67_30 true (DoV Try.prog (Instr.buildSlice 30 0 #[]) w30 (fun t71_31 w31 =>
 CallB Try.prog Builtin.append #[30, 30] 30 #[false, false] #[t71_31, t31_13] w31 (fun t73_32 w32 =>
 CallB Try.prog Builtin.append #[30, 30] 30 #[false, false] #[t73_32, t46_23] w32 (fun t75_33 w33 =>
 CallF Try.prog 15 #[t40_19, t75_33] w33 (fun t76_34 w34 =>
 R (.returned t76_34) w34) (Pan R)) (Pan R)) (Pan R)) (Pan R))
(R (.returned (Value.bool false)) w30)) (Pan R)) (Pan R)) (Pan R))
(R (.returned (Value.bool false)) w27)) (Pan R))
(R (.returned (Value.bool false)) w26)) (Pan R))
(R (.returned (Value.bool false)) w25))
(R (.returned (Value.bool false)) w25)) (Pan R)) (Pan R)) (Pan R)) (Pan R)) (Pan R)) (Pan R)) (Pan R)) (Pan R)) (Pan R)) (Pan R)) (Pan R)) (Pan R)) (Pan R)) (Pan R)) (Pan R)) (Pan R))) (Pan R))
theorem sh_landfalllaw40_JournalFollows_eq (v0 v1 : Value) (R : Ending → World → Prop) (w : World) : vc Try.prog [] [] (Try.f5.body.getD .skip) (endE Try.prog Try.f5.results R) (argsE [v0, v1]) [] w = sh_landfalllaw40_JournalFollows v0 v1 R w := by kernel_rfl
theorem sh_landfalllaw40_JournalFollows_ok (v0 v1 : Value) {R : Ending → World → Prop} {w : World} (h : sh_landfalllaw40_JournalFollows v0 v1 R w) : Calls Try.prog 5 #[v0, v1] w R :=
  calls_of_vc (args := [v0, v1]) [] [] follows_mixed Try.func5 rfl (of_decide_eq_true (by kernel_rfl)) (by kernel_rfl) ((sh_landfalllaw40_JournalFollows_eq v0 v1 R w).symm ▸ h)
/- landfall/landfalllaw40.JournalChanged -/
def sh_landfalllaw40_JournalChanged (v0 v1 v2 : Value) (R : Ending → World → Prop) (w : World) : Prop := (
 CallF Try.prog 9 #[] w (fun t17_1 w1 =>
 JoinE [] (fun K2 =>
 JoinE [24] (fun K3 =>
 CallB Try.prog Builtin.len #[30] 3 #[false] #[v0] w1 (fun t19_4 w4 =>
 DoV Try.prog (binS BinOp.gtr 3 (Operand.tmp 19) (Operand.const (Value.int IntKind.i64 20)) t19_4 (Value.int IntKind.i64 20)) w4 (fun t20_5 w5 =>
 Gd t20_5 false (DoV Try.prog (binS BinOp.eql 5 (Operand.tmp 22) (Operand.const (Value.int IntKind.u8 0)) v2 (Value.int IntKind.u8 0)) w5 (fun t23_6 w6 =>
 K3 [t23_6] w6) (Pan R))
(K3 [(Value.bool true)] w5)) (Pan R)) (Pan R))
(fun h7 w7 =>
 Br (h7 24)
(R (.returned t17_1) w7)
(K2 [] w7)))
(fun _ w8 =>
 CallF Try.prog 19 #[v0] w8 (fun t28_9 w9 =>
 DoV Try.prog (Instr.extract t28_9 0) w9 (fun t29_10 w10 =>
 DoV Try.prog (Instr.extract t28_9 1) w10 (fun t30_11 w11 =>
 DoV Try.prog (Instr.extract t28_9 2) w11 (fun t31_12 w12 =>
 DoV Try.prog (Instr.extract t28_9 3) w12 (fun t32_13 w13 =>
 DoV Try.prog (Op.unary UnOp.not t32_13) w13 (fun t34_14 w14 =>
 Br t34_14
(R (.returned (Value.bool false)) w14)
(CallB Try.prog Builtin.len #[45] 3 #[false] #[t30_11] w14 (fun t36_15 w15 =>
 DoV Try.prog (binS BinOp.eql 3 (Operand.tmp 36) (Operand.const (Value.int IntKind.i64 0)) t36_15 (Value.int IntKind.i64 0)) w15 (fun t37_16 w16 =>
 Br t37_16
(Gd t17_1 true (CallB Try.prog Builtin.len #[22] 3 #[false] #[t29_10] w16 (fun t41_17 w17 =>
 DoV Try.prog (binS BinOp.eql 3 (Operand.tmp 41) (Operand.const (Value.int IntKind.i64 0)) t41_17 (Value.int IntKind.i64 0)) w17 (fun t42_18 w18 =>
 R (.returned t42_18) w18) (Pan R)) (Pan R))
(R (.returned (Value.bool false)) w16))
(JoinE [12] (fun K19 =>
 CallB Try.prog Builtin.len #[45] 3 #[false] #[t30_11] w16 (fun t45_20 w20 =>
 DoV Try.prog (binS BinOp.gtr 3 (Operand.tmp 45) (Operand.const (Value.int IntKind.i64 1)) t45_20 (Value.int IntKind.i64 1)) w20 (fun t46_21 w21 =>
 Br t46_21
(CallB Try.prog Builtin.len #[45] 3 #[false] #[t30_11] w21 (fun t49_22 w22 =>
 DoV Try.prog (binS BinOp.sub 3 (Operand.tmp 49) (Operand.const (Value.int IntKind.i64 2)) t49_22 (Value.int IntKind.i64 2)) w22 (fun t50_23 w23 =>
 DoV Try.prog (Instr.indexAt 45 t30_11 t50_23) w23 (fun t51_24 w24 =>
 DoV Try.prog (Instr.loadAt 3 t51_24) w24 (fun t52_25 w25 =>
 K19 [t52_25] w25) (Pan R)) (Pan R)) (Pan R)) (Pan R))
(K19 [(Value.int IntKind.i64 0)] w21)) (Pan R)) (Pan R))
(fun h26 w26 =>
 CallB Try.prog Builtin.len #[22] 3 #[false] #[t29_10] w26 (fun t54_27 w27 =>
 DoV Try.prog (binS BinOp.add 3 (Operand.tmp 55) (Operand.const (Value.int IntKind.i64 4)) (h26 12) (Value.int IntKind.i64 4)) w27 (fun t56_28 w28 =>
 DoV Try.prog (binS BinOp.lss 3 (Operand.tmp 54) (Operand.tmp 56) t54_27 t56_28) w28 (fun t57_29 w29 =>
 Br t57_29
(R (.returned (Value.bool false)) w29)
(DoV Try.prog (Instr.buildSlice 22 0 #[]) w29 (fun t58_30 w30 =>
 CallB Try.prog Builtin.append #[22, 22] 22 #[false, false] #[t58_30, t29_10] w30 (fun t60_31 w31 =>
 DoV Try.prog (binS BinOp.add 3 (Operand.tmp 62) (Operand.const (Value.int IntKind.i64 3)) (h26 12) (Value.int IntKind.i64 3)) w31 (fun t63_32 w32 =>
 DoV Try.prog (convert 44 3 v1) w32 (fun t65_33 w33 =>
 CallB Try.prog Builtin.len #[22] 3 #[false] #[t29_10] w33 (fun t67_34 w34 =>
 DoV Try.prog (binS BinOp.sub 3 (Operand.tmp 67) (Operand.tmp 68) t67_34 (h26 12)) w34 (fun t69_35 w35 =>
 DoV Try.prog (binS BinOp.sub 3 (Operand.tmp 69) (Operand.const (Value.int IntKind.i64 3)) t69_35 (Value.int IntKind.i64 3)) w35 (fun t70_36 w36 =>
 DoV Try.prog (binS BinOp.rem 3 (Operand.tmp 65) (Operand.tmp 70) t65_33 t70_36) w36 (fun t71_37 w37 =>
 DoV Try.prog (binS BinOp.add 3 (Operand.tmp 63) (Operand.tmp 71) t63_32 t71_37) w37 (fun t72_38 w38 =>
 DoV Try.prog (Instr.indexAt 22 t60_31 t72_38) w38 (fun t73_39 w39 =>
 DoV Try.prog (Instr.loadAt 5 t73_39) w39 (fun t74_40 w40 =>
 DoV Try.prog (binS BinOp.xor 5 (Operand.tmp 74) (Operand.tmp 75) t74_40 v2) w40 (fun t76_41 w41 =>
 DoV Try.prog (Instr.indexAt 22 t60_31 t72_38) w41 (fun t77_42 w42 =>
 DoU Try.prog (Instr.storeAt 5 t77_42 t76_41) w42 (fun _ w43 =>
 CallF Try.prog 13 #[t60_31] w43 (fun t80_44 w44 =>
 DoV Try.prog (Instr.extract t80_44 0) w44 (fun t81_45 w45 =>
 DoV Try.prog (Instr.extract t80_44 1) w45 (fun t82_46 w46 =>
 DoV Try.prog (Instr.extract t80_44 2) w46 (fun t83_47 w47 =>
 Gd t17_1 true (DoV Try.prog (binS BinOp.eql 32 (Operand.tmp 86) (Operand.const (Value.int IntKind.i64 0)) t83_47 (Value.int IntKind.i64 0)) w47 (fun t87_48 w48 =>
 Gd t87_48 true (DoV Try.prog (binS BinOp.eql 3 (Operand.tmp 90) (Operand.tmp 91) t82_46 (h26 12)) w48 (fun t92_49 w49 =>
 Gd t92_49 true (CallB Try.prog Builtin.len #[30] 3 #[false] #[t31_12] w49 (fun t98_50 w50 =>
 DoV Try.prog (binS BinOp.sub 3 (Operand.tmp 98) (Operand.const (Value.int IntKind.i64 1)) t98_50 (Value.int IntKind.i64 1)) w50 (fun t99_51 w51 =>
 DoV Try.prog (Instr.sliceAt 30 t31_12 none (some t99_51) none) w51 (fun t100_52 w52 =>
 CallF Try.prog 15 #[t81_45, t100_52] w52 (fun t101_53 w53 =>
 R (.returned t101_53) w53) (Pan R)) (Pan R)) (Pan R)) (Pan R))
(R (.returned (Value.bool false)) w49)) (Pan R))
(R (.returned (Value.bool false)) w48)) (Pan R))
(R (.returned (Value.bool false)) w47)) (Pan R)) (Pan R)) (Pan R)) (Pan R)) (Pan R)) (Pan R)) (Pan R)) (Pan R)) (Pan R)) (Pan R)) (Pan R)) (Pan R)) (Pan R)) (Pan R)) (Pan R)) (Pan R)) (Pan R)) (Pan R))) (Pan R)) (Pan R)) (Pan R)))) (Pan R)) (Pan R))) (Pan R)) (Pan R)) (Pan R)) (Pan R)) (Pan R)) (Pan R))) (Pan R))
theorem sh_landfalllaw40_JournalChanged_eq (v0 v1 v2 : Value) (R : Ending → World → Prop) (w : World) : vc Try.prog [] [12] (Try.f6.body.getD .skip) (endE Try.prog Try.f6.results R) (argsE [v0, v1, v2]) [] w = sh_landfalllaw40_JournalChanged v0 v1 v2 R w := by kernel_rfl
theorem sh_landfalllaw40_JournalChanged_ok (v0 v1 v2 : Value) {R : Ending → World → Prop} {w : World} (h : sh_landfalllaw40_JournalChanged v0 v1 v2 R w) : Calls Try.prog 6 #[v0, v1, v2] w R :=
  calls_of_vc (args := [v0, v1, v2]) [] [12] follows_mixed Try.func6 rfl (of_decide_eq_true (by kernel_rfl)) (by kernel_rfl) ((sh_landfalllaw40_JournalChanged_eq v0 v1 v2 R w).symm ▸ h)
/- landfall/landfalllaw40.JournalGoes -/
def sh_landfalllaw40_JournalGoes (v0 v1 : Value) (R : Ending → World → Prop) (w : World) : Prop := (
 CallF Try.prog 9 #[] w (fun t17_1 w1 =>
 JoinE [] (fun K2 =>
 JoinE [25] (fun K3 =>
 CallB Try.prog Builtin.len #[22] 3 #[false] #[v0] w1 (fun t19_4 w4 =>
 DoV Try.prog (binS BinOp.gtr 3 (Operand.tmp 19) (Operand.const (Value.int IntKind.i64 1000)) t19_4 (Value.int IntKind.i64 1000)) w4 (fun t20_5 w5 =>
 Gd t20_5 false (CallB Try.prog Builtin.len #[30] 3 #[false] #[v1] w5 (fun t23_6 w6 =>
 DoV Try.prog (binS BinOp.gtr 3 (Operand.tmp 23) (Operand.const (Value.int IntKind.i64 10)) t23_6 (Value.int IntKind.i64 10)) w6 (fun t24_7 w7 =>
 K3 [t24_7] w7) (Pan R)) (Pan R))
(K3 [(Value.bool true)] w5)) (Pan R)) (Pan R))
(fun h8 w8 =>
 Br (h8 25)
(R (.returned t17_1) w8)
(K2 [] w8)))
(fun _ w9 =>
 CallF Try.prog 13 #[v0] w9 (fun t29_10 w10 =>
 DoV Try.prog (Instr.extract t29_10 0) w10 (fun t30_11 w11 =>
 DoV Try.prog (Instr.extract t29_10 1) w11 (fun t31_12 w12 =>
 DoV Try.prog (Instr.extract t29_10 2) w12 (fun t32_13 w13 =>
 JoinE [] (fun K14 =>
 JoinE [44] (fun K15 =>
 DoV Try.prog (binS BinOp.neq 32 (Operand.tmp 33) (Operand.const (Value.int IntKind.i64 0)) t32_13 (Value.int IntKind.i64 0)) w13 (fun t34_16 w16 =>
 Gd t34_16 false (DoV Try.prog (binS BinOp.lss 3 (Operand.tmp 36) (Operand.const (Value.int IntKind.i64 0)) t31_12 (Value.int IntKind.i64 0)) w16 (fun t37_17 w17 =>
 Gd t37_17 false (CallB Try.prog Builtin.len #[22] 3 #[false] #[v0] w17 (fun t42_18 w18 =>
 DoV Try.prog (binS BinOp.gtr 3 (Operand.tmp 40) (Operand.tmp 42) t31_12 t42_18) w18 (fun t43_19 w19 =>
 K15 [t43_19] w19) (Pan R)) (Pan R))
(K15 [(Value.bool true)] w17)) (Pan R))
(K15 [(Value.bool true)] w16)) (Pan R))
(fun h20 w20 =>
 Br (h20 44)
(R (.returned (Value.bool false)) w20)
(K14 [] w20)))
(fun _ w21 =>
 DoV Try.prog (Instr.buildSlice 22 0 #[]) w21 (fun t45_22 w22 =>
 DoV Try.prog (Instr.sliceAt 22 v0 none (some t31_12) none) w22 (fun t48_23 w23 =>
 CallB Try.prog Builtin.append #[22, 22] 22 #[false, false] #[t45_22, t48_23] w23 (fun t49_24 w24 =>
 DoV Try.prog (Instr.buildSlice 30 0 #[]) w24 (fun t50_25 w25 =>
 CallB Try.prog Builtin.append #[30, 30] 30 #[false, false] #[t50_25, t30_11] w25 (fun t52_26 w26 =>
 LoopE [9, 10, 11] [t49_24, t52_26, (Value.int IntKind.i64 0)] w26 (fun h27 w27 K27 =>
 CallB Try.prog Builtin.len #[30] 3 #[false] #[v1] w27 (fun t55_28 w28 =>
 DoV Try.prog (binS BinOp.lss 3 (Operand.tmp 53) (Operand.tmp 55) (h27 11) t55_28) w28 (fun t56_29 w29 =>
 Br t56_29
(JoinE [9, 10] (fun K30 =>
 DoV Try.prog (Instr.indexAt 30 v1 (h27 11)) w29 (fun t61_31 w31 =>
 DoV Try.prog (Instr.loadAt 29 t61_31) w31 (fun t62_32 w32 =>
 CallF Try.prog 20 #[t62_32] w32 (fun t63_33 w33 =>
 DoV Try.prog (Op.unary UnOp.not t63_33) w33 (fun t64_34 w34 =>
 Br t64_34
(K30 [(h27 9), (h27 10)] w34)
(DoV Try.prog (Instr.indexAt 30 v1 (h27 11)) w34 (fun t69_35 w35 =>
 DoV Try.prog (Instr.loadAt 29 t69_35) w35 (fun t70_36 w36 =>
 CallF Try.prog 10 #[(h27 9), t70_36] w36 (fun t71_37 w37 =>
 DoV Try.prog (Instr.extract t71_37 0) w37 (fun t72_38 w38 =>
 DoV Try.prog (Instr.extract t71_37 1) w38 (fun t73_39 w39 =>
 DoV Try.prog (binS BinOp.neq 32 (Operand.tmp 74) (Operand.const (Value.int IntKind.i64 0)) t73_39 (Value.int IntKind.i64 0)) w39 (fun t75_40 w40 =>
 Br t75_40
(R (.returned (Value.bool false)) w40)
(DoV Try.prog (Instr.indexAt 30 v1 (h27 11)) w40 (fun t80_41 w41 =>
 DoV Try.prog (Instr.loadAt 29 t80_41) w41 (fun t81_42 w42 =>
 DoV Try.prog (Instr.buildSlice 30 1 #[(0, t81_42)]) w42 (fun t82_43 w43 =>
 CallB Try.prog Builtin.append #[30, 30] 30 #[false, false] #[(h27 10), t82_43] w43 (fun t83_44 w44 =>
 K30 [t72_38, t83_44] w44) (Pan R)) (Pan R)) (Pan R)) (Pan R))) (Pan R)) (Pan R)) (Pan R)) (Pan R)) (Pan R)) (Pan R))) (Pan R)) (Pan R)) (Pan R)) (Pan R))
(fun h45 w45 =>
 DoV Try.prog (binS BinOp.add 3 (Operand.tmp 57) (Operand.const (Value.int IntKind.i64 1)) (h27 11) (Value.int IntKind.i64 1)) w45 (fun t58_46 w46 =>
 K27 [(h45 9), (h45 10), t58_46] w46) (Pan R)))
(CallF Try.prog 13 #[(h27 9)] w29 (fun t86_47 w47 =>
 DoV Try.prog (Instr.extract t86_47 0) w47 (fun t87_48 w48 =>
 DoV Try.prog (Instr.extract t86_47 1) w48 (fun t88_49 w49 =>
 DoV Try.prog (Instr.extract t86_47 2) w49 (fun t89_50 w50 =>
 Gd t17_1 true (DoV Try.prog (binS BinOp.eql 32 (Operand.tmp 92) (Operand.const (Value.int IntKind.i64 0)) t89_50 (Value.int IntKind.i64 0)) w50 (fun t93_51 w51 =>
 Gd t93_51 true (CallB Try.prog Builtin.len #[22] 3 #[false] #[(h27 9)] w51 (fun t98_52 w52 =>
 DoV Try.prog (binS BinOp.eql 3 (Operand.tmp 96) (Operand.tmp 98) t88_49 t98_52) w52 (fun t99_53 w53 =>
 Gd t99_53 true (CallF Try.prog 15 #[t87_48, (h27 10)] w53 (fun t104_54 w54 =>
 R (.returned t104_54) w54) (Pan R))
(R (.returned (Value.bool false)) w53)) (Pan R)) (Pan R))
(R (.returned (Value.bool false)) w51)) (Pan R))
(R (.returned (Value.bool false)) w50)) (Pan R)) (Pan R)) (Pan R)) (Pan R))) (Pan R)) (Pan R))) (Pan R)) (Pan R)) (Pan R)) (Pan R)) (Pan R))) (Pan R)) (Pan R)) (Pan R)) (Pan R))) (Pan R))
theorem sh_landfalllaw40_JournalGoes_eq (v0 v1 : Value) (R : Ending → World → Prop) (w : World) : vc Try.prog [] [9, 10, 11] (Try.f7.body.getD .skip) (endE Try.prog Try.f7.results R) (argsE [v0, v1]) [] w = sh_landfalllaw40_JournalGoes v0 v1 R w := by kernel_rfl
theorem sh_landfalllaw40_JournalGoes_ok (v0 v1 : Value) {R : Ending → World → Prop} {w : World} (h : sh_landfalllaw40_JournalGoes v0 v1 R w) : Calls Try.prog 7 #[v0, v1] w R :=
  calls_of_vc (args := [v0, v1]) [] [9, 10, 11] follows_mixed Try.func7 rfl (of_decide_eq_true (by kernel_rfl)) (by kernel_rfl) ((sh_landfalllaw40_JournalGoes_eq v0 v1 R w).symm ▸ h)
/- landfall/landfalllaw40.JournalEntries -/
def sh_landfalllaw40_JournalEntries (v0 v1 v2 v3 : Value) (R : Ending → World → Prop) (w : World) : Prop := (
 CallF Try.prog 9 #[] w (fun t28_1 w1 =>
 CallB Try.prog Builtin.len #[39] 3 #[false] #[v0] w1 (fun t30_2 w2 =>
 DoV Try.prog (binS BinOp.gtr 3 (Operand.tmp 30) (Operand.const (Value.int IntKind.i64 20)) t30_2 (Value.int IntKind.i64 20)) w2 (fun t31_3 w3 =>
 Br t31_3
(R (.returned t28_1) w3)
(CallB Try.prog Builtin.len #[39] 3 #[false] #[v0] w3 (fun t34_4 w4 =>
 LoopE [10, 11, 35] [(Value.slice none 0 0), (Value.slice none 0 0), (Value.int IntKind.i64 0)] w4 (fun h5 w5 K5 =>
 DoV Try.prog (binS BinOp.lss 3 (Operand.tmp 35) (Operand.tmp 34) (h5 35) t34_4) w5 (fun t36_6 w6 =>
 Br t36_6
(JoinE [10, 11] (fun K7 =>
 DoV Try.prog (Instr.indexAt 39 v0 (h5 35)) w6 (fun t38_8 w8 =>
 DoV Try.prog (Instr.loadAt 26 t38_8) w8 (fun t39_9 w9 =>
 DoV Try.prog (Instr.alloc 26 true (.tuple #[])) w9 (fun t13_10 w10 =>
 DoU Try.prog (Instr.storeAt 26 t13_10 t39_9) w10 (fun _ w11 =>
 JoinE [10] (fun K12 =>
 DoV Try.prog (binS BinOp.shr 53 (Operand.tmp 40) (Operand.tmp 41) v1 (h5 35)) w11 (fun t42_13 w13 =>
 DoV Try.prog (binS BinOp.and 53 (Operand.tmp 42) (Operand.const (Value.int IntKind.u32 1)) t42_13 (Value.int IntKind.u32 1)) w13 (fun t43_14 w14 =>
 DoV Try.prog (binS BinOp.eql 53 (Operand.tmp 43) (Operand.const (Value.int IntKind.u32 1)) t43_14 (Value.int IntKind.u32 1)) w14 (fun t44_15 w15 =>
 Br t44_15
(CallF Try.prog 21 #[(h5 35), v2] w15 (fun t48_16 w16 =>
 DoV Try.prog (Instr.buildSlice 30 1 #[(0, t48_16)]) w16 (fun t49_17 w17 =>
 CallB Try.prog Builtin.append #[30, 30] 30 #[false, false] #[(h5 10), t49_17] w17 (fun t50_18 w18 =>
 K12 [t50_18] w18) (Pan R)) (Pan R)) (Pan R))
(K12 [(h5 10)] w15)) (Pan R)) (Pan R)) (Pan R))
(fun h19 w19 =>
 DoV Try.prog (binS BinOp.add 3 (Operand.tmp 51) (Operand.const (Value.int IntKind.i64 1)) (h5 35) (Value.int IntKind.i64 1)) w19 (fun t52_20 w20 =>
 DoV Try.prog (Instr.fieldAt 26 t13_10 0) w20 (fun t53_21 w21 =>
 DoU Try.prog (Instr.storeAt 3 t53_21 t52_20) w21 (fun _ w22 =>
 DrawR w22 (fun R23 S23 w23 =>
 DetOp R23 (Both R23 S23) w23 (fun w24 K24 => DoV Try.prog (Instr.loadAt 26 t13_10) w24 K24 (Pan R)) (fun c55_24 ψ24 =>
 DetOp R23 (Both R23 S23) w23 (fun w25 K25 => DoV Try.prog (Instr.build 29 #[(0, (Value.int IntKind.i64 1)), (1, c55_24)]) w25 K25 (Pan R)) (fun c56_25 ψ25 =>
 DetOp R23 (Both R23 S23) w23 (fun w26 K26 => DoV Try.prog (Instr.loadAt 26 t13_10) w26 K26 (Pan R)) (fun c60_26 ψ26 =>
 ThrE R23 S23 0 w23 (fun Θ23_0 T23_0 =>
 NdC R23 S23 0 w23 Θ23_0 (fun w27 K27 => DoV Try.prog (Instr.buildSlice 30 1 #[(0, c56_25)]) w27 K27 (Pan R)) (fun v57_27 φ27 =>
 NdC R23 S23 0 w23 φ27 (fun w28 K28 => CallB Try.prog Builtin.append #[30, 30] 30 #[false, false] #[(h19 10), v57_27] w28 K28 (Pan R)) (fun v58_28 φ28 =>
 T23_0 [v57_27, v58_28] φ28))) (fun Φ23_0 =>
 ThrE R23 S23 1 w23 (fun Θ23_1 T23_1 =>
 NdC R23 S23 1 w23 Θ23_1 (fun w29 K29 => DoV Try.prog (Instr.buildSlice 39 1 #[(0, c60_26)]) w29 K29 (Pan R)) (fun v61_29 φ29 =>
 T23_1 [v61_29] φ29)) (fun Φ23_1 =>
 ∀ (h30 : Nat → Value) (w31 : World), R23 w23 w31 → (((True ∧ ψ24 w31) ∧ ψ25 w31) ∧ ψ26 w31) ∧ ((True ∧ Φ23_0 [(h30 57), (h30 58)] w31) ∧ Φ23_1 [(h30 61)] w31) →
 CallB Try.prog Builtin.append #[39, 39] 39 #[false, false] #[(h5 11), (h30 61)] w31 (fun t62_32 w32 =>
 K7 [(h30 58), t62_32] w32) (Pan R)))))))) (Pan R)) (Pan R)) (Pan R))) (Pan R)) (Pan R)) (Pan R)) (Pan R))
(fun h33 w33 =>
 DoV Try.prog (binS BinOp.add 3 (Operand.tmp 35) (Operand.const (Value.int IntKind.i64 1)) (h5 35) (Value.int IntKind.i64 1)) w33 (fun t63_34 w34 =>
 K5 [(h33 10), (h33 11), t63_34] w34) (Pan R)))
(CallF Try.prog 19 #[(h5 10)] w6 (fun t66_35 w35 =>
 DoV Try.prog (Instr.extract t66_35 0) w35 (fun t67_36 w36 =>
 DoV Try.prog (Instr.extract t66_35 1) w36 (fun _ w37 =>
 DoV Try.prog (Instr.extract t66_35 2) w37 (fun t69_38 w38 =>
 DoV Try.prog (Instr.extract t66_35 3) w38 (fun t70_39 w39 =>
 JoinE [] (fun K40 =>
 JoinE [79] (fun K41 =>
 DoV Try.prog (Op.unary UnOp.not t70_39) w39 (fun t72_42 w42 =>
 Gd t72_42 false (CallB Try.prog Builtin.len #[30] 3 #[false] #[t69_38] w42 (fun t75_43 w43 =>
 CallB Try.prog Builtin.len #[30] 3 #[false] #[(h5 10)] w43 (fun t77_44 w44 =>
 DoV Try.prog (binS BinOp.neq 3 (Operand.tmp 75) (Operand.tmp 77) t75_43 t77_44) w44 (fun t78_45 w45 =>
 K41 [t78_45] w45) (Pan R)) (Pan R)) (Pan R))
(K41 [(Value.bool true)] w42)) (Pan R))
(fun h46 w46 =>
 Br (h46 79)
(R (.returned (Value.bool false)) w46)
(K40 [] w46)))
(fun _ w47 =>
 CallF Try.prog 13 #[t67_36] w47 (fun t82_48 w48 =>
 DoV Try.prog (Instr.extract t82_48 0) w48 (fun t83_49 w49 =>
 DoV Try.prog (Instr.extract t82_48 1) w49 (fun _ w50 =>
 DoV Try.prog (Instr.extract t82_48 2) w50 (fun t85_51 w51 =>
 CallF Try.prog 16 #[t83_49] w51 (fun t88_52 w52 =>
 DoV Try.prog (Instr.extract t88_52 0) w52 (fun t89_53 w53 =>
 DoV Try.prog (Instr.extract t88_52 1) w53 (fun t90_54 w54 =>
 DoV Try.prog (convert 44 3 v3) w54 (fun t94_55 w55 =>
 CallB Try.prog Builtin.len #[22] 3 #[false] #[t67_36] w55 (fun t96_56 w56 =>
 DoV Try.prog (binS BinOp.add 3 (Operand.tmp 96) (Operand.const (Value.int IntKind.i64 1)) t96_56 (Value.int IntKind.i64 1)) w56 (fun t97_57 w57 =>
 DoV Try.prog (binS BinOp.rem 3 (Operand.tmp 94) (Operand.tmp 97) t94_55 t97_57) w57 (fun t98_58 w58 =>
 DoV Try.prog (Instr.sliceAt 22 t67_36 none (some t98_58) none) w58 (fun t99_59 w59 =>
 CallF Try.prog 13 #[t99_59] w59 (fun t100_60 w60 =>
 DoV Try.prog (Instr.extract t100_60 0) w60 (fun t101_61 w61 =>
 DoV Try.prog (Instr.extract t100_60 1) w61 (fun _ w62 =>
 DoV Try.prog (Instr.extract t100_60 2) w62 (fun t103_63 w63 =>
 CallF Try.prog 16 #[t101_61] w63 (fun t106_64 w64 =>
 DoV Try.prog (Instr.extract t106_64 0) w64 (fun t107_65 w65 =>
 DoV Try.prog (Instr.extract t106_64 1) w65 (fun t108_66 w66 =>
 Gd t28_1 true (DoV Try.prog (binS BinOp.eql 32 (Operand.tmp 111) (Operand.const (Value.int IntKind.i64 0)) t85_51 (Value.int IntKind.i64 0)) w66 (fun t112_67 w67 =>
 Gd t112_67 true (DoV Try.prog (binS BinOp.eql 32 (Operand.tmp 115) (Operand.const (Value.int IntKind.i64 0)) t90_54 (Value.int IntKind.i64 0)) w67 (fun t116_68 w68 =>
 Gd t116_68 true (DoV Try.prog (binS BinOp.eql 32 (Operand.tmp 119) (Operand.const (Value.int IntKind.i64 0)) t103_63 (Value.int IntKind.i64 0)) w68 (fun t120_69 w69 =>
 Gd t120_69 true (DoV Try.prog (binS BinOp.eql 32 (Operand.tmp 123) (Operand.const (Value.int IntKind.i64 0)) t108_66 (Value.int IntKind.i64 0)) w69 (fun t124_70 w70 =>
 Gd t124_70 true (CallF Try.prog 18 #[t89_53, (h5 11)] w70 (fun t129_71 w71 =>
 Gd t129_71 true (CallB Try.prog Builtin.len #[39] 3 #[false] #[t107_65] w71 (fun t133_72 w72 =>
 CallB Try.prog Builtin.len #[39] 3 #[false] #[(h5 11)] w72 (fun t135_73 w73 =>
 DoV Try.prog (binS BinOp.leq 3 (Operand.tmp 133) (Operand.tmp 135) t133_72 t135_73) w73 (fun t136_74 w74 =>
 Gd t136_74 true (CallB Try.prog Builtin.len #[39] 3 #[false] #[t107_65] w74 (fun t142_75 w75 =>
 DoV Try.prog (Instr.sliceAt 39 (h5 11) none (some t142_75) none) w75 (fun t143_76 w76 =>
 CallF Try.prog 18 #[t107_65, t143_76] w76 (fun t144_77 w77 =>
 R (.returned t144_77) w77) (Pan R)) (Pan R)) (Pan R))
(R (.returned (Value.bool false)) w74)) (Pan R)) (Pan R)) (Pan R))
(R (.returned (Value.bool false)) w71)) (Pan R))
(R (.returned (Value.bool false)) w70)) (Pan R))
(R (.returned (Value.bool false)) w69)) (Pan R))
(R (.returned (Value.bool false)) w68)) (Pan R))
(R (.returned (Value.bool false)) w67)) (Pan R))
(R (.returned (Value.bool false)) w66)) (Pan R)) (Pan R)) (Pan R)) (Pan R)) (Pan R)) (Pan R)) (Pan R)) (Pan R)) (Pan R)) (Pan R)) (Pan R)) (Pan R)) (Pan R)) (Pan R)) (Pan R)) (Pan R)) (Pan R)) (Pan R)) (Pan R))) (Pan R)) (Pan R)) (Pan R)) (Pan R)) (Pan R))) (Pan R))) (Pan R))) (Pan R)) (Pan R)) (Pan R))
theorem sh_landfalllaw40_JournalEntries_eq (v0 v1 v2 v3 : Value) (R : Ending → World → Prop) (w : World) : vc Try.prog [(12, 8, false, 4199912)] [10, 11, 35] (Try.f8.body.getD .skip) (endE Try.prog Try.f8.results R) (argsE [v0, v1, v2, v3]) [] w = sh_landfalllaw40_JournalEntries v0 v1 v2 v3 R w := by kernel_rfl
theorem sh_landfalllaw40_JournalEntries_ok (v0 v1 v2 v3 : Value) {R : Ending → World → Prop} {w : World} (h : sh_landfalllaw40_JournalEntries v0 v1 v2 v3 R w) : Calls Try.prog 8 #[v0, v1, v2, v3] w R :=
  calls_of_vc (args := [v0, v1, v2, v3]) [(12, 8, false, 4199912)] [10, 11, 35] follows_mixed Try.func8 rfl (of_decide_eq_true (by kernel_rfl)) (by kernel_rfl) ((sh_landfalllaw40_JournalEntries_eq v0 v1 v2 v3 R w).symm ▸ h)
/- landfall/landfalllaw40.head -/
def sh_landfalllaw40_head (R : Ending → World → Prop) (w : World) : Prop := (
 DoV Try.prog (Instr.buildSlice 45 4 #[(0, (Value.int IntKind.i64 2)), (1, (Value.int IntKind.i64 2)), (2, (Value.int IntKind.i64 1)), (3, (Value.int IntKind.i64 1))]) w (fun t23_1 w1 =>
 CallF Try.prog 22 #[t23_1] w1 (fun t24_2 w2 =>
 DoV Try.prog (Instr.extract t24_2 0) w2 (fun t25_3 w3 =>
 DoV Try.prog (Instr.extract t24_2 1) w3 (fun t26_4 w4 =>
 CallF Try.prog 21 #[(Value.int IntKind.i64 2), (Value.int IntKind.u64 4294967297)] w4 (fun t28_5 w5 =>
 CallF Try.prog 10 #[(Value.slice none 0 0), t28_5] w5 (fun t29_6 w6 =>
 DoV Try.prog (Instr.extract t29_6 0) w6 (fun t30_7 w7 =>
 DoV Try.prog (Instr.extract t29_6 1) w7 (fun t31_8 w8 =>
 CallF Try.prog 23 #[(Value.int IntKind.i64 1)] w8 (fun t33_9 w9 =>
 CallF Try.prog 10 #[(Value.slice none 0 0), t33_9] w9 (fun t34_10 w10 =>
 DoV Try.prog (Instr.extract t34_10 0) w10 (fun t35_11 w11 =>
 DoV Try.prog (Instr.extract t34_10 1) w11 (fun t36_12 w12 =>
 CallF Try.prog 21 #[(Value.int IntKind.i64 1), (Value.int IntKind.u64 5)] w12 (fun t39_13 w13 =>
 CallF Try.prog 10 #[t35_11, t39_13] w13 (fun t40_14 w14 =>
 DoV Try.prog (Instr.extract t40_14 0) w14 (fun t41_15 w15 =>
 DoV Try.prog (Instr.extract t40_14 1) w15 (fun t42_16 w16 =>
 CallF Try.prog 13 #[t41_15] w16 (fun t45_17 w17 =>
 DoV Try.prog (Instr.extract t45_17 0) w17 (fun t46_18 w18 =>
 DoV Try.prog (Instr.extract t45_17 1) w18 (fun t47_19 w19 =>
 DoV Try.prog (Instr.extract t45_17 2) w19 (fun t48_20 w20 =>
 CallB Try.prog Builtin.len #[22] 3 #[false] #[t41_15] w20 (fun t52_21 w21 =>
 DoV Try.prog (binS BinOp.sub 3 (Operand.tmp 52) (Operand.const (Value.int IntKind.i64 1)) t52_21 (Value.int IntKind.i64 1)) w21 (fun t53_22 w22 =>
 CallB Try.prog Builtin.max #[3, 3] 3 #[true, false] #[(Value.int IntKind.i64 0), t53_22] w22 (fun t54_23 w23 =>
 DoV Try.prog (Instr.sliceAt 22 t41_15 none (some t54_23) none) w23 (fun t55_24 w24 =>
 CallF Try.prog 13 #[t55_24] w24 (fun t56_25 w25 =>
 DoV Try.prog (Instr.extract t56_25 0) w25 (fun t57_26 w26 =>
 DoV Try.prog (Instr.extract t56_25 1) w26 (fun t58_27 w27 =>
 DoV Try.prog (Instr.extract t56_25 2) w27 (fun t59_28 w28 =>
 CallF Try.prog 16 #[t46_18] w28 (fun t62_29 w29 =>
 DoV Try.prog (Instr.extract t62_29 0) w29 (fun t63_30 w30 =>
 DoV Try.prog (Instr.extract t62_29 1) w30 (fun t64_31 w31 =>
 CallF Try.prog 21 #[(Value.int IntKind.i64 1), (Value.int IntKind.u64 5)] w31 (fun t66_32 w32 =>
 CallF Try.prog 23 #[(Value.int IntKind.i64 1)] w32 (fun t67_33 w33 =>
 DoV Try.prog (Instr.buildSlice 30 2 #[(0, t66_32), (1, t67_33)]) w33 (fun t68_34 w34 =>
 CallF Try.prog 16 #[t68_34] w34 (fun t69_35 w35 =>
 DoV Try.prog (Instr.extract t69_35 0) w35 (fun _ w36 =>
 DoV Try.prog (Instr.extract t69_35 1) w36 (fun t71_37 w37 =>
 DoV Try.prog (Instr.build 29 #[(0, (Value.int IntKind.i64 3))]) w37 (fun t73_38 w38 =>
 CallF Try.prog 10 #[(Value.slice none 0 0), t73_38] w38 (fun t74_39 w39 =>
 DoV Try.prog (Instr.extract t74_39 0) w39 (fun _ w40 =>
 DoV Try.prog (Instr.extract t74_39 1) w40 (fun t76_41 w41 =>
 JoinE [21] (fun K42 =>
 DoV Try.prog (binS BinOp.eql 32 (Operand.tmp 77) (Operand.const (Value.int IntKind.i64 0)) t26_4 (Value.int IntKind.i64 0)) w41 (fun t78_43 w43 =>
 Gd t78_43 true (DoV Try.prog (binS BinOp.eql 32 (Operand.tmp 80) (Operand.const (Value.int IntKind.i64 0)) t31_8 (Value.int IntKind.i64 0)) w43 (fun t81_44 w44 =>
 Gd t81_44 true (DoV Try.prog (binS BinOp.eql 32 (Operand.tmp 84) (Operand.const (Value.int IntKind.i64 0)) t36_12 (Value.int IntKind.i64 0)) w44 (fun t85_45 w45 =>
 Gd t85_45 true (DoV Try.prog (binS BinOp.eql 32 (Operand.tmp 88) (Operand.const (Value.int IntKind.i64 0)) t42_16 (Value.int IntKind.i64 0)) w45 (fun t89_46 w46 =>
 Gd t89_46 true (DoV Try.prog (binS BinOp.eql 32 (Operand.tmp 92) (Operand.const (Value.int IntKind.i64 0)) t48_20 (Value.int IntKind.i64 0)) w46 (fun t93_47 w47 =>
 Gd t93_47 true (DoV Try.prog (binS BinOp.eql 32 (Operand.tmp 96) (Operand.const (Value.int IntKind.i64 0)) t59_28 (Value.int IntKind.i64 0)) w47 (fun t97_48 w48 =>
 Gd t97_48 true (DoV Try.prog (binS BinOp.eql 32 (Operand.tmp 100) (Operand.const (Value.int IntKind.i64 0)) t64_31 (Value.int IntKind.i64 0)) w48 (fun t101_49 w49 =>
 Gd t101_49 true (DoV Try.prog (binS BinOp.eql 32 (Operand.tmp 104) (Operand.const (Value.int IntKind.i64 7)) t71_37 (Value.int IntKind.i64 7)) w49 (fun t105_50 w50 =>
 Gd t105_50 true (DoV Try.prog (binS BinOp.eql 32 (Operand.tmp 108) (Operand.const (Value.int IntKind.i64 1)) t76_41 (Value.int IntKind.i64 1)) w50 (fun t109_51 w51 =>
 K42 [t109_51] w51) (Pan R))
(K42 [(Value.bool false)] w50)) (Pan R))
(K42 [(Value.bool false)] w49)) (Pan R))
(K42 [(Value.bool false)] w48)) (Pan R))
(K42 [(Value.bool false)] w47)) (Pan R))
(K42 [(Value.bool false)] w46)) (Pan R))
(K42 [(Value.bool false)] w45)) (Pan R))
(K42 [(Value.bool false)] w44)) (Pan R))
(K42 [(Value.bool false)] w43)) (Pan R))
(fun h52 w52 =>
 JoinE [21] (fun K53 =>
 Gd (h52 21) true (CallF Try.prog 12 #[t25_3, t30_7] w52 (fun t115_54 w54 =>
 Gd t115_54 true (CallB Try.prog Builtin.len #[22] 3 #[false] #[t25_3] w54 (fun t119_55 w55 =>
 DoV Try.prog (binS BinOp.gtr 3 (Operand.tmp 119) (Operand.const (Value.int IntKind.i64 0)) t119_55 (Value.int IntKind.i64 0)) w55 (fun t120_56 w56 =>
 Gd t120_56 true (CallF Try.prog 23 #[(Value.int IntKind.i64 1)] w56 (fun t124_57 w57 =>
 CallF Try.prog 21 #[(Value.int IntKind.i64 1), (Value.int IntKind.u64 5)] w57 (fun t125_58 w58 =>
 DoV Try.prog (Instr.buildSlice 30 2 #[(0, t124_57), (1, t125_58)]) w58 (fun t126_59 w59 =>
 CallF Try.prog 15 #[t46_18, t126_59] w59 (fun t127_60 w60 =>
 Gd t127_60 true (CallB Try.prog Builtin.len #[22] 3 #[false] #[t41_15] w60 (fun t132_61 w61 =>
 DoV Try.prog (binS BinOp.eql 3 (Operand.tmp 130) (Operand.tmp 132) t47_19 t132_61) w61 (fun t133_62 w62 =>
 K53 [t133_62] w62) (Pan R)) (Pan R))
(K53 [(Value.bool false)] w60)) (Pan R)) (Pan R)) (Pan R)) (Pan R))
(K53 [(Value.bool false)] w56)) (Pan R)) (Pan R))
(K53 [(Value.bool false)] w54)) (Pan R))
(K53 [(Value.bool false)] w52))
(fun h63 w63 =>
 Gd (h63 21) true (CallF Try.prog 23 #[(Value.int IntKind.i64 1)] w63 (fun t138_64 w64 =>
 DoV Try.prog (Instr.buildSlice 30 1 #[(0, t138_64)]) w64 (fun t139_65 w65 =>
 CallF Try.prog 15 #[t57_26, t139_65] w65 (fun t140_66 w66 =>
 Gd t140_66 true (CallB Try.prog Builtin.len #[22] 3 #[false] #[t35_11] w66 (fun t145_67 w67 =>
 DoV Try.prog (binS BinOp.eql 3 (Operand.tmp 143) (Operand.tmp 145) t58_27 t145_67) w67 (fun t146_68 w68 =>
 Gd t146_68 true (DoV Try.prog (Instr.build 26 #[(0, (Value.int IntKind.i64 1))]) w68 (fun t150_69 w69 =>
 DoV Try.prog (Instr.buildSlice 39 1 #[(0, t150_69)]) w69 (fun t151_70 w70 =>
 CallF Try.prog 18 #[t63_30, t151_70] w70 (fun t152_71 w71 =>
 R (.returned t152_71) w71) (Pan R)) (Pan R)) (Pan R))
(R (.returned (Value.bool false)) w68)) (Pan R)) (Pan R))
(R (.returned (Value.bool false)) w66)) (Pan R)) (Pan R)) (Pan R))
(R (.returned (Value.bool false)) w63)))) (Pan R)) (Pan R)) (Pan R)) (Pan R)) (Pan R)) (Pan R)) (Pan R)) (Pan R)) (Pan R)) (Pan R)) (Pan R)) (Pan R)) (Pan R)) (Pan R)) (Pan R)) (Pan R)) (Pan R)) (Pan R)) (Pan R)) (Pan R)) (Pan R)) (Pan R)) (Pan R)) (Pan R)) (Pan R)) (Pan R)) (Pan R)) (Pan R)) (Pan R)) (Pan R)) (Pan R)) (Pan R)) (Pan R)) (Pan R)) (Pan R)) (Pan R)) (Pan R)) (Pan R)) (Pan R)) (Pan R)) (Pan R))
theorem sh_landfalllaw40_head_eq (R : Ending → World → Prop) (w : World) : vc Try.prog [] [21] (Try.f9.body.getD .skip) (endE Try.prog Try.f9.results R) (argsE []) [] w = sh_landfalllaw40_head  R w := by kernel_rfl
theorem sh_landfalllaw40_head_ok {R : Ending → World → Prop} {w : World} (h : sh_landfalllaw40_head  R w) : Calls Try.prog 9 #[] w R :=
  calls_of_vc (args := []) [] [21] follows_mixed Try.func9 rfl (of_decide_eq_true (by kernel_rfl)) (by kernel_rfl) ((sh_landfalllaw40_head_eq  R w).symm ▸ h)
/- landfall/journal.Put -/
def sh_journal_Put (v0 v1 : Value) (R : Ending → World → Prop) (w : World) : Prop := (
 DoV Try.prog (Instr.box 29 v1) w (fun t3_1 w1 =>
 DoV Try.prog (Instr.loadAt 29 t3_1) w1 (fun t8_2 w2 =>
 CallF Try.prog 24 #[t8_2] w2 (fun t9_3 w3 =>
 DoV Try.prog (Op.unary UnOp.not t9_3) w3 (fun t10_4 w4 =>
 Br t10_4
(R (.returned (Value.tuple #[(Value.slice none 0 0), (Value.int IntKind.i64 1)])) w4)
(DoV Try.prog (Instr.loadAt 29 t3_1) w4 (fun t12_5 w5 =>
 CallF Try.prog 25 #[t12_5] w5 (fun t13_6 w6 =>
 CallF Try.prog 22 #[t13_6] w6 (fun t14_7 w7 =>
 DoV Try.prog (Instr.extract t14_7 0) w7 (fun t15_8 w8 =>
 DoV Try.prog (Instr.extract t14_7 1) w8 (fun t16_9 w9 =>
 JoinE [] (fun K10 =>
 JoinE [26] (fun K11 =>
 DoV Try.prog (binS BinOp.neq 32 (Operand.tmp 17) (Operand.const (Value.int IntKind.i64 0)) t16_9 (Value.int IntKind.i64 0)) w9 (fun t18_12 w12 =>
 Gd t18_12 false (CallB Try.prog Builtin.len #[22] 3 #[false] #[v0] w12 (fun t21_13 w13 =>
 CallB Try.prog Builtin.len #[22] 3 #[false] #[t15_8] w13 (fun t23_14 w14 =>
 DoV Try.prog (binS BinOp.add 3 (Operand.tmp 21) (Operand.tmp 23) t21_13 t23_14) w14 (fun t24_15 w15 =>
 DoV Try.prog (binS BinOp.gtr 3 (Operand.tmp 24) (Operand.const (Value.int IntKind.i64 200000)) t24_15 (Value.int IntKind.i64 200000)) w15 (fun t25_16 w16 =>
 K11 [t25_16] w16) (Pan R)) (Pan R)) (Pan R)) (Pan R))
(K11 [(Value.bool true)] w12)) (Pan R))
(fun h17 w17 =>
 Br (h17 26)
(R (.returned (Value.tuple #[(Value.slice none 0 0), (Value.int IntKind.i64 2)])) w17)
(K10 [] w17)))
(fun _ w18 =>
 DoV Try.prog (Instr.buildSlice 22 0 #[]) w18 (fun t27_19 w19 =>
 CallB Try.prog Builtin.append #[22, 22] 22 #[false, false] #[t27_19, v0] w19 (fun t29_20 w20 =>
 CallB Try.prog Builtin.append #[22, 22] 22 #[false, false] #[t29_20, t15_8] w20 (fun t31_21 w21 =>
 R (.returned (Value.tuple #[t31_21, (Value.int IntKind.i64 0)])) w21) (Pan R)) (Pan R)) (Pan R))) (Pan R)) (Pan R)) (Pan R)) (Pan R)) (Pan R))) (Pan R)) (Pan R)) (Pan R)) (Pan R))
theorem sh_journal_Put_eq (v0 v1 : Value) (R : Ending → World → Prop) (w : World) : vc Try.prog [] [] (Try.f10.body.getD .skip) (endE Try.prog Try.f10.results R) (argsE [v0, v1]) [] w = sh_journal_Put v0 v1 R w := by kernel_rfl
theorem sh_journal_Put_ok (v0 v1 : Value) {R : Ending → World → Prop} {w : World} (h : sh_journal_Put v0 v1 R w) : Calls Try.prog 10 #[v0, v1] w R :=
  calls_of_vc (args := [v0, v1]) [] [] follows_mixed Try.func10 rfl (of_decide_eq_true (by kernel_rfl)) (by kernel_rfl) ((sh_journal_Put_eq v0 v1 R w).symm ▸ h)
/- landfall/landfallref40.Put -/
def sh_landfallref40_Put (v0 v1 : Value) (R : Ending → World → Prop) (w : World) : Prop := (
 DoV Try.prog (Instr.box 29 v1) w (fun t3_1 w1 =>
 DoV Try.prog (Instr.loadAt 29 t3_1) w1 (fun t9_2 w2 =>
 CallF Try.prog 20 #[t9_2] w2 (fun t10_3 w3 =>
 DoV Try.prog (Op.unary UnOp.not t10_3) w3 (fun t12_4 w4 =>
 Br t12_4
(R (.returned (Value.tuple #[(Value.slice none 0 0), (Value.int IntKind.i64 1)])) w4)
(DoV Try.prog (Instr.loadAt 29 t3_1) w4 (fun t14_5 w5 =>
 CallF Try.prog 27 #[t14_5] w5 (fun t15_6 w6 =>
 CallF Try.prog 26 #[t15_6] w6 (fun t16_7 w7 =>
 DoV Try.prog (Instr.extract t16_7 0) w7 (fun t17_8 w8 =>
 DoV Try.prog (Instr.extract t16_7 1) w8 (fun _ w9 =>
 CallB Try.prog Builtin.len #[22] 3 #[false] #[v0] w9 (fun t20_10 w10 =>
 CallB Try.prog Builtin.len #[22] 3 #[false] #[t17_8] w10 (fun t22_11 w11 =>
 DoV Try.prog (binS BinOp.add 3 (Operand.tmp 20) (Operand.tmp 22) t20_10 t22_11) w11 (fun t23_12 w12 =>
 DoV Try.prog (binS BinOp.gtr 3 (Operand.tmp 23) (Operand.const (Value.int IntKind.i64 200000)) t23_12 (Value.int IntKind.i64 200000)) w12 (fun t24_13 w13 =>
 Br t24_13
(R (.returned (Value.tuple #[(Value.slice none 0 0), (Value.int IntKind.i64 2)])) w13)
(DoV Try.prog (Instr.buildSlice 22 0 #[]) w13 (fun t25_14 w14 =>
 CallB Try.prog Builtin.append #[22, 22] 22 #[false, false] #[t25_14, v0] w14 (fun t27_15 w15 =>
 CallB Try.prog Builtin.append #[22, 22] 22 #[false, false] #[t27_15, t17_8] w15 (fun t29_16 w16 =>
 R (.returned (Value.tuple #[t29_16, (Value.int IntKind.i64 0)])) w16) (Pan R)) (Pan R)) (Pan R))) (Pan R)) (Pan R)) (Pan R)) (Pan R)) (Pan R)) (Pan R)) (Pan R)) (Pan R)) (Pan R))) (Pan R)) (Pan R)) (Pan R)) (Pan R))
theorem sh_landfallref40_Put_eq (v0 v1 : Value) (R : Ending → World → Prop) (w : World) : vc Try.prog [] [] (Try.f11.body.getD .skip) (endE Try.prog Try.f11.results R) (argsE [v0, v1]) [] w = sh_landfallref40_Put v0 v1 R w := by kernel_rfl
theorem sh_landfallref40_Put_ok (v0 v1 : Value) {R : Ending → World → Prop} {w : World} (h : sh_landfallref40_Put v0 v1 R w) : Calls Try.prog 11 #[v0, v1] w R :=
  calls_of_vc (args := [v0, v1]) [] [] follows_mixed Try.func11 rfl (of_decide_eq_true (by kernel_rfl)) (by kernel_rfl) ((sh_landfallref40_Put_eq v0 v1 R w).symm ▸ h)
/- landfall/landfallref08.SameBytes -/
def sh_landfallref08_SameBytes (v0 v1 : Value) (R : Ending → World → Prop) (w : World) : Prop := (
 DoV Try.prog (convert 22 9 v0) w (fun t6_1 w1 =>
 DoV Try.prog (convert 22 9 v1) w1 (fun t8_2 w2 =>
 DoV Try.prog (binS BinOp.eql 9 (Operand.tmp 6) (Operand.tmp 8) t6_1 t8_2) w2 (fun t9_3 w3 =>
 R (.returned t9_3) w3) (Pan R)) (Pan R)) (Pan R))
theorem sh_landfallref08_SameBytes_eq (v0 v1 : Value) (R : Ending → World → Prop) (w : World) : vc Try.prog [] [] (Try.f12.body.getD .skip) (endE Try.prog Try.f12.results R) (argsE [v0, v1]) [] w = sh_landfallref08_SameBytes v0 v1 R w := by kernel_rfl
theorem sh_landfallref08_SameBytes_ok (v0 v1 : Value) {R : Ending → World → Prop} {w : World} (h : sh_landfallref08_SameBytes v0 v1 R w) : Calls Try.prog 12 #[v0, v1] w R :=
  calls_of_vc (args := [v0, v1]) [] [] follows_mixed Try.func12 rfl (of_decide_eq_true (by kernel_rfl)) (by kernel_rfl) ((sh_landfallref08_SameBytes_eq v0 v1 R w).symm ▸ h)
/- landfall/journal.Load -/
def sh_journal_Load (v0 : Value) (R : Ending → World → Prop) (w : World) : Prop := (
 CallF Try.prog 28 #[v0] w (fun t18_1 w1 =>
 DoV Try.prog (Instr.extract t18_1 0) w1 (fun t19_2 w2 =>
 DoV Try.prog (Instr.extract t18_1 1) w2 (fun _ w3 =>
 DoV Try.prog (Instr.extract t18_1 2) w3 (fun t21_4 w4 =>
 DoV Try.prog (binS BinOp.neq 32 (Operand.tmp 22) (Operand.const (Value.int IntKind.i64 0)) t21_4 (Value.int IntKind.i64 0)) w4 (fun t23_5 w5 =>
 Br t23_5
(R (.returned (Value.tuple #[(Value.slice none 0 0), (Value.int IntKind.i64 0), t21_4])) w5)
(JoinE [8, 9, 27] (fun K6 =>
 CallB Try.prog Builtin.len #[59] 3 #[false] #[t19_2] w5 (fun t26_7 w7 =>
 LoopE [8, 9, 27] [(Value.slice none 0 0), (Value.int IntKind.i64 0), (Value.int IntKind.i64 0)] w7 (fun h8 w8 K8 =>
 DoV Try.prog (binS BinOp.lss 3 (Operand.tmp 27) (Operand.tmp 26) (h8 27) t26_7) w8 (fun t28_9 w9 =>
 Br t28_9
(DoV Try.prog (Instr.indexAt 59 t19_2 (h8 27)) w9 (fun t29_10 w10 =>
 DoV Try.prog (Instr.loadAt 45 t29_10) w10 (fun t30_11 w11 =>
 CallF Try.prog 29 #[t30_11] w11 (fun t33_12 w12 =>
 DoV Try.prog (Instr.extract t33_12 0) w12 (fun t34_13 w13 =>
 DoV Try.prog (Instr.extract t33_12 1) w13 (fun t35_14 w14 =>
 DoV Try.prog (Instr.alloc 29 true (.tuple #[])) w14 (fun t12_15 w15 =>
 DoU Try.prog (Instr.storeAt 29 t12_15 t34_13) w15 (fun _ w16 =>
 DoV Try.prog (Op.unary UnOp.not t35_14) w16 (fun t37_17 w17 =>
 Br t37_17
(K6 [(h8 8), (h8 9), (h8 27)] w17)
(CallF Try.prog 22 #[t30_11] w17 (fun t40_18 w18 =>
 DoV Try.prog (Instr.extract t40_18 0) w18 (fun t41_19 w19 =>
 DoV Try.prog (Instr.extract t40_18 1) w19 (fun _ w20 =>
 DoV Try.prog (Instr.loadAt 29 t12_15) w20 (fun t44_21 w21 =>
 DoV Try.prog (Instr.buildSlice 30 1 #[(0, t44_21)]) w21 (fun t45_22 w22 =>
 CallB Try.prog Builtin.append #[30, 30] 30 #[false, false] #[(h8 8), t45_22] w22 (fun t46_23 w23 =>
 CallB Try.prog Builtin.len #[22] 3 #[false] #[t41_19] w23 (fun t49_24 w24 =>
 DoV Try.prog (binS BinOp.add 3 (Operand.tmp 47) (Operand.tmp 49) (h8 9) t49_24) w24 (fun t50_25 w25 =>
 DoV Try.prog (binS BinOp.add 3 (Operand.tmp 27) (Operand.const (Value.int IntKind.i64 1)) (h8 27) (Value.int IntKind.i64 1)) w25 (fun t51_26 w26 =>
 K8 [t46_23, t50_25, t51_26] w26) (Pan R)) (Pan R)) (Pan R)) (Pan R)) (Pan R)) (Pan R)) (Pan R)) (Pan R)) (Pan R))) (Pan R)) (Pan R)) (Pan R)) (Pan R)) (Pan R)) (Pan R)) (Pan R)) (Pan R))
(K6 [(h8 8), (h8 9), (h8 27)] w9)) (Pan R))) (Pan R))
(fun h27 w27 =>
 R (.returned (Value.tuple #[(h27 8), (h27 9), (Value.int IntKind.i64 0)])) w27))) (Pan R)) (Pan R)) (Pan R)) (Pan R)) (Pan R))
theorem sh_journal_Load_eq (v0 : Value) (R : Ending → World → Prop) (w : World) : vc Try.prog [] [8, 9, 27] (Try.f13.body.getD .skip) (endE Try.prog Try.f13.results R) (argsE [v0]) [] w = sh_journal_Load v0 R w := by kernel_rfl
theorem sh_journal_Load_ok (v0 : Value) {R : Ending → World → Prop} {w : World} (h : sh_journal_Load v0 R w) : Calls Try.prog 13 #[v0] w R :=
  calls_of_vc (args := [v0]) [] [8, 9, 27] follows_mixed Try.func13 rfl (of_decide_eq_true (by kernel_rfl)) (by kernel_rfl) ((sh_journal_Load_eq v0 R w).symm ▸ h)
/- landfall/landfallref40.Load -/
def sh_landfallref40_Load (v0 : Value) (R : Ending → World → Prop) (w : World) : Prop := (
 CallF Try.prog 30 #[v0] w (fun t17_1 w1 =>
 DoV Try.prog (Instr.extract t17_1 0) w1 (fun t18_2 w2 =>
 DoV Try.prog (Instr.extract t17_1 1) w2 (fun _ w3 =>
 DoV Try.prog (Instr.extract t17_1 2) w3 (fun t20_4 w4 =>
 DoV Try.prog (binS BinOp.neq 32 (Operand.tmp 21) (Operand.const (Value.int IntKind.i64 0)) t20_4 (Value.int IntKind.i64 0)) w4 (fun t22_5 w5 =>
 Br t22_5
(R (.returned (Value.tuple #[(Value.slice none 0 0), (Value.int IntKind.i64 0), t20_4])) w5)
(LoopE [8, 9, 10] [(Value.slice none 0 0), (Value.int IntKind.i64 0), (Value.int IntKind.i64 0)] w5 (fun h6 w6 K6 =>
 CallB Try.prog Builtin.len #[59] 3 #[false] #[t18_2] w6 (fun t26_7 w7 =>
 DoV Try.prog (binS BinOp.lss 3 (Operand.tmp 24) (Operand.tmp 26) (h6 10) t26_7) w7 (fun t27_8 w8 =>
 Br t27_8
(DoV Try.prog (Instr.indexAt 59 t18_2 (h6 10)) w8 (fun t33_9 w9 =>
 DoV Try.prog (Instr.loadAt 45 t33_9) w9 (fun t34_10 w10 =>
 CallF Try.prog 31 #[t34_10] w10 (fun t35_11 w11 =>
 DoV Try.prog (Instr.extract t35_11 0) w11 (fun t36_12 w12 =>
 DoV Try.prog (Instr.extract t35_11 1) w12 (fun t37_13 w13 =>
 DoV Try.prog (Instr.alloc 29 true (.tuple #[])) w13 (fun t11_14 w14 =>
 DoU Try.prog (Instr.storeAt 29 t11_14 t36_12) w14 (fun _ w15 =>
 DoV Try.prog (Op.unary UnOp.not t37_13) w15 (fun t39_16 w16 =>
 Br t39_16
(R (.returned (Value.tuple #[(h6 8), (h6 9), (Value.int IntKind.i64 0)])) w16)
(DoV Try.prog (Instr.indexAt 59 t18_2 (h6 10)) w16 (fun t45_17 w17 =>
 DoV Try.prog (Instr.loadAt 45 t45_17) w17 (fun t46_18 w18 =>
 CallF Try.prog 26 #[t46_18] w18 (fun t47_19 w19 =>
 DoV Try.prog (Instr.extract t47_19 0) w19 (fun t48_20 w20 =>
 DoV Try.prog (Instr.extract t47_19 1) w20 (fun _ w21 =>
 DoV Try.prog (Instr.loadAt 29 t11_14) w21 (fun t51_22 w22 =>
 DoV Try.prog (Instr.buildSlice 30 1 #[(0, t51_22)]) w22 (fun t52_23 w23 =>
 CallB Try.prog Builtin.append #[30, 30] 30 #[false, false] #[(h6 8), t52_23] w23 (fun t53_24 w24 =>
 CallB Try.prog Builtin.len #[22] 3 #[false] #[t48_20] w24 (fun t56_25 w25 =>
 DoV Try.prog (binS BinOp.add 3 (Operand.tmp 54) (Operand.tmp 56) (h6 9) t56_25) w25 (fun t57_26 w26 =>
 DoV Try.prog (binS BinOp.add 3 (Operand.tmp 28) (Operand.const (Value.int IntKind.i64 1)) (h6 10) (Value.int IntKind.i64 1)) w26 (fun t29_27 w27 =>
 K6 [t53_24, t57_26, t29_27] w27) (Pan R)) (Pan R)) (Pan R)) (Pan R)) (Pan R)) (Pan R)) (Pan R)) (Pan R)) (Pan R)) (Pan R)) (Pan R))) (Pan R)) (Pan R)) (Pan R)) (Pan R)) (Pan R)) (Pan R)) (Pan R)) (Pan R))
(R (.returned (Value.tuple #[(h6 8), (h6 9), (Value.int IntKind.i64 0)])) w8)) (Pan R)) (Pan R)))) (Pan R)) (Pan R)) (Pan R)) (Pan R)) (Pan R))
theorem sh_landfallref40_Load_eq (v0 : Value) (R : Ending → World → Prop) (w : World) : vc Try.prog [] [8, 9, 10] (Try.f14.body.getD .skip) (endE Try.prog Try.f14.results R) (argsE [v0]) [] w = sh_landfallref40_Load v0 R w := by kernel_rfl
theorem sh_landfallref40_Load_ok (v0 : Value) {R : Ending → World → Prop} {w : World} (h : sh_landfallref40_Load v0 R w) : Calls Try.prog 14 #[v0] w R :=
  calls_of_vc (args := [v0]) [] [8, 9, 10] follows_mixed Try.func14 rfl (of_decide_eq_true (by kernel_rfl)) (by kernel_rfl) ((sh_landfallref40_Load_eq v0 R w).symm ▸ h)
/- landfall/landfallref40.Same -/
def sh_landfallref40_Same (v0 v1 : Value) (R : Ending → World → Prop) (w : World) : Prop := (
 CallB Try.prog Builtin.len #[30] 3 #[false] #[v0] w (fun t7_1 w1 =>
 CallB Try.prog Builtin.len #[30] 3 #[false] #[v1] w1 (fun t9_2 w2 =>
 DoV Try.prog (binS BinOp.neq 3 (Operand.tmp 7) (Operand.tmp 9) t7_1 t9_2) w2 (fun t10_3 w3 =>
 Br t10_3
(R (.returned (Value.bool false)) w3)
(LoopE [5] [(Value.int IntKind.i64 0)] w3 (fun h4 w4 K4 =>
 CallB Try.prog Builtin.len #[30] 3 #[false] #[v0] w4 (fun t13_5 w5 =>
 DoV Try.prog (binS BinOp.lss 3 (Operand.tmp 11) (Operand.tmp 13) (h4 5) t13_5) w5 (fun t14_6 w6 =>
 Br t14_6
(DrawE w6 (fun Rs7 Rb7 w7 =>
 DetOp Rb7 Rs7 w7 (fun w8 K8 => DoV Try.prog (Instr.indexAt 30 v0 (h4 5)) w8 K8 (Pan R)) (fun c19_8 ψ8 =>
 DetOp Rb7 Rs7 w7 (fun w9 K9 => DoV Try.prog (Instr.loadAt 29 c19_8) w9 K9 (Pan R)) (fun c20_9 ψ9 =>
 DetOp Rb7 Rs7 w7 (fun w10 K10 => DoV Try.prog (Instr.indexAt 30 v1 (h4 5)) w10 K10 (Pan R)) (fun c23_10 ψ10 =>
 DetOp Rb7 Rs7 w7 (fun w11 K11 => DoV Try.prog (Instr.loadAt 29 c23_10) w11 K11 (Pan R)) (fun c24_11 ψ11 =>
 ∀ w12, Rb7 w7 w12 → ((((True ∧ ψ8 w12) ∧ ψ9 w12) ∧ ψ10 w12) ∧ ψ11 w12) →
 DoV Try.prog (binS BinOp.neq 29 (Operand.tmp 20) (Operand.tmp 24) c20_9 c24_11) w12 (fun t25_13 w13 =>
 Br t25_13
(R (.returned (Value.bool false)) w13)
(DoV Try.prog (binS BinOp.add 3 (Operand.tmp 15) (Operand.const (Value.int IntKind.i64 1)) (h4 5) (Value.int IntKind.i64 1)) w13 (fun t16_14 w14 =>
 K4 [t16_14] w14) (Pan R))) (Pan R)))))))
(R (.returned (Value.bool true)) w6)) (Pan R)) (Pan R)))) (Pan R)) (Pan R)) (Pan R))
theorem sh_landfallref40_Same_eq (v0 v1 : Value) (R : Ending → World → Prop) (w : World) : vc Try.prog [(6, 8, false, 0)] [5] (Try.f15.body.getD .skip) (endE Try.prog Try.f15.results R) (argsE [v0, v1]) [] w = sh_landfallref40_Same v0 v1 R w := by kernel_rfl
theorem sh_landfallref40_Same_ok (v0 v1 : Value) {R : Ending → World → Prop} {w : World} (h : sh_landfallref40_Same v0 v1 R w) : Calls Try.prog 15 #[v0, v1] w R :=
  calls_of_vc (args := [v0, v1]) [(6, 8, false, 0)] [5] follows_mixed Try.func15 rfl (of_decide_eq_true (by kernel_rfl)) (by kernel_rfl) ((sh_landfallref40_Same_eq v0 v1 R w).symm ▸ h)
/- landfall/journal.Entries -/
def sh_journal_Entries (v0 : Value) (R : Ending → World → Prop) (w : World) : Prop := (
 CallB Try.prog Builtin.len #[30] 3 #[false] #[v0] w (fun t10_1 w1 =>
 DoV Try.prog (binS BinOp.gtr 3 (Operand.tmp 10) (Operand.const (Value.int IntKind.i64 4000)) t10_1 (Value.int IntKind.i64 4000)) w1 (fun t11_2 w2 =>
 Br t11_2
(R (.returned (Value.tuple #[(Value.slice none 0 0), (Value.int IntKind.i64 2)])) w2)
(CallB Try.prog Builtin.len #[30] 3 #[false] #[v0] w2 (fun t13_3 w3 =>
 LoopE [14] [(Value.int IntKind.i64 0)] w3 (fun h4 w4 K4 =>
 DoV Try.prog (binS BinOp.lss 3 (Operand.tmp 14) (Operand.tmp 13) (h4 14) t13_3) w4 (fun t15_5 w5 =>
 Br t15_5
(DoV Try.prog (Instr.indexAt 30 v0 (h4 14)) w5 (fun t16_6 w6 =>
 DoV Try.prog (Instr.loadAt 29 t16_6) w6 (fun t17_7 w7 =>
 DoV Try.prog (Instr.alloc 29 true (.tuple #[])) w7 (fun t5_8 w8 =>
 DoU Try.prog (Instr.storeAt 29 t5_8 t17_7) w8 (fun _ w9 =>
 DoV Try.prog (Instr.loadAt 29 t5_8) w9 (fun t18_10 w10 =>
 CallF Try.prog 24 #[t18_10] w10 (fun t19_11 w11 =>
 DoV Try.prog (Op.unary UnOp.not t19_11) w11 (fun t20_12 w12 =>
 Br t20_12
(R (.returned (Value.tuple #[(Value.slice none 0 0), (Value.int IntKind.i64 1)])) w12)
(DoV Try.prog (binS BinOp.add 3 (Operand.tmp 14) (Operand.const (Value.int IntKind.i64 1)) (h4 14) (Value.int IntKind.i64 1)) w12 (fun t21_13 w13 =>
 K4 [t21_13] w13) (Pan R))) (Pan R)) (Pan R)) (Pan R)) (Pan R)) (Pan R)) (Pan R)) (Pan R))
(CallB Try.prog Builtin.len #[30] 3 #[false] #[v0] w5 (fun t23_14 w14 =>
 LoopE [6, 24] [(Value.slice none 0 0), (Value.int IntKind.i64 0)] w14 (fun h15 w15 K15 =>
 DoV Try.prog (binS BinOp.lss 3 (Operand.tmp 24) (Operand.tmp 23) (h15 24) t23_14) w15 (fun t25_16 w16 =>
 Br t25_16
(JoinE [6] (fun K17 =>
 DoV Try.prog (Instr.indexAt 30 v0 (h15 24)) w16 (fun t26_18 w18 =>
 DoV Try.prog (Instr.loadAt 29 t26_18) w18 (fun t27_19 w19 =>
 DoV Try.prog (Instr.alloc 29 true (.tuple #[])) w19 (fun t8_20 w20 =>
 DoU Try.prog (Instr.storeAt 29 t8_20 t27_19) w20 (fun _ w21 =>
 JoinE [28] (fun K22 =>
 DoV Try.prog (Instr.fieldAt 29 t8_20 0) w21 (fun t29_23 w23 =>
 DoV Try.prog (Instr.loadAt 3 t29_23) w23 (fun t30_24 w24 =>
 DoV Try.prog (binS BinOp.eql 3 (Operand.tmp 30) (Operand.const (Value.int IntKind.i64 1)) t30_24 (Value.int IntKind.i64 1)) w24 (fun t31_25 w25 =>
 Gd t31_25 true (DoV Try.prog (Instr.fieldAt 29 t8_20 1) w25 (fun t33_26 w26 =>
 DoV Try.prog (Instr.fieldAt 26 t33_26 0) w26 (fun t34_27 w27 =>
 DoV Try.prog (Instr.loadAt 3 t34_27) w27 (fun t35_28 w28 =>
 CallB Try.prog Builtin.len #[39] 3 #[false] #[(h15 6)] w28 (fun t37_29 w29 =>
 DoV Try.prog (binS BinOp.add 3 (Operand.tmp 37) (Operand.const (Value.int IntKind.i64 1)) t37_29 (Value.int IntKind.i64 1)) w29 (fun t38_30 w30 =>
 DoV Try.prog (binS BinOp.eql 3 (Operand.tmp 35) (Operand.tmp 38) t35_28 t38_30) w30 (fun t39_31 w31 =>
 K22 [t39_31] w31) (Pan R)) (Pan R)) (Pan R)) (Pan R)) (Pan R)) (Pan R))
(K22 [(Value.bool false)] w25)) (Pan R)) (Pan R)) (Pan R))
(fun h32 w32 =>
 Br (h32 28)
(DoV Try.prog (Instr.fieldAt 29 t8_20 1) w32 (fun t42_33 w33 =>
 DoV Try.prog (Instr.loadAt 26 t42_33) w33 (fun t43_34 w34 =>
 DoV Try.prog (Instr.buildSlice 39 1 #[(0, t43_34)]) w34 (fun t44_35 w35 =>
 CallB Try.prog Builtin.append #[39, 39] 39 #[false, false] #[(h15 6), t44_35] w35 (fun t45_36 w36 =>
 K17 [t45_36] w36) (Pan R)) (Pan R)) (Pan R)) (Pan R))
(JoinE [46] (fun K37 =>
 DoV Try.prog (Instr.fieldAt 29 t8_20 0) w32 (fun t47_38 w38 =>
 DoV Try.prog (Instr.loadAt 3 t47_38) w38 (fun t48_39 w39 =>
 DoV Try.prog (binS BinOp.eql 3 (Operand.tmp 48) (Operand.const (Value.int IntKind.i64 1)) t48_39 (Value.int IntKind.i64 1)) w39 (fun t49_40 w40 =>
 Gd t49_40 false (DoV Try.prog (Instr.fieldAt 29 t8_20 2) w40 (fun t51_41 w41 =>
 DoV Try.prog (Instr.loadAt 3 t51_41) w41 (fun t52_42 w42 =>
 CallB Try.prog Builtin.len #[39] 3 #[false] #[(h15 6)] w42 (fun t54_43 w43 =>
 DoV Try.prog (binS BinOp.neq 3 (Operand.tmp 52) (Operand.tmp 54) t52_42 t54_43) w43 (fun t55_44 w44 =>
 K37 [t55_44] w44) (Pan R)) (Pan R)) (Pan R)) (Pan R))
(K37 [(Value.bool true)] w40)) (Pan R)) (Pan R)) (Pan R))
(fun h45 w45 =>
 Br (h45 46)
(R (.returned (Value.tuple #[(Value.slice none 0 0), (Value.int IntKind.i64 7)])) w45)
(K17 [(h15 6)] w45))))) (Pan R)) (Pan R)) (Pan R)) (Pan R))
(fun h46 w46 =>
 DoV Try.prog (binS BinOp.add 3 (Operand.tmp 24) (Operand.const (Value.int IntKind.i64 1)) (h15 24) (Value.int IntKind.i64 1)) w46 (fun t57_47 w47 =>
 K15 [(h46 6), t57_47] w47) (Pan R)))
(R (.returned (Value.tuple #[(h15 6), (Value.int IntKind.i64 0)])) w16)) (Pan R))) (Pan R))) (Pan R))) (Pan R))) (Pan R)) (Pan R))
theorem sh_journal_Entries_eq (v0 : Value) (R : Ending → World → Prop) (w : World) : vc Try.prog [] [6, 14, 24] (Try.f16.body.getD .skip) (endE Try.prog Try.f16.results R) (argsE [v0]) [] w = sh_journal_Entries v0 R w := by kernel_rfl
theorem sh_journal_Entries_ok (v0 : Value) {R : Ending → World → Prop} {w : World} (h : sh_journal_Entries v0 R w) : Calls Try.prog 16 #[v0] w R :=
  calls_of_vc (args := [v0]) [] [6, 14, 24] follows_mixed Try.func16 rfl (of_decide_eq_true (by kernel_rfl)) (by kernel_rfl) ((sh_journal_Entries_eq v0 R w).symm ▸ h)
/- landfall/landfallref40.Entries -/
def sh_landfallref40_Entries (v0 : Value) (R : Ending → World → Prop) (w : World) : Prop := (
 CallB Try.prog Builtin.len #[30] 3 #[false] #[v0] w (fun t9_1 w1 =>
 DoV Try.prog (binS BinOp.gtr 3 (Operand.tmp 9) (Operand.const (Value.int IntKind.i64 4000)) t9_1 (Value.int IntKind.i64 4000)) w1 (fun t10_2 w2 =>
 Br t10_2
(R (.returned (Value.tuple #[(Value.slice none 0 0), (Value.int IntKind.i64 2)])) w2)
(LoopE [4] [(Value.int IntKind.i64 0)] w2 (fun h3 w3 K3 =>
 CallB Try.prog Builtin.len #[30] 3 #[false] #[v0] w3 (fun t13_4 w4 =>
 DoV Try.prog (binS BinOp.lss 3 (Operand.tmp 11) (Operand.tmp 13) (h3 4) t13_4) w4 (fun t14_5 w5 =>
 Br t14_5
(DoV Try.prog (Instr.indexAt 30 v0 (h3 4)) w5 (fun t19_6 w6 =>
 DoV Try.prog (Instr.loadAt 29 t19_6) w6 (fun t20_7 w7 =>
 CallF Try.prog 20 #[t20_7] w7 (fun t21_8 w8 =>
 DoV Try.prog (Op.unary UnOp.not t21_8) w8 (fun t23_9 w9 =>
 Br t23_9
(R (.returned (Value.tuple #[(Value.slice none 0 0), (Value.int IntKind.i64 1)])) w9)
(DoV Try.prog (binS BinOp.add 3 (Operand.tmp 15) (Operand.const (Value.int IntKind.i64 1)) (h3 4) (Value.int IntKind.i64 1)) w9 (fun t16_10 w10 =>
 K3 [t16_10] w10) (Pan R))) (Pan R)) (Pan R)) (Pan R)) (Pan R))
(CallF Try.prog 32 #[v0] w5 (fun t26_11 w11 =>
 DoV Try.prog (Instr.extract t26_11 0) w11 (fun t27_12 w12 =>
 DoV Try.prog (Instr.extract t26_11 1) w12 (fun t28_13 w13 =>
 DoV Try.prog (Op.unary UnOp.not t28_13) w13 (fun t30_14 w14 =>
 Br t30_14
(R (.returned (Value.tuple #[(Value.slice none 0 0), (Value.int IntKind.i64 7)])) w14)
(R (.returned (Value.tuple #[t27_12, (Value.int IntKind.i64 0)])) w14)) (Pan R)) (Pan R)) (Pan R)) (Pan R))) (Pan R)) (Pan R)))) (Pan R)) (Pan R))
theorem sh_landfallref40_Entries_eq (v0 : Value) (R : Ending → World → Prop) (w : World) : vc Try.prog [] [4] (Try.f17.body.getD .skip) (endE Try.prog Try.f17.results R) (argsE [v0]) [] w = sh_landfallref40_Entries v0 R w := by kernel_rfl
theorem sh_landfallref40_Entries_ok (v0 : Value) {R : Ending → World → Prop} {w : World} (h : sh_landfallref40_Entries v0 R w) : Calls Try.prog 17 #[v0] w R :=
  calls_of_vc (args := [v0]) [] [4] follows_mixed Try.func17 rfl (of_decide_eq_true (by kernel_rfl)) (by kernel_rfl) ((sh_landfallref40_Entries_eq v0 R w).symm ▸ h)
/- landfall/landfallref40.SameEntries -/
def sh_landfallref40_SameEntries (v0 v1 : Value) (R : Ending → World → Prop) (w : World) : Prop := (
 CallB Try.prog Builtin.len #[39] 3 #[false] #[v0] w (fun t7_1 w1 =>
 CallB Try.prog Builtin.len #[39] 3 #[false] #[v1] w1 (fun t9_2 w2 =>
 DoV Try.prog (binS BinOp.neq 3 (Operand.tmp 7) (Operand.tmp 9) t7_1 t9_2) w2 (fun t10_3 w3 =>
 Br t10_3
(R (.returned (Value.bool false)) w3)
(LoopE [5] [(Value.int IntKind.i64 0)] w3 (fun h4 w4 K4 =>
 CallB Try.prog Builtin.len #[39] 3 #[false] #[v0] w4 (fun t13_5 w5 =>
 DoV Try.prog (binS BinOp.lss 3 (Operand.tmp 11) (Operand.tmp 13) (h4 5) t13_5) w5 (fun t14_6 w6 =>
 Br t14_6
(DrawE w6 (fun Rs7 Rb7 w7 =>
 DetOp Rb7 Rs7 w7 (fun w8 K8 => DoV Try.prog (Instr.indexAt 39 v0 (h4 5)) w8 K8 (Pan R)) (fun c19_8 ψ8 =>
 DetOp Rb7 Rs7 w7 (fun w9 K9 => DoV Try.prog (Instr.loadAt 26 c19_8) w9 K9 (Pan R)) (fun c20_9 ψ9 =>
 DetOp Rb7 Rs7 w7 (fun w10 K10 => DoV Try.prog (Instr.indexAt 39 v1 (h4 5)) w10 K10 (Pan R)) (fun c23_10 ψ10 =>
 DetOp Rb7 Rs7 w7 (fun w11 K11 => DoV Try.prog (Instr.loadAt 26 c23_10) w11 K11 (Pan R)) (fun c24_11 ψ11 =>
 ∀ w12, Rb7 w7 w12 → ((((True ∧ ψ8 w12) ∧ ψ9 w12) ∧ ψ10 w12) ∧ ψ11 w12) →
 DoV Try.prog (binS BinOp.neq 26 (Operand.tmp 20) (Operand.tmp 24) c20_9 c24_11) w12 (fun t25_13 w13 =>
 Br t25_13
(R (.returned (Value.bool false)) w13)
(DoV Try.prog (binS BinOp.add 3 (Operand.tmp 15) (Operand.const (Value.int IntKind.i64 1)) (h4 5) (Value.int IntKind.i64 1)) w13 (fun t16_14 w14 =>
 K4 [t16_14] w14) (Pan R))) (Pan R)))))))
(R (.returned (Value.bool true)) w6)) (Pan R)) (Pan R)))) (Pan R)) (Pan R)) (Pan R))
theorem sh_landfallref40_SameEntries_eq (v0 v1 : Value) (R : Ending → World → Prop) (w : World) : vc Try.prog [(6, 8, false, 0)] [5] (Try.f18.body.getD .skip) (endE Try.prog Try.f18.results R) (argsE [v0, v1]) [] w = sh_landfallref40_SameEntries v0 v1 R w := by kernel_rfl
theorem sh_landfallref40_SameEntries_ok (v0 v1 : Value) {R : Ending → World → Prop} {w : World} (h : sh_landfallref40_SameEntries v0 v1 R w) : Calls Try.prog 18 #[v0, v1] w R :=
  calls_of_vc (args := [v0, v1]) [(6, 8, false, 0)] [5] follows_mixed Try.func18 rfl (of_decide_eq_true (by kernel_rfl)) (by kernel_rfl) ((sh_landfallref40_SameEntries_eq v0 v1 R w).symm ▸ h)
/- landfall/landfalllaw40.written -/
def sh_landfalllaw40_written (v0 : Value) (R : Ending → World → Prop) (w : World) : Prop := (
 LoopE [6, 7, 8, 9] [(Value.slice none 0 0), (Value.slice none 0 0), (Value.slice none 0 0), (Value.int IntKind.i64 0)] w (fun h1 w1 K1 =>
 CallB Try.prog Builtin.len #[30] 3 #[false] #[v0] w1 (fun t14_2 w2 =>
 DoV Try.prog (binS BinOp.lss 3 (Operand.tmp 12) (Operand.tmp 14) (h1 9) t14_2) w2 (fun t15_3 w3 =>
 Br t15_3
(JoinE [6, 7, 8] (fun K4 =>
 DoV Try.prog (Instr.indexAt 30 v0 (h1 9)) w3 (fun t20_5 w5 =>
 DoV Try.prog (Instr.loadAt 29 t20_5) w5 (fun t21_6 w6 =>
 CallF Try.prog 20 #[t21_6] w6 (fun t22_7 w7 =>
 DoV Try.prog (Op.unary UnOp.not t22_7) w7 (fun t23_8 w8 =>
 Br t23_8
(K4 [(h1 6), (h1 7), (h1 8)] w8)
(DoV Try.prog (Instr.indexAt 30 v0 (h1 9)) w8 (fun t28_9 w9 =>
 DoV Try.prog (Instr.loadAt 29 t28_9) w9 (fun t29_10 w10 =>
 CallF Try.prog 10 #[(h1 6), t29_10] w10 (fun t30_11 w11 =>
 DoV Try.prog (Instr.extract t30_11 0) w11 (fun t31_12 w12 =>
 DoV Try.prog (Instr.extract t30_11 1) w12 (fun t32_13 w13 =>
 DoV Try.prog (binS BinOp.neq 32 (Operand.tmp 33) (Operand.const (Value.int IntKind.i64 0)) t32_13 (Value.int IntKind.i64 0)) w13 (fun t34_14 w14 =>
 Br t34_14
(R (.returned (Value.tuple #[(Value.slice none 0 0), (Value.slice none 0 0), (Value.slice none 0 0), (Value.bool false)])) w14)
(DrawR w14 (fun R15 S15 w15 =>
 DetOp R15 (Both R15 S15) w15 (fun w16 K16 => CallB Try.prog Builtin.len #[22] 3 #[false] #[t31_12] w16 K16 (Pan R)) (fun c38_16 ψ16 =>
 DetOp R15 (Both R15 S15) w15 (fun w17 K17 => DoV Try.prog (Instr.indexAt 30 v0 (h1 9)) w17 K17 (Pan R)) (fun c44_17 ψ17 =>
 DetOp R15 (Both R15 S15) w15 (fun w18 K18 => DoV Try.prog (Instr.loadAt 29 c44_17) w18 K18 (Pan R)) (fun c45_18 ψ18 =>
 ThrE R15 S15 0 w15 (fun Θ15_0 T15_0 =>
 NdC R15 S15 0 w15 Θ15_0 (fun w19 K19 => DoV Try.prog (Instr.buildSlice 45 1 #[(0, c38_16)]) w19 K19 (Pan R)) (fun v39_19 φ19 =>
 NdC R15 S15 0 w15 φ19 (fun w20 K20 => CallB Try.prog Builtin.append #[45, 45] 45 #[false, false] #[(h1 7), v39_19] w20 K20 (Pan R)) (fun v40_20 φ20 =>
 T15_0 [v39_19, v40_20] φ20))) (fun Φ15_0 =>
 ThrE R15 S15 1 w15 (fun Θ15_1 T15_1 =>
 NdC R15 S15 1 w15 Θ15_1 (fun w21 K21 => DoV Try.prog (Instr.buildSlice 30 1 #[(0, c45_18)]) w21 K21 (Pan R)) (fun v46_21 φ21 =>
 NdC R15 S15 1 w15 φ21 (fun w22 K22 => CallB Try.prog Builtin.append #[30, 30] 30 #[false, false] #[(h1 8), v46_21] w22 K22 (Pan R)) (fun v47_22 φ22 =>
 T15_1 [v46_21, v47_22] φ22))) (fun Φ15_1 =>
 ∀ (h23 : Nat → Value) (w24 : World), R15 w15 w24 → (((True ∧ ψ16 w24) ∧ ψ17 w24) ∧ ψ18 w24) ∧ ((True ∧ Φ15_0 [(h23 39), (h23 40)] w24) ∧ Φ15_1 [(h23 46), (h23 47)] w24) →
 K4 [t31_12, (h23 40), (h23 47)] w24)))))))) (Pan R)) (Pan R)) (Pan R)) (Pan R)) (Pan R)) (Pan R))) (Pan R)) (Pan R)) (Pan R)) (Pan R))
(fun h25 w25 =>
 DoV Try.prog (binS BinOp.add 3 (Operand.tmp 16) (Operand.const (Value.int IntKind.i64 1)) (h1 9) (Value.int IntKind.i64 1)) w25 (fun t17_26 w26 =>
 K1 [(h25 6), (h25 7), (h25 8), t17_26] w26) (Pan R)))
(R (.returned (Value.tuple #[(h1 6), (h1 7), (h1 8), (Value.bool true)])) w3)) (Pan R)) (Pan R)))
theorem sh_landfalllaw40_written_eq (v0 : Value) (R : Ending → World → Prop) (w : World) : vc Try.prog [(11, 13, false, 154618860520)] [6, 7, 8, 9] (Try.f19.body.getD .skip) (endE Try.prog Try.f19.results R) (argsE [v0]) [] w = sh_landfalllaw40_written v0 R w := by kernel_rfl
theorem sh_landfalllaw40_written_ok (v0 : Value) {R : Ending → World → Prop} {w : World} (h : sh_landfalllaw40_written v0 R w) : Calls Try.prog 19 #[v0] w R :=
  calls_of_vc (args := [v0]) [(11, 13, false, 154618860520)] [6, 7, 8, 9] follows_mixed Try.func19 rfl (of_decide_eq_true (by kernel_rfl)) (by kernel_rfl) ((sh_landfalllaw40_written_eq v0 R w).symm ▸ h)
/- landfall/landfallref40.Form -/
def sh_landfallref40_Form (v0 : Value) (R : Ending → World → Prop) (w : World) : Prop := (
 DoV Try.prog (Instr.box 29 v0) w (fun t1_1 w1 =>
 DoV Try.prog (Instr.fieldAt 29 t1_1 0) w1 (fun t3_2 w2 =>
 DoV Try.prog (Instr.loadAt 3 t3_2) w2 (fun t4_3 w3 =>
 DoV Try.prog (binS BinOp.eql 3 (Operand.tmp 4) (Operand.const (Value.int IntKind.i64 1)) t4_3 (Value.int IntKind.i64 1)) w3 (fun t5_4 w4 =>
 Br t5_4
(DoV Try.prog (Instr.fieldAt 29 t1_1 1) w4 (fun t6_5 w5 =>
 DoV Try.prog (Instr.fieldAt 26 t6_5 0) w5 (fun t7_6 w6 =>
 DoV Try.prog (Instr.loadAt 3 t7_6) w6 (fun t8_7 w7 =>
 DoV Try.prog (binS BinOp.geq 3 (Operand.tmp 8) (Operand.const (Value.int IntKind.i64 1)) t8_7 (Value.int IntKind.i64 1)) w7 (fun t9_8 w8 =>
 Gd t9_8 true (DoV Try.prog (Instr.fieldAt 29 t1_1 1) w8 (fun t11_9 w9 =>
 DoV Try.prog (Instr.fieldAt 26 t11_9 0) w9 (fun t12_10 w10 =>
 DoV Try.prog (Instr.loadAt 3 t12_10) w10 (fun t13_11 w11 =>
 DoV Try.prog (binS BinOp.leq 3 (Operand.tmp 13) (Operand.const (Value.int IntKind.i64 2000)) t13_11 (Value.int IntKind.i64 2000)) w11 (fun t14_12 w12 =>
 Gd t14_12 true (DoV Try.prog (Instr.fieldAt 29 t1_1 2) w12 (fun t17_13 w13 =>
 DoV Try.prog (Instr.loadAt 3 t17_13) w13 (fun t18_14 w14 =>
 DoV Try.prog (binS BinOp.eql 3 (Operand.tmp 18) (Operand.const (Value.int IntKind.i64 0)) t18_14 (Value.int IntKind.i64 0)) w14 (fun t19_15 w15 =>
 Gd t19_15 true (DoV Try.prog (Instr.fieldAt 29 t1_1 3) w15 (fun t22_16 w16 =>
 DoV Try.prog (Instr.loadAt 27 t22_16) w16 (fun t23_17 w17 =>
 DoV Try.prog (binS BinOp.eql 27 (Operand.tmp 23) (Operand.const (Value.int IntKind.u64 0)) t23_17 (Value.int IntKind.u64 0)) w17 (fun t24_18 w18 =>
 R (.returned t24_18) w18) (Pan R)) (Pan R)) (Pan R))
(R (.returned (Value.bool false)) w15)) (Pan R)) (Pan R)) (Pan R))
(R (.returned (Value.bool false)) w12)) (Pan R)) (Pan R)) (Pan R)) (Pan R))
(R (.returned (Value.bool false)) w8)) (Pan R)) (Pan R)) (Pan R)) (Pan R))
(DoV Try.prog (Instr.fieldAt 29 t1_1 0) w4 (fun t26_19 w19 =>
 DoV Try.prog (Instr.loadAt 3 t26_19) w19 (fun t27_20 w20 =>
 DoV Try.prog (binS BinOp.eql 3 (Operand.tmp 27) (Operand.const (Value.int IntKind.i64 2)) t27_20 (Value.int IntKind.i64 2)) w20 (fun t28_21 w21 =>
 Gd t28_21 true (DoV Try.prog (Instr.fieldAt 29 t1_1 1) w21 (fun t30_22 w22 =>
 DoV Try.prog (Instr.loadAt 26 t30_22) w22 (fun t31_23 w23 =>
 DoV Try.prog (Instr.build 26 #[]) w23 (fun t32_24 w24 =>
 DoV Try.prog (binS BinOp.eql 26 (Operand.tmp 31) (Operand.tmp 32) t31_23 t32_24) w24 (fun t33_25 w25 =>
 Gd t33_25 true (DoV Try.prog (Instr.fieldAt 29 t1_1 2) w25 (fun t36_26 w26 =>
 DoV Try.prog (Instr.loadAt 3 t36_26) w26 (fun t37_27 w27 =>
 DoV Try.prog (binS BinOp.geq 3 (Operand.tmp 37) (Operand.const (Value.int IntKind.i64 0)) t37_27 (Value.int IntKind.i64 0)) w27 (fun t38_28 w28 =>
 Gd t38_28 true (DoV Try.prog (Instr.fieldAt 29 t1_1 2) w28 (fun t41_29 w29 =>
 DoV Try.prog (Instr.loadAt 3 t41_29) w29 (fun t42_30 w30 =>
 DoV Try.prog (binS BinOp.leq 3 (Operand.tmp 42) (Operand.const (Value.int IntKind.i64 2000)) t42_30 (Value.int IntKind.i64 2000)) w30 (fun t43_31 w31 =>
 R (.returned t43_31) w31) (Pan R)) (Pan R)) (Pan R))
(R (.returned (Value.bool false)) w28)) (Pan R)) (Pan R)) (Pan R))
(R (.returned (Value.bool false)) w25)) (Pan R)) (Pan R)) (Pan R)) (Pan R))
(R (.returned (Value.bool false)) w21)) (Pan R)) (Pan R)) (Pan R))) (Pan R)) (Pan R)) (Pan R)) (Pan R))
theorem sh_landfallref40_Form_eq (v0 : Value) (R : Ending → World → Prop) (w : World) : vc Try.prog [] [] (Try.f20.body.getD .skip) (endE Try.prog Try.f20.results R) (argsE [v0]) [] w = sh_landfallref40_Form v0 R w := by kernel_rfl
theorem sh_landfallref40_Form_ok (v0 : Value) {R : Ending → World → Prop} {w : World} (h : sh_landfallref40_Form v0 R w) : Calls Try.prog 20 #[v0] w R :=
  calls_of_vc (args := [v0]) [] [] follows_mixed Try.func20 rfl (of_decide_eq_true (by kernel_rfl)) (by kernel_rfl) ((sh_landfallref40_Form_eq v0 R w).symm ▸ h)
/- landfall/landfalllaw40.check -/
def sh_landfalllaw40_check (v0 v1 : Value) (R : Ending → World → Prop) (w : World) : Prop := (
 DoV Try.prog (Instr.alloc 29 true (.tuple #[])) w (fun t4_1 w1 =>
 DoV Try.prog (Instr.build 29 #[(0, (Value.int IntKind.i64 2)), (2, v0), (3, v1)]) w1 (fun t7_2 w2 =>
 DoU Try.prog (Instr.storeAt 29 t4_1 t7_2) w2 (fun _ w3 =>
 Res Try.prog [.cell t4_1 29] w3 R) (Pan R)) (Pan R)) (Pan R))
theorem sh_landfalllaw40_check_eq (v0 v1 : Value) (R : Ending → World → Prop) (w : World) : vc Try.prog [] [] (Try.f21.body.getD .skip) (endE Try.prog Try.f21.results R) (argsE [v0, v1]) [] w = sh_landfalllaw40_check v0 v1 R w := by kernel_rfl
theorem sh_landfalllaw40_check_ok (v0 v1 : Value) {R : Ending → World → Prop} {w : World} (h : sh_landfalllaw40_check v0 v1 R w) : Calls Try.prog 21 #[v0, v1] w R :=
  calls_of_vc (args := [v0, v1]) [] [] follows_mixed Try.func21 rfl (of_decide_eq_true (by kernel_rfl)) (by kernel_rfl) ((sh_landfalllaw40_check_eq v0 v1 R w).symm ▸ h)
/- landfall/codec.Frame -/
def sh_codec_Frame (v0 : Value) (R : Ending → World → Prop) (w : World) : Prop := (
 CallF Try.prog 33 #[v0] w (fun t10_1 w1 =>
 DoV Try.prog (Instr.extract t10_1 0) w1 (fun t11_2 w2 =>
 DoV Try.prog (Instr.extract t10_1 1) w2 (fun t12_3 w3 =>
 DoV Try.prog (binS BinOp.neq 32 (Operand.tmp 13) (Operand.const (Value.int IntKind.i64 0)) t12_3 (Value.int IntKind.i64 0)) w3 (fun t14_4 w4 =>
 Br t14_4
(R (.returned (Value.tuple #[(Value.slice none 0 0), t12_3])) w4)
(CallB Try.prog Builtin.len #[22] 3 #[false] #[t11_2] w4 (fun t17_5 w5 =>
 DoV Try.prog (binS BinOp.shr 3 (Operand.tmp 18) (Operand.const (Value.int IntKind.u64 16)) t17_5 (Value.int IntKind.u64 16)) w5 (fun t19_6 w6 =>
 DoV Try.prog (convert 3 5 t19_6) w6 (fun t20_7 w7 =>
 DoV Try.prog (binS BinOp.shr 3 (Operand.tmp 21) (Operand.const (Value.int IntKind.u64 8)) t17_5 (Value.int IntKind.u64 8)) w7 (fun t22_8 w8 =>
 DoV Try.prog (convert 3 5 t22_8) w8 (fun t23_9 w9 =>
 DoV Try.prog (convert 3 5 t17_5) w9 (fun t25_10 w10 =>
 DoV Try.prog (Instr.buildSlice 22 3 #[(0, t20_7), (1, t23_9), (2, t25_10)]) w10 (fun t26_11 w11 =>
 CallB Try.prog Builtin.append #[22, 22] 22 #[false, false] #[t26_11, t11_2] w11 (fun t28_12 w12 =>
 CallF Try.prog 34 #[t28_12] w12 (fun t30_13 w13 =>
 DoV Try.prog (Instr.alloc 67 true (.tuple #[])) w13 (fun t7_14 w14 =>
 DoU Try.prog (Instr.storeAt 67 t7_14 t30_13) w14 (fun _ w15 =>
 DoV Try.prog (Instr.sliceAt 67 t7_14 none none none) w15 (fun t32_16 w16 =>
 CallB Try.prog Builtin.append #[22, 22] 22 #[false, false] #[t28_12, t32_16] w16 (fun t33_17 w17 =>
 R (.returned (Value.tuple #[t33_17, (Value.int IntKind.i64 0)])) w17) (Pan R)) (Pan R)) (Pan R)) (Pan R)) (Pan R)) (Pan R)) (Pan R)) (Pan R)) (Pan R)) (Pan R)) (Pan R)) (Pan R)) (Pan R))) (Pan R)) (Pan R)) (Pan R)) (Pan R))
theorem sh_codec_Frame_eq (v0 : Value) (R : Ending → World → Prop) (w : World) : vc Try.prog [] [] (Try.f22.body.getD .skip) (endE Try.prog Try.f22.results R) (argsE [v0]) [] w = sh_codec_Frame v0 R w := by kernel_rfl
theorem sh_codec_Frame_ok (v0 : Value) {R : Ending → World → Prop} {w : World} (h : sh_codec_Frame v0 R w) : Calls Try.prog 22 #[v0] w R :=
  calls_of_vc (args := [v0]) [] [] follows_mixed Try.func22 rfl (of_decide_eq_true (by kernel_rfl)) (by kernel_rfl) ((sh_codec_Frame_eq v0 R w).symm ▸ h)
/- landfall/landfalllaw40.entry -/
def sh_landfalllaw40_entry (v0 : Value) (R : Ending → World → Prop) (w : World) : Prop := (
 DoV Try.prog (Instr.alloc 29 true (.tuple #[])) w (fun t2_1 w1 =>
 DoV Try.prog (Instr.build 26 #[(0, v0)]) w1 (fun t4_2 w2 =>
 DoV Try.prog (Instr.build 29 #[(0, (Value.int IntKind.i64 1)), (1, t4_2)]) w2 (fun t5_3 w3 =>
 DoU Try.prog (Instr.storeAt 29 t2_1 t5_3) w3 (fun _ w4 =>
 Res Try.prog [.cell t2_1 29] w4 R) (Pan R)) (Pan R)) (Pan R)) (Pan R))
theorem sh_landfalllaw40_entry_eq (v0 : Value) (R : Ending → World → Prop) (w : World) : vc Try.prog [] [] (Try.f23.body.getD .skip) (endE Try.prog Try.f23.results R) (argsE [v0]) [] w = sh_landfalllaw40_entry v0 R w := by kernel_rfl
theorem sh_landfalllaw40_entry_ok (v0 : Value) {R : Ending → World → Prop} {w : World} (h : sh_landfalllaw40_entry v0 R w) : Calls Try.prog 23 #[v0] w R :=
  calls_of_vc (args := [v0]) [] [] follows_mixed Try.func23 rfl (of_decide_eq_true (by kernel_rfl)) (by kernel_rfl) ((sh_landfalllaw40_entry_eq v0 R w).symm ▸ h)
/- landfall/journal.isRecord -/
def sh_journal_isRecord (v0 : Value) (R : Ending → World → Prop) (w : World) : Prop := (
 DoV Try.prog (Instr.box 29 v0) w (fun t1_1 w1 =>
 DoV Try.prog (Instr.fieldAt 29 t1_1 0) w1 (fun t3_2 w2 =>
 DoV Try.prog (Instr.loadAt 3 t3_2) w2 (fun t4_3 w3 =>
 DoV Try.prog (binS BinOp.eql 3 (Operand.tmp 4) (Operand.const (Value.int IntKind.i64 1)) t4_3 (Value.int IntKind.i64 1)) w3 (fun t6_4 w4 =>
 Br t6_4
(DoV Try.prog (Instr.fieldAt 29 t1_1 1) w4 (fun t7_5 w5 =>
 DoV Try.prog (Instr.fieldAt 26 t7_5 0) w5 (fun t8_6 w6 =>
 DoV Try.prog (Instr.loadAt 3 t8_6) w6 (fun t9_7 w7 =>
 DoV Try.prog (binS BinOp.leq 3 (Operand.const (Value.int IntKind.i64 1)) (Operand.tmp 9) (Value.int IntKind.i64 1) t9_7) w7 (fun t10_8 w8 =>
 Gd t10_8 true (DoV Try.prog (Instr.fieldAt 29 t1_1 1) w8 (fun t12_9 w9 =>
 DoV Try.prog (Instr.fieldAt 26 t12_9 0) w9 (fun t13_10 w10 =>
 DoV Try.prog (Instr.loadAt 3 t13_10) w10 (fun t14_11 w11 =>
 DoV Try.prog (binS BinOp.leq 3 (Operand.tmp 14) (Operand.const (Value.int IntKind.i64 2000)) t14_11 (Value.int IntKind.i64 2000)) w11 (fun t15_12 w12 =>
 Gd t15_12 true (DoV Try.prog (Instr.fieldAt 29 t1_1 2) w12 (fun t18_13 w13 =>
 DoV Try.prog (Instr.loadAt 3 t18_13) w13 (fun t19_14 w14 =>
 DoV Try.prog (binS BinOp.eql 3 (Operand.tmp 19) (Operand.const (Value.int IntKind.i64 0)) t19_14 (Value.int IntKind.i64 0)) w14 (fun t20_15 w15 =>
 Gd t20_15 true (DoV Try.prog (Instr.fieldAt 29 t1_1 3) w15 (fun t23_16 w16 =>
 DoV Try.prog (Instr.loadAt 27 t23_16) w16 (fun t24_17 w17 =>
 DoV Try.prog (binS BinOp.eql 27 (Operand.tmp 24) (Operand.const (Value.int IntKind.u64 0)) t24_17 (Value.int IntKind.u64 0)) w17 (fun t25_18 w18 =>
 R (.returned t25_18) w18) (Pan R)) (Pan R)) (Pan R))
(R (.returned (Value.bool false)) w15)) (Pan R)) (Pan R)) (Pan R))
(R (.returned (Value.bool false)) w12)) (Pan R)) (Pan R)) (Pan R)) (Pan R))
(R (.returned (Value.bool false)) w8)) (Pan R)) (Pan R)) (Pan R)) (Pan R))
(DoV Try.prog (binS BinOp.eql 3 (Operand.tmp 4) (Operand.const (Value.int IntKind.i64 2)) t4_3 (Value.int IntKind.i64 2)) w4 (fun t28_19 w19 =>
 Br t28_19
(DoV Try.prog (Instr.fieldAt 29 t1_1 2) w19 (fun t29_20 w20 =>
 DoV Try.prog (Instr.loadAt 3 t29_20) w20 (fun t30_21 w21 =>
 DoV Try.prog (binS BinOp.leq 3 (Operand.const (Value.int IntKind.i64 0)) (Operand.tmp 30) (Value.int IntKind.i64 0) t30_21) w21 (fun t31_22 w22 =>
 Gd t31_22 true (DoV Try.prog (Instr.fieldAt 29 t1_1 2) w22 (fun t33_23 w23 =>
 DoV Try.prog (Instr.loadAt 3 t33_23) w23 (fun t34_24 w24 =>
 DoV Try.prog (binS BinOp.leq 3 (Operand.tmp 34) (Operand.const (Value.int IntKind.i64 2000)) t34_24 (Value.int IntKind.i64 2000)) w24 (fun t35_25 w25 =>
 Gd t35_25 true (DoV Try.prog (Instr.fieldAt 29 t1_1 1) w25 (fun t38_26 w26 =>
 DoV Try.prog (Instr.loadAt 26 t38_26) w26 (fun t39_27 w27 =>
 DoV Try.prog (Instr.build 26 #[]) w27 (fun t40_28 w28 =>
 DoV Try.prog (binS BinOp.eql 26 (Operand.tmp 39) (Operand.tmp 40) t39_27 t40_28) w28 (fun t41_29 w29 =>
 R (.returned t41_29) w29) (Pan R)) (Pan R)) (Pan R)) (Pan R))
(R (.returned (Value.bool false)) w25)) (Pan R)) (Pan R)) (Pan R))
(R (.returned (Value.bool false)) w22)) (Pan R)) (Pan R)) (Pan R))
(R (.returned (Value.bool false)) w19)) (Pan R))) (Pan R)) (Pan R)) (Pan R)) (Pan R))
theorem sh_journal_isRecord_eq (v0 : Value) (R : Ending → World → Prop) (w : World) : vc Try.prog [] [] (Try.f24.body.getD .skip) (endE Try.prog Try.f24.results R) (argsE [v0]) [] w = sh_journal_isRecord v0 R w := by kernel_rfl
theorem sh_journal_isRecord_ok (v0 : Value) {R : Ending → World → Prop} {w : World} (h : sh_journal_isRecord v0 R w) : Calls Try.prog 24 #[v0] w R :=
  calls_of_vc (args := [v0]) [] [] follows_mixed Try.func24 rfl (of_decide_eq_true (by kernel_rfl)) (by kernel_rfl) ((sh_journal_isRecord_eq v0 R w).symm ▸ h)
/- landfall/journal.ints -/
def sh_journal_ints (v0 : Value) (R : Ending → World → Prop) (w : World) : Prop := (
 DoV Try.prog (Instr.box 29 v0) w (fun t1_1 w1 =>
 DoV Try.prog (Instr.fieldAt 29 t1_1 0) w1 (fun t4_2 w2 =>
 DoV Try.prog (Instr.loadAt 3 t4_2) w2 (fun t5_3 w3 =>
 DoV Try.prog (binS BinOp.eql 3 (Operand.tmp 5) (Operand.const (Value.int IntKind.i64 2)) t5_3 (Value.int IntKind.i64 2)) w3 (fun t6_4 w4 =>
 Br t6_4
(DoV Try.prog (Instr.fieldAt 29 t1_1 0) w4 (fun t7_5 w5 =>
 DoV Try.prog (Instr.loadAt 3 t7_5) w5 (fun t8_6 w6 =>
 DoV Try.prog (Instr.fieldAt 29 t1_1 2) w6 (fun t9_7 w7 =>
 DoV Try.prog (Instr.loadAt 3 t9_7) w7 (fun t10_8 w8 =>
 DoV Try.prog (Instr.fieldAt 29 t1_1 3) w8 (fun t11_9 w9 =>
 DoV Try.prog (Instr.loadAt 27 t11_9) w9 (fun t12_10 w10 =>
 DoV Try.prog (binS BinOp.quo 27 (Operand.tmp 12) (Operand.const (Value.int IntKind.u64 4294967296)) t12_10 (Value.int IntKind.u64 4294967296)) w10 (fun t13_11 w11 =>
 DoV Try.prog (convert 27 3 t13_11) w11 (fun t14_12 w12 =>
 DoV Try.prog (Instr.fieldAt 29 t1_1 3) w12 (fun t15_13 w13 =>
 DoV Try.prog (Instr.loadAt 27 t15_13) w13 (fun t16_14 w14 =>
 DoV Try.prog (binS BinOp.rem 27 (Operand.tmp 16) (Operand.const (Value.int IntKind.u64 4294967296)) t16_14 (Value.int IntKind.u64 4294967296)) w14 (fun t17_15 w15 =>
 DoV Try.prog (convert 27 3 t17_15) w15 (fun t18_16 w16 =>
 DoV Try.prog (Instr.buildSlice 45 4 #[(0, t8_6), (1, t10_8), (2, t14_12), (3, t18_16)]) w16 (fun t19_17 w17 =>
 CallF Try.prog 35 #[t19_17] w17 (fun t20_18 w18 =>
 R (.returned t20_18) w18) (Pan R)) (Pan R)) (Pan R)) (Pan R)) (Pan R)) (Pan R)) (Pan R)) (Pan R)) (Pan R)) (Pan R)) (Pan R)) (Pan R)) (Pan R)) (Pan R))
(DoV Try.prog (Instr.fieldAt 29 t1_1 1) w4 (fun t21_19 w19 =>
 DoV Try.prog (Instr.loadAt 26 t21_19) w19 (fun t22_20 w20 =>
 DoV Try.prog (Instr.alloc 26 true (.tuple #[])) w20 (fun t3_21 w21 =>
 DoU Try.prog (Instr.storeAt 26 t3_21 t22_20) w21 (fun _ w22 =>
 DoV Try.prog (Instr.fieldAt 29 t1_1 0) w22 (fun t23_23 w23 =>
 DoV Try.prog (Instr.loadAt 3 t23_23) w23 (fun t24_24 w24 =>
 DoV Try.prog (Instr.fieldAt 26 t3_21 0) w24 (fun t25_25 w25 =>
 DoV Try.prog (Instr.loadAt 3 t25_25) w25 (fun t26_26 w26 =>
 DoV Try.prog (Instr.fieldAt 26 t3_21 1) w26 (fun t27_27 w27 =>
 DoV Try.prog (Instr.loadAt 3 t27_27) w27 (fun t28_28 w28 =>
 DoV Try.prog (Instr.fieldAt 26 t3_21 2) w28 (fun t29_29 w29 =>
 DoV Try.prog (Instr.loadAt 3 t29_29) w29 (fun t30_30 w30 =>
 DoV Try.prog (Instr.fieldAt 26 t3_21 3) w30 (fun t31_31 w31 =>
 DoV Try.prog (Instr.loadAt 3 t31_31) w31 (fun t32_32 w32 =>
 DoV Try.prog (Instr.fieldAt 26 t3_21 4) w32 (fun t33_33 w33 =>
 DoV Try.prog (Instr.loadAt 3 t33_33) w33 (fun t34_34 w34 =>
 DoV Try.prog (Instr.fieldAt 26 t3_21 5) w34 (fun t35_35 w35 =>
 DoV Try.prog (Instr.loadAt 3 t35_35) w35 (fun t36_36 w36 =>
 DoV Try.prog (Instr.fieldAt 26 t3_21 6) w36 (fun t37_37 w37 =>
 DoV Try.prog (Instr.loadAt 3 t37_37) w37 (fun t38_38 w38 =>
 DoV Try.prog (Instr.fieldAt 26 t3_21 7) w38 (fun t39_39 w39 =>
 DoV Try.prog (Instr.fieldAt 24 t39_39 0) w39 (fun t40_40 w40 =>
 DoV Try.prog (Instr.loadAt 3 t40_40) w40 (fun t41_41 w41 =>
 DoV Try.prog (Instr.fieldAt 26 t3_21 7) w41 (fun t42_42 w42 =>
 DoV Try.prog (Instr.fieldAt 24 t42_42 1) w42 (fun t43_43 w43 =>
 DoV Try.prog (Instr.loadAt 3 t43_43) w43 (fun t44_44 w44 =>
 DoV Try.prog (Instr.fieldAt 26 t3_21 8) w44 (fun t45_45 w45 =>
 DoV Try.prog (Instr.loadAt 3 t45_45) w45 (fun t46_46 w46 =>
 DoV Try.prog (Instr.fieldAt 26 t3_21 9) w46 (fun t47_47 w47 =>
 DoV Try.prog (Instr.loadAt 3 t47_47) w47 (fun t48_48 w48 =>
 DoV Try.prog (Instr.fieldAt 26 t3_21 10) w48 (fun t49_49 w49 =>
 DoV Try.prog (Instr.loadAt 3 t49_49) w49 (fun t50_50 w50 =>
 DoV Try.prog (Instr.buildSlice 45 13 #[(0, t24_24), (1, t26_26), (2, t28_28), (3, t30_30), (4, t32_32), (5, t34_34), (6, t36_36), (7, t38_38), (8, t41_41), (9, t44_44), (10, t46_46), (11, t48_48), (12, t50_50)]) w50 (fun t51_51 w51 =>
 CallF Try.prog 35 #[t51_51] w51 (fun t52_52 w52 =>
 R (.returned t52_52) w52) (Pan R)) (Pan R)) (Pan R)) (Pan R)) (Pan R)) (Pan R)) (Pan R)) (Pan R)) (Pan R)) (Pan R)) (Pan R)) (Pan R)) (Pan R)) (Pan R)) (Pan R)) (Pan R)) (Pan R)) (Pan R)) (Pan R)) (Pan R)) (Pan R)) (Pan R)) (Pan R)) (Pan R)) (Pan R)) (Pan R)) (Pan R)) (Pan R)) (Pan R)) (Pan R)) (Pan R)) (Pan R)) (Pan R)) (Pan R))) (Pan R)) (Pan R)) (Pan R)) (Pan R))
theorem sh_journal_ints_eq (v0 : Value) (R : Ending → World → Prop) (w : World) : vc Try.prog [] [] (Try.f25.body.getD .skip) (endE Try.prog Try.f25.results R) (argsE [v0]) [] w = sh_journal_ints v0 R w := by kernel_rfl
theorem sh_journal_ints_ok (v0 : Value) {R : Ending → World → Prop} {w : World} (h : sh_journal_ints v0 R w) : Calls Try.prog 25 #[v0] w R :=
  calls_of_vc (args := [v0]) [] [] follows_mixed Try.func25 rfl (of_decide_eq_true (by kernel_rfl)) (by kernel_rfl) ((sh_journal_ints_eq v0 R w).symm ▸ h)
/- landfall/landfallref08.Frame -/
def sh_landfallref08_Frame (v0 : Value) (R : Ending → World → Prop) (w : World) : Prop := (
 CallF Try.prog 36 #[v0] w (fun t9_1 w1 =>
 DoV Try.prog (Instr.extract t9_1 0) w1 (fun t10_2 w2 =>
 DoV Try.prog (Instr.extract t9_1 1) w2 (fun t11_3 w3 =>
 DoV Try.prog (binS BinOp.neq 32 (Operand.tmp 12) (Operand.const (Value.int IntKind.i64 0)) t11_3 (Value.int IntKind.i64 0)) w3 (fun t13_4 w4 =>
 Br t13_4
(R (.returned (Value.tuple #[(Value.slice none 0 0), t11_3])) w4)
(CallB Try.prog Builtin.len #[22] 3 #[false] #[t10_2] w4 (fun t16_5 w5 =>
 DoV Try.prog (binS BinOp.quo 3 (Operand.tmp 16) (Operand.const (Value.int IntKind.i64 65536)) t16_5 (Value.int IntKind.i64 65536)) w5 (fun t17_6 w6 =>
 DoV Try.prog (convert 3 5 t17_6) w6 (fun t18_7 w7 =>
 CallB Try.prog Builtin.len #[22] 3 #[false] #[t10_2] w7 (fun t20_8 w8 =>
 DoV Try.prog (binS BinOp.quo 3 (Operand.tmp 20) (Operand.const (Value.int IntKind.i64 256)) t20_8 (Value.int IntKind.i64 256)) w8 (fun t21_9 w9 =>
 DoV Try.prog (binS BinOp.rem 3 (Operand.tmp 21) (Operand.const (Value.int IntKind.i64 256)) t21_9 (Value.int IntKind.i64 256)) w9 (fun t22_10 w10 =>
 DoV Try.prog (convert 3 5 t22_10) w10 (fun t23_11 w11 =>
 CallB Try.prog Builtin.len #[22] 3 #[false] #[t10_2] w11 (fun t25_12 w12 =>
 DoV Try.prog (binS BinOp.rem 3 (Operand.tmp 25) (Operand.const (Value.int IntKind.i64 256)) t25_12 (Value.int IntKind.i64 256)) w12 (fun t26_13 w13 =>
 DoV Try.prog (convert 3 5 t26_13) w13 (fun t27_14 w14 =>
 DoV Try.prog (Instr.buildSlice 22 3 #[(0, t18_7), (1, t23_11), (2, t27_14)]) w14 (fun t28_15 w15 =>
 CallB Try.prog Builtin.append #[22, 22] 22 #[false, false] #[t28_15, t10_2] w15 (fun t31_16 w16 =>
 DoV Try.prog (convert 22 9 t31_16) w16 (fun t34_17 w17 =>
 CallF Try.prog 38 #[t34_17] w17 (fun t35_18 w18 =>
 CallF Try.prog 37 #[t35_18] w18 (fun t36_19 w19 =>
 CallB Try.prog Builtin.append #[22, 22] 22 #[false, false] #[t31_16, t36_19] w19 (fun t37_20 w20 =>
 R (.returned (Value.tuple #[t37_20, (Value.int IntKind.i64 0)])) w20) (Pan R)) (Pan R)) (Pan R)) (Pan R)) (Pan R)) (Pan R)) (Pan R)) (Pan R)) (Pan R)) (Pan R)) (Pan R)) (Pan R)) (Pan R)) (Pan R)) (Pan R)) (Pan R))) (Pan R)) (Pan R)) (Pan R)) (Pan R))
theorem sh_landfallref08_Frame_eq (v0 : Value) (R : Ending → World → Prop) (w : World) : vc Try.prog [] [] (Try.f26.body.getD .skip) (endE Try.prog Try.f26.results R) (argsE [v0]) [] w = sh_landfallref08_Frame v0 R w := by kernel_rfl
theorem sh_landfallref08_Frame_ok (v0 : Value) {R : Ending → World → Prop} {w : World} (h : sh_landfallref08_Frame v0 R w) : Calls Try.prog 26 #[v0] w R :=
  calls_of_vc (args := [v0]) [] [] follows_mixed Try.func26 rfl (of_decide_eq_true (by kernel_rfl)) (by kernel_rfl) ((sh_landfallref08_Frame_eq v0 R w).symm ▸ h)
/- landfall/landfallref40.Ints -/
def sh_landfallref40_Ints (v0 : Value) (R : Ending → World → Prop) (w : World) : Prop := (
 DoV Try.prog (Instr.box 29 v0) w (fun t1_1 w1 =>
 DoV Try.prog (Instr.fieldAt 29 t1_1 0) w1 (fun t4_2 w2 =>
 DoV Try.prog (Instr.loadAt 3 t4_2) w2 (fun t5_3 w3 =>
 DoV Try.prog (binS BinOp.eql 3 (Operand.tmp 5) (Operand.const (Value.int IntKind.i64 2)) t5_3 (Value.int IntKind.i64 2)) w3 (fun t6_4 w4 =>
 Br t6_4
(DoV Try.prog (Instr.fieldAt 29 t1_1 0) w4 (fun t7_5 w5 =>
 DoV Try.prog (Instr.loadAt 3 t7_5) w5 (fun t8_6 w6 =>
 DoV Try.prog (Instr.fieldAt 29 t1_1 2) w6 (fun t9_7 w7 =>
 DoV Try.prog (Instr.loadAt 3 t9_7) w7 (fun t10_8 w8 =>
 DoV Try.prog (Instr.fieldAt 29 t1_1 3) w8 (fun t11_9 w9 =>
 DoV Try.prog (Instr.loadAt 27 t11_9) w9 (fun t12_10 w10 =>
 DoV Try.prog (binS BinOp.quo 27 (Operand.tmp 12) (Operand.const (Value.int IntKind.u64 4294967296)) t12_10 (Value.int IntKind.u64 4294967296)) w10 (fun t13_11 w11 =>
 DoV Try.prog (convert 27 3 t13_11) w11 (fun t14_12 w12 =>
 DoV Try.prog (Instr.fieldAt 29 t1_1 3) w12 (fun t15_13 w13 =>
 DoV Try.prog (Instr.loadAt 27 t15_13) w13 (fun t16_14 w14 =>
 DoV Try.prog (binS BinOp.rem 27 (Operand.tmp 16) (Operand.const (Value.int IntKind.u64 4294967296)) t16_14 (Value.int IntKind.u64 4294967296)) w14 (fun t17_15 w15 =>
 DoV Try.prog (convert 27 3 t17_15) w15 (fun t18_16 w16 =>
 DoV Try.prog (Instr.buildSlice 45 4 #[(0, t8_6), (1, t10_8), (2, t14_12), (3, t18_16)]) w16 (fun t19_17 w17 =>
 R (.returned t19_17) w17) (Pan R)) (Pan R)) (Pan R)) (Pan R)) (Pan R)) (Pan R)) (Pan R)) (Pan R)) (Pan R)) (Pan R)) (Pan R)) (Pan R)) (Pan R))
(DoV Try.prog (Instr.fieldAt 29 t1_1 1) w4 (fun t20_18 w18 =>
 DoV Try.prog (Instr.loadAt 26 t20_18) w18 (fun t21_19 w19 =>
 DoV Try.prog (Instr.alloc 26 true (.tuple #[])) w19 (fun t3_20 w20 =>
 DoU Try.prog (Instr.storeAt 26 t3_20 t21_19) w20 (fun _ w21 =>
 DoV Try.prog (Instr.fieldAt 29 t1_1 0) w21 (fun t22_22 w22 =>
 DoV Try.prog (Instr.loadAt 3 t22_22) w22 (fun t23_23 w23 =>
 DoV Try.prog (Instr.fieldAt 26 t3_20 0) w23 (fun t24_24 w24 =>
 DoV Try.prog (Instr.loadAt 3 t24_24) w24 (fun t25_25 w25 =>
 DoV Try.prog (Instr.fieldAt 26 t3_20 1) w25 (fun t26_26 w26 =>
 DoV Try.prog (Instr.loadAt 3 t26_26) w26 (fun t27_27 w27 =>
 DoV Try.prog (Instr.fieldAt 26 t3_20 2) w27 (fun t28_28 w28 =>
 DoV Try.prog (Instr.loadAt 3 t28_28) w28 (fun t29_29 w29 =>
 DoV Try.prog (Instr.fieldAt 26 t3_20 3) w29 (fun t30_30 w30 =>
 DoV Try.prog (Instr.loadAt 3 t30_30) w30 (fun t31_31 w31 =>
 DoV Try.prog (Instr.fieldAt 26 t3_20 4) w31 (fun t32_32 w32 =>
 DoV Try.prog (Instr.loadAt 3 t32_32) w32 (fun t33_33 w33 =>
 DoV Try.prog (Instr.fieldAt 26 t3_20 5) w33 (fun t34_34 w34 =>
 DoV Try.prog (Instr.loadAt 3 t34_34) w34 (fun t35_35 w35 =>
 DoV Try.prog (Instr.fieldAt 26 t3_20 6) w35 (fun t36_36 w36 =>
 DoV Try.prog (Instr.loadAt 3 t36_36) w36 (fun t37_37 w37 =>
 DoV Try.prog (Instr.fieldAt 26 t3_20 7) w37 (fun t38_38 w38 =>
 DoV Try.prog (Instr.fieldAt 24 t38_38 0) w38 (fun t39_39 w39 =>
 DoV Try.prog (Instr.loadAt 3 t39_39) w39 (fun t40_40 w40 =>
 DoV Try.prog (Instr.fieldAt 26 t3_20 7) w40 (fun t41_41 w41 =>
 DoV Try.prog (Instr.fieldAt 24 t41_41 1) w41 (fun t42_42 w42 =>
 DoV Try.prog (Instr.loadAt 3 t42_42) w42 (fun t43_43 w43 =>
 DoV Try.prog (Instr.fieldAt 26 t3_20 8) w43 (fun t44_44 w44 =>
 DoV Try.prog (Instr.loadAt 3 t44_44) w44 (fun t45_45 w45 =>
 DoV Try.prog (Instr.fieldAt 26 t3_20 9) w45 (fun t46_46 w46 =>
 DoV Try.prog (Instr.loadAt 3 t46_46) w46 (fun t47_47 w47 =>
 DoV Try.prog (Instr.fieldAt 26 t3_20 10) w47 (fun t48_48 w48 =>
 DoV Try.prog (Instr.loadAt 3 t48_48) w48 (fun t49_49 w49 =>
 DoV Try.prog (Instr.buildSlice 45 13 #[(0, t23_23), (1, t25_25), (2, t27_27), (3, t29_29), (4, t31_31), (5, t33_33), (6, t35_35), (7, t37_37), (8, t40_40), (9, t43_43), (10, t45_45), (11, t47_47), (12, t49_49)]) w49 (fun t50_50 w50 =>
 R (.returned t50_50) w50) (Pan R)) (Pan R)) (Pan R)) (Pan R)) (Pan R)) (Pan R)) (Pan R)) (Pan R)) (Pan R)) (Pan R)) (Pan R)) (Pan R)) (Pan R)) (Pan R)) (Pan R)) (Pan R)) (Pan R)) (Pan R)) (Pan R)) (Pan R)) (Pan R)) (Pan R)) (Pan R)) (Pan R)) (Pan R)) (Pan R)) (Pan R)) (Pan R)) (Pan R)) (Pan R)) (Pan R)) (Pan R)) (Pan R))) (Pan R)) (Pan R)) (Pan R)) (Pan R))
theorem sh_landfallref40_Ints_eq (v0 : Value) (R : Ending → World → Prop) (w : World) : vc Try.prog [] [] (Try.f27.body.getD .skip) (endE Try.prog Try.f27.results R) (argsE [v0]) [] w = sh_landfallref40_Ints v0 R w := by kernel_rfl
theorem sh_landfallref40_Ints_ok (v0 : Value) {R : Ending → World → Prop} {w : World} (h : sh_landfallref40_Ints v0 R w) : Calls Try.prog 27 #[v0] w R :=
  calls_of_vc (args := [v0]) [] [] follows_mixed Try.func27 rfl (of_decide_eq_true (by kernel_rfl)) (by kernel_rfl) ((sh_landfallref40_Ints_eq v0 R w).symm ▸ h)
/- landfall/codec.Frames -/
def sh_codec_Frames (v0 : Value) (R : Ending → World → Prop) (w : World) : Prop := (
 CallB Try.prog Builtin.len #[22] 3 #[false] #[v0] w (fun t10_1 w1 =>
 DoV Try.prog (binS BinOp.gtr 3 (Operand.tmp 10) (Operand.const (Value.int IntKind.i64 200000)) t10_1 (Value.int IntKind.i64 200000)) w1 (fun t11_2 w2 =>
 Br t11_2
(R (.returned (Value.tuple #[(Value.slice none 0 0), (Value.int IntKind.i64 0), (Value.int IntKind.i64 2)])) w2)
(LoopE [5, 6] [(Value.slice none 0 0), (Value.int IntKind.i64 0)] w2 (fun h3 w3 K3 =>
 DoV Try.prog (Instr.sliceAt 22 v0 (some (h3 6)) none none) w3 (fun t15_4 w4 =>
 CallF Try.prog 39 #[t15_4] w4 (fun t16_5 w5 =>
 DoV Try.prog (Instr.extract t16_5 0) w5 (fun t17_6 w6 =>
 DoV Try.prog (Instr.extract t16_5 1) w6 (fun t18_7 w7 =>
 DoV Try.prog (binS BinOp.eql 3 (Operand.tmp 19) (Operand.const (Value.int IntKind.i64 0)) t18_7 (Value.int IntKind.i64 0)) w7 (fun t20_8 w8 =>
 Br t20_8
(R (.returned (Value.tuple #[(h3 5), (h3 6), (Value.int IntKind.i64 0)])) w8)
(DoV Try.prog (Instr.buildSlice 59 1 #[(0, t17_6)]) w8 (fun t25_9 w9 =>
 CallB Try.prog Builtin.append #[59, 59] 59 #[false, false] #[(h3 5), t25_9] w9 (fun t26_10 w10 =>
 DoV Try.prog (binS BinOp.add 3 (Operand.tmp 27) (Operand.tmp 28) (h3 6) t18_7) w10 (fun t29_11 w11 =>
 K3 [t26_10, t29_11] w11) (Pan R)) (Pan R)) (Pan R))) (Pan R)) (Pan R)) (Pan R)) (Pan R)) (Pan R)))) (Pan R)) (Pan R))
theorem sh_codec_Frames_eq (v0 : Value) (R : Ending → World → Prop) (w : World) : vc Try.prog [] [5, 6] (Try.f28.body.getD .skip) (endE Try.prog Try.f28.results R) (argsE [v0]) [] w = sh_codec_Frames v0 R w := by kernel_rfl
theorem sh_codec_Frames_ok (v0 : Value) {R : Ending → World → Prop} {w : World} (h : sh_codec_Frames v0 R w) : Calls Try.prog 28 #[v0] w R :=
  calls_of_vc (args := [v0]) [] [5, 6] follows_mixed Try.func28 rfl (of_decide_eq_true (by kernel_rfl)) (by kernel_rfl) ((sh_codec_Frames_eq v0 R w).symm ▸ h)
/- landfall/journal.record -/
def sh_journal_record (v0 : Value) (R : Ending → World → Prop) (w : World) : Prop := (
 DoV Try.prog (Instr.alloc 29 true (.tuple #[])) w (fun t2_1 w1 =>
 DoV Try.prog (Instr.alloc 4 true (.tuple #[])) w1 (fun t3_2 w2 =>
 DoV Try.prog (Instr.makeFunc (Fn.func 40) #[] #[t2_1, t3_2]) w2 (fun t5_3 w3 =>
(match t5_3 with | .func fn4 fi4 ca4 => DoV Try.prog (Instr.build 78 #[(0, v0)]) w3 (fun t7_5 w5 =>
 DoV Try.prog (Instr.build 80 #[(1, t7_5)]) w5 (fun t8_6 w6 =>
 DoV Try.prog (Instr.alloc 80 true (.tuple #[])) w6 (fun t4_7 w7 =>
 DoU Try.prog (Instr.storeAt 80 t4_7 t8_6) w7 (fun _ w8 =>
 CallF Try.prog 41 #[t4_7] w8 (fun _ w9 =>
 DoV Try.prog (Instr.fieldAt 80 t4_7 0) w9 (fun t10_10 w10 =>
 DoV Try.prog (Instr.loadAt 29 t10_10) w10 (fun t11_11 w11 =>
 DoU Try.prog (Instr.storeAt 29 t2_1 t11_11) w11 (fun _ w12 =>
 DoU Try.prog (Instr.storeAt 4 t3_2 (Value.bool true)) w12 (fun _ w13 =>
 LeavesE Try.prog Try.f29 [(2, t2_1), (3, t3_2)] R [{ target := .fn fn4 ca4, args := fi4 ++ #[] }] .returning w13) (PanD Try.prog Try.f29 [(2, t2_1), (3, t3_2)] R [{ target := .fn fn4 ca4, args := fi4 ++ #[] }])) (PanD Try.prog Try.f29 [(2, t2_1), (3, t3_2)] R [{ target := .fn fn4 ca4, args := fi4 ++ #[] }])) (PanD Try.prog Try.f29 [(2, t2_1), (3, t3_2)] R [{ target := .fn fn4 ca4, args := fi4 ++ #[] }])) (PanD Try.prog Try.f29 [(2, t2_1), (3, t3_2)] R [{ target := .fn fn4 ca4, args := fi4 ++ #[] }])) (PanD Try.prog Try.f29 [(2, t2_1), (3, t3_2)] R [{ target := .fn fn4 ca4, args := fi4 ++ #[] }])) (PanD Try.prog Try.f29 [(2, t2_1), (3, t3_2)] R [{ target := .fn fn4 ca4, args := fi4 ++ #[] }])) (PanD Try.prog Try.f29 [(2, t2_1), (3, t3_2)] R [{ target := .fn fn4 ca4, args := fi4 ++ #[] }])) (PanD Try.prog Try.f29 [(2, t2_1), (3, t3_2)] R [{ target := .fn fn4 ca4, args := fi4 ++ #[] }])) (PanD Try.prog Try.f29 [(2, t2_1), (3, t3_2)] R [{ target := .fn fn4 ca4, args := fi4 ++ #[] }]) | _ => False)) (PanD Try.prog Try.f29 [(2, t2_1), (3, t3_2)] R [])) (PanD Try.prog Try.f29 [(2, t2_1), (3, undef)] R [])) (PanD Try.prog Try.f29 [(2, undef), (3, undef)] R []))
theorem sh_journal_record_eq (v0 : Value) (R : Ending → World → Prop) (w : World) : vc Try.prog [] [] (Try.f29.body.getD .skip) (endD Try.prog Try.f29 R) (argsE [v0]) [] w = sh_journal_record v0 R w := by kernel_rfl
theorem sh_journal_record_ok (v0 : Value) {R : Ending → World → Prop} {w : World} (h : sh_journal_record v0 R w) : Calls Try.prog 29 #[v0] w R :=
  calls_of_vcD (args := [v0]) [] [] follows_mixed Try.func29 rfl (of_decide_eq_true (by kernel_rfl)) (by kernel_rfl) ((sh_journal_record_eq v0 R w).symm ▸ h)
/- landfall/landfallref08.Frames -/
def sh_landfallref08_Frames (v0 : Value) (R : Ending → World → Prop) (w : World) : Prop := (
 CallB Try.prog Builtin.len #[22] 3 #[false] #[v0] w (fun t10_1 w1 =>
 DoV Try.prog (binS BinOp.gtr 3 (Operand.tmp 10) (Operand.const (Value.int IntKind.i64 200000)) t10_1 (Value.int IntKind.i64 200000)) w1 (fun t11_2 w2 =>
 Br t11_2
(R (.returned (Value.tuple #[(Value.slice none 0 0), (Value.int IntKind.i64 0), (Value.int IntKind.i64 2)])) w2)
(LoopE [5, 6] [(Value.slice none 0 0), (Value.int IntKind.i64 0)] w2 (fun h3 w3 K3 =>
 DoV Try.prog (Instr.sliceAt 22 v0 (some (h3 6)) none none) w3 (fun t15_4 w4 =>
 CallF Try.prog 42 #[t15_4] w4 (fun t16_5 w5 =>
 DoV Try.prog (Instr.extract t16_5 0) w5 (fun t17_6 w6 =>
 DoV Try.prog (Instr.extract t16_5 1) w6 (fun t18_7 w7 =>
 DoV Try.prog (binS BinOp.eql 3 (Operand.tmp 19) (Operand.const (Value.int IntKind.i64 0)) t18_7 (Value.int IntKind.i64 0)) w7 (fun t20_8 w8 =>
 Br t20_8
(R (.returned (Value.tuple #[(h3 5), (h3 6), (Value.int IntKind.i64 0)])) w8)
(DoV Try.prog (Instr.buildSlice 59 1 #[(0, t17_6)]) w8 (fun t25_9 w9 =>
 CallB Try.prog Builtin.append #[59, 59] 59 #[false, false] #[(h3 5), t25_9] w9 (fun t26_10 w10 =>
 DoV Try.prog (binS BinOp.add 3 (Operand.tmp 27) (Operand.tmp 28) (h3 6) t18_7) w10 (fun t29_11 w11 =>
 K3 [t26_10, t29_11] w11) (Pan R)) (Pan R)) (Pan R))) (Pan R)) (Pan R)) (Pan R)) (Pan R)) (Pan R)))) (Pan R)) (Pan R))
theorem sh_landfallref08_Frames_eq (v0 : Value) (R : Ending → World → Prop) (w : World) : vc Try.prog [] [5, 6] (Try.f30.body.getD .skip) (endE Try.prog Try.f30.results R) (argsE [v0]) [] w = sh_landfallref08_Frames v0 R w := by kernel_rfl
theorem sh_landfallref08_Frames_ok (v0 : Value) {R : Ending → World → Prop} {w : World} (h : sh_landfallref08_Frames v0 R w) : Calls Try.prog 30 #[v0] w R :=
  calls_of_vc (args := [v0]) [] [5, 6] follows_mixed Try.func30 rfl (of_decide_eq_true (by kernel_rfl)) (by kernel_rfl) ((sh_landfallref08_Frames_eq v0 R w).symm ▸ h)
/- landfall/landfallref40.Record -/
def sh_landfallref40_Record (v0 : Value) (R : Ending → World → Prop) (w : World) : Prop := (
 DoV Try.prog (Instr.alloc 29 true (.tuple #[])) w (fun t2_1 w1 =>
 JoinE [] (fun K2 =>
 JoinE [15] (fun K3 =>
 CallB Try.prog Builtin.len #[45] 3 #[false] #[v0] w1 (fun t8_4 w4 =>
 DoV Try.prog (binS BinOp.eql 3 (Operand.tmp 8) (Operand.const (Value.int IntKind.i64 13)) t8_4 (Value.int IntKind.i64 13)) w4 (fun t9_5 w5 =>
 Gd t9_5 true (DoV Try.prog (Instr.indexAt 45 v0 (Value.int IntKind.i64 0)) w5 (fun t12_6 w6 =>
 DoV Try.prog (Instr.loadAt 3 t12_6) w6 (fun t13_7 w7 =>
 DoV Try.prog (binS BinOp.eql 3 (Operand.tmp 13) (Operand.const (Value.int IntKind.i64 1)) t13_7 (Value.int IntKind.i64 1)) w7 (fun t14_8 w8 =>
 K3 [t14_8] w8) (Pan R)) (Pan R)) (Pan R))
(K3 [(Value.bool false)] w5)) (Pan R)) (Pan R))
(fun h9 w9 =>
 Br (h9 15)
(DrawE w9 (fun Rs10 Rb10 w10 =>
 DetOp Rb10 Rs10 w10 (fun w11 K11 => DoV Try.prog (Instr.indexAt 45 v0 (Value.int IntKind.i64 1)) w11 K11 (Pan R)) (fun c17_11 ψ11 =>
 DetOp Rb10 Rs10 w10 (fun w12 K12 => DoV Try.prog (Instr.loadAt 3 c17_11) w12 K12 (Pan R)) (fun c18_12 ψ12 =>
 DetOp Rb10 Rs10 w10 (fun w13 K13 => DoV Try.prog (Instr.indexAt 45 v0 (Value.int IntKind.i64 2)) w13 K13 (Pan R)) (fun c20_13 ψ13 =>
 DetOp Rb10 Rs10 w10 (fun w14 K14 => DoV Try.prog (Instr.loadAt 3 c20_13) w14 K14 (Pan R)) (fun c21_14 ψ14 =>
 DetOp Rb10 Rs10 w10 (fun w15 K15 => DoV Try.prog (Instr.indexAt 45 v0 (Value.int IntKind.i64 3)) w15 K15 (Pan R)) (fun c23_15 ψ15 =>
 DetOp Rb10 Rs10 w10 (fun w16 K16 => DoV Try.prog (Instr.loadAt 3 c23_15) w16 K16 (Pan R)) (fun c24_16 ψ16 =>
 DetOp Rb10 Rs10 w10 (fun w17 K17 => DoV Try.prog (Instr.indexAt 45 v0 (Value.int IntKind.i64 4)) w17 K17 (Pan R)) (fun c26_17 ψ17 =>
 DetOp Rb10 Rs10 w10 (fun w18 K18 => DoV Try.prog (Instr.loadAt 3 c26_17) w18 K18 (Pan R)) (fun c27_18 ψ18 =>
 DetOp Rb10 Rs10 w10 (fun w19 K19 => DoV Try.prog (Instr.indexAt 45 v0 (Value.int IntKind.i64 5)) w19 K19 (Pan R)) (fun c29_19 ψ19 =>
 DetOp Rb10 Rs10 w10 (fun w20 K20 => DoV Try.prog (Instr.loadAt 3 c29_19) w20 K20 (Pan R)) (fun c30_20 ψ20 =>
 DetOp Rb10 Rs10 w10 (fun w21 K21 => DoV Try.prog (Instr.indexAt 45 v0 (Value.int IntKind.i64 6)) w21 K21 (Pan R)) (fun c32_21 ψ21 =>
 DetOp Rb10 Rs10 w10 (fun w22 K22 => DoV Try.prog (Instr.loadAt 3 c32_21) w22 K22 (Pan R)) (fun c33_22 ψ22 =>
 DetOp Rb10 Rs10 w10 (fun w23 K23 => DoV Try.prog (Instr.indexAt 45 v0 (Value.int IntKind.i64 7)) w23 K23 (Pan R)) (fun c35_23 ψ23 =>
 DetOp Rb10 Rs10 w10 (fun w24 K24 => DoV Try.prog (Instr.loadAt 3 c35_23) w24 K24 (Pan R)) (fun c36_24 ψ24 =>
 DetOp Rb10 Rs10 w10 (fun w25 K25 => DoV Try.prog (Instr.indexAt 45 v0 (Value.int IntKind.i64 8)) w25 K25 (Pan R)) (fun c38_25 ψ25 =>
 DetOp Rb10 Rs10 w10 (fun w26 K26 => DoV Try.prog (Instr.loadAt 3 c38_25) w26 K26 (Pan R)) (fun c39_26 ψ26 =>
 DetOp Rb10 Rs10 w10 (fun w27 K27 => DoV Try.prog (Instr.indexAt 45 v0 (Value.int IntKind.i64 9)) w27 K27 (Pan R)) (fun c41_27 ψ27 =>
 DetOp Rb10 Rs10 w10 (fun w28 K28 => DoV Try.prog (Instr.loadAt 3 c41_27) w28 K28 (Pan R)) (fun c42_28 ψ28 =>
 DetOp Rb10 Rs10 w10 (fun w29 K29 => DoV Try.prog (Instr.build 24 #[(0, c39_26), (1, c42_28)]) w29 K29 (Pan R)) (fun c43_29 ψ29 =>
 DetOp Rb10 Rs10 w10 (fun w30 K30 => DoV Try.prog (Instr.indexAt 45 v0 (Value.int IntKind.i64 10)) w30 K30 (Pan R)) (fun c45_30 ψ30 =>
 DetOp Rb10 Rs10 w10 (fun w31 K31 => DoV Try.prog (Instr.loadAt 3 c45_30) w31 K31 (Pan R)) (fun c46_31 ψ31 =>
 DetOp Rb10 Rs10 w10 (fun w32 K32 => DoV Try.prog (Instr.indexAt 45 v0 (Value.int IntKind.i64 11)) w32 K32 (Pan R)) (fun c48_32 ψ32 =>
 DetOp Rb10 Rs10 w10 (fun w33 K33 => DoV Try.prog (Instr.loadAt 3 c48_32) w33 K33 (Pan R)) (fun c49_33 ψ33 =>
 DetOp Rb10 Rs10 w10 (fun w34 K34 => DoV Try.prog (Instr.indexAt 45 v0 (Value.int IntKind.i64 12)) w34 K34 (Pan R)) (fun c51_34 ψ34 =>
 DetOp Rb10 Rs10 w10 (fun w35 K35 => DoV Try.prog (Instr.loadAt 3 c51_34) w35 K35 (Pan R)) (fun c52_35 ψ35 =>
 DetOp Rb10 Rs10 w10 (fun w36 K36 => DoV Try.prog (Instr.build 26 #[(0, c18_12), (1, c21_14), (2, c24_16), (3, c27_18), (4, c30_20), (5, c33_22), (6, c36_24), (7, c43_29), (8, c46_31), (9, c49_33), (10, c52_35)]) w36 K36 (Pan R)) (fun c53_36 ψ36 =>
 NdOp Rb10 Rs10 w10 (fun w37 K37 => DoV Try.prog (Instr.alloc 26 true (.tuple #[])) w37 K37 (Pan R)) (fun v4_37 φ37 =>
 ∀ w38, Rb10 w10 w38 → ((((((((((((((((((((((((((True ∧ ψ11 w38) ∧ ψ12 w38) ∧ ψ13 w38) ∧ ψ14 w38) ∧ ψ15 w38) ∧ ψ16 w38) ∧ ψ17 w38) ∧ ψ18 w38) ∧ ψ19 w38) ∧ ψ20 w38) ∧ ψ21 w38) ∧ ψ22 w38) ∧ ψ23 w38) ∧ ψ24 w38) ∧ ψ25 w38) ∧ ψ26 w38) ∧ ψ27 w38) ∧ ψ28 w38) ∧ ψ29 w38) ∧ ψ30 w38) ∧ ψ31 w38) ∧ ψ32 w38) ∧ ψ33 w38) ∧ ψ34 w38) ∧ ψ35 w38) ∧ ψ36 w38) ∧ φ37 w38 →
 DoU Try.prog (Instr.storeAt 26 v4_37 c53_36) w38 (fun _ w39 =>
 DrawE w39 (fun Rs40 Rb40 w40 =>
 DetOp Rb40 Rs40 w40 (fun w41 K41 => DoV Try.prog (Instr.indexAt 45 v0 (Value.int IntKind.i64 0)) w41 K41 (Pan R)) (fun c55_41 ψ41 =>
 DetOp Rb40 Rs40 w40 (fun w42 K42 => DoV Try.prog (Instr.loadAt 3 c55_41) w42 K42 (Pan R)) (fun c56_42 ψ42 =>
 DetOp Rb40 Rs40 w40 (fun w43 K43 => DoV Try.prog (Instr.loadAt 26 v4_37) w43 K43 (Pan R)) (fun c57_43 ψ43 =>
 DetOp Rb40 Rs40 w40 (fun w44 K44 => DoV Try.prog (Instr.build 29 #[(0, c56_42), (1, c57_43)]) w44 K44 (Pan R)) (fun c58_44 ψ44 =>
 NdOp Rb40 Rs40 w40 (fun w45 K45 => DoV Try.prog (Instr.alloc 29 true (.tuple #[])) w45 K45 (Pan R)) (fun v5_45 φ45 =>
 ∀ w46, Rb40 w40 w46 → ((((True ∧ ψ41 w46) ∧ ψ42 w46) ∧ ψ43 w46) ∧ ψ44 w46) ∧ φ45 w46 →
 DoU Try.prog (Instr.storeAt 29 v5_45 c58_44) w46 (fun _ w47 =>
 DrawE w47 (fun Rs48 Rb48 w48 =>
 DetOp Rb48 Rs48 w48 (fun w49 K49 => DoV Try.prog (Instr.loadAt 29 v5_45) w49 K49 (Pan R)) (fun c59_49 ψ49 =>
 DetOp Rb48 Rs48 w48 (fun w50 K50 => DoV Try.prog (Instr.loadAt 29 v5_45) w50 K50 (Pan R)) (fun c60_50 ψ50 =>
 DetOp Rs48 Rb48 w48 (fun w51 K51 => CallF Try.prog 20 #[c60_50] w51 K51 (Pan R)) (fun c61_51 ψ51 =>
 ∀ w52, Rb48 w48 w52 → (((True ∧ ψ49 w52) ∧ ψ50 w52) ∧ ψ51 w52) →
 DoU Try.prog (Instr.storeAt 29 t2_1 c59_49) w52 (fun _ w53 =>
 Res Try.prog [.cell t2_1 29, .tmp c61_51] w53 R) (Pan R)))))) (Pan R)))))))) (Pan R))))))))))))))))))))))))))))))
(K2 [] w9)))
(fun _ w54 =>
 JoinE [] (fun K55 =>
 JoinE [82] (fun K56 =>
 CallB Try.prog Builtin.len #[45] 3 #[false] #[v0] w54 (fun t63_57 w57 =>
 DoV Try.prog (binS BinOp.eql 3 (Operand.tmp 63) (Operand.const (Value.int IntKind.i64 4)) t63_57 (Value.int IntKind.i64 4)) w57 (fun t64_58 w58 =>
 Gd t64_58 true (DoV Try.prog (Instr.indexAt 45 v0 (Value.int IntKind.i64 0)) w58 (fun t67_59 w59 =>
 DoV Try.prog (Instr.loadAt 3 t67_59) w59 (fun t68_60 w60 =>
 DoV Try.prog (binS BinOp.eql 3 (Operand.tmp 68) (Operand.const (Value.int IntKind.i64 2)) t68_60 (Value.int IntKind.i64 2)) w60 (fun t69_61 w61 =>
 Gd t69_61 true (DoV Try.prog (Instr.indexAt 45 v0 (Value.int IntKind.i64 2)) w61 (fun t73_62 w62 =>
 DoV Try.prog (Instr.loadAt 3 t73_62) w62 (fun t74_63 w63 =>
 CallF Try.prog 43 #[t74_63] w63 (fun t75_64 w64 =>
 Gd t75_64 true (DoV Try.prog (Instr.indexAt 45 v0 (Value.int IntKind.i64 3)) w64 (fun t79_65 w65 =>
 DoV Try.prog (Instr.loadAt 3 t79_65) w65 (fun t80_66 w66 =>
 CallF Try.prog 43 #[t80_66] w66 (fun t81_67 w67 =>
 K56 [t81_67] w67) (Pan R)) (Pan R)) (Pan R))
(K56 [(Value.bool false)] w64)) (Pan R)) (Pan R)) (Pan R))
(K56 [(Value.bool false)] w61)) (Pan R)) (Pan R)) (Pan R))
(K56 [(Value.bool false)] w58)) (Pan R)) (Pan R))
(fun h68 w68 =>
 Br (h68 82)
(DrawE w68 (fun Rs69 Rb69 w69 =>
 DetOp Rb69 Rs69 w69 (fun w70 K70 => DoV Try.prog (Instr.indexAt 45 v0 (Value.int IntKind.i64 0)) w70 K70 (Pan R)) (fun c84_70 ψ70 =>
 DetOp Rb69 Rs69 w69 (fun w71 K71 => DoV Try.prog (Instr.loadAt 3 c84_70) w71 K71 (Pan R)) (fun c85_71 ψ71 =>
 DetOp Rb69 Rs69 w69 (fun w72 K72 => DoV Try.prog (Instr.indexAt 45 v0 (Value.int IntKind.i64 1)) w72 K72 (Pan R)) (fun c87_72 ψ72 =>
 DetOp Rb69 Rs69 w69 (fun w73 K73 => DoV Try.prog (Instr.loadAt 3 c87_72) w73 K73 (Pan R)) (fun c88_73 ψ73 =>
 DetOp Rb69 Rs69 w69 (fun w74 K74 => DoV Try.prog (Instr.indexAt 45 v0 (Value.int IntKind.i64 2)) w74 K74 (Pan R)) (fun c90_74 ψ74 =>
 DetOp Rb69 Rs69 w69 (fun w75 K75 => DoV Try.prog (Instr.loadAt 3 c90_74) w75 K75 (Pan R)) (fun c91_75 ψ75 =>
 DetOp Rb69 Rs69 w69 (fun w76 K76 => DoV Try.prog (convert 3 27 c91_75) w76 K76 (Pan R)) (fun c92_76 ψ76 =>
 DetOp Rb69 Rs69 w69 (fun w77 K77 => DoV Try.prog (binS BinOp.mul 27 (Operand.tmp 92) (Operand.const (Value.int IntKind.u64 4294967296)) c92_76 (Value.int IntKind.u64 4294967296)) w77 K77 (Pan R)) (fun c93_77 ψ77 =>
 DetOp Rb69 Rs69 w69 (fun w78 K78 => DoV Try.prog (Instr.indexAt 45 v0 (Value.int IntKind.i64 3)) w78 K78 (Pan R)) (fun c95_78 ψ78 =>
 DetOp Rb69 Rs69 w69 (fun w79 K79 => DoV Try.prog (Instr.loadAt 3 c95_78) w79 K79 (Pan R)) (fun c96_79 ψ79 =>
 DetOp Rb69 Rs69 w69 (fun w80 K80 => DoV Try.prog (convert 3 27 c96_79) w80 K80 (Pan R)) (fun c97_80 ψ80 =>
 DetOp Rb69 Rs69 w69 (fun w81 K81 => DoV Try.prog (binS BinOp.add 27 (Operand.tmp 93) (Operand.tmp 97) c93_77 c97_80) w81 K81 (Pan R)) (fun c98_81 ψ81 =>
 DetOp Rb69 Rs69 w69 (fun w82 K82 => DoV Try.prog (Instr.build 29 #[(0, c85_71), (2, c88_73), (3, c98_81)]) w82 K82 (Pan R)) (fun c99_82 ψ82 =>
 NdOp Rb69 Rs69 w69 (fun w83 K83 => DoV Try.prog (Instr.alloc 29 true (.tuple #[])) w83 K83 (Pan R)) (fun v6_83 φ83 =>
 ∀ w84, Rb69 w69 w84 → (((((((((((((True ∧ ψ70 w84) ∧ ψ71 w84) ∧ ψ72 w84) ∧ ψ73 w84) ∧ ψ74 w84) ∧ ψ75 w84) ∧ ψ76 w84) ∧ ψ77 w84) ∧ ψ78 w84) ∧ ψ79 w84) ∧ ψ80 w84) ∧ ψ81 w84) ∧ ψ82 w84) ∧ φ83 w84 →
 DoU Try.prog (Instr.storeAt 29 v6_83 c99_82) w84 (fun _ w85 =>
 DrawE w85 (fun Rs86 Rb86 w86 =>
 DetOp Rb86 Rs86 w86 (fun w87 K87 => DoV Try.prog (Instr.loadAt 29 v6_83) w87 K87 (Pan R)) (fun c100_87 ψ87 =>
 DetOp Rb86 Rs86 w86 (fun w88 K88 => DoV Try.prog (Instr.loadAt 29 v6_83) w88 K88 (Pan R)) (fun c101_88 ψ88 =>
 DetOp Rs86 Rb86 w86 (fun w89 K89 => CallF Try.prog 20 #[c101_88] w89 K89 (Pan R)) (fun c102_89 ψ89 =>
 ∀ w90, Rb86 w86 w90 → (((True ∧ ψ87 w90) ∧ ψ88 w90) ∧ ψ89 w90) →
 DoU Try.prog (Instr.storeAt 29 t2_1 c100_87) w90 (fun _ w91 =>
 Res Try.prog [.cell t2_1 29, .tmp c102_89] w91 R) (Pan R)))))) (Pan R)))))))))))))))))
(K55 [] w68)))
(fun _ w92 =>
 DoV Try.prog (Instr.build 29 #[]) w92 (fun t103_93 w93 =>
 DoU Try.prog (Instr.storeAt 29 t2_1 t103_93) w93 (fun _ w94 =>
 Res Try.prog [.cell t2_1 29, .tmp (Value.bool false)] w94 R) (Pan R)) (Pan R)))) (Pan R))
theorem sh_landfallref40_Record_eq (v0 : Value) (R : Ending → World → Prop) (w : World) : vc Try.prog [(2, 38, true, 0), (3, 5, true, 0), (4, 3, false, 3), (6, 17, true, 0), (7, 3, false, 3)] [] (Try.f31.body.getD .skip) (endE Try.prog Try.f31.results R) (argsE [v0]) [] w = sh_landfallref40_Record v0 R w := by kernel_rfl
theorem sh_landfallref40_Record_ok (v0 : Value) {R : Ending → World → Prop} {w : World} (h : sh_landfallref40_Record v0 R w) : Calls Try.prog 31 #[v0] w R :=
  calls_of_vc (args := [v0]) [(2, 38, true, 0), (3, 5, true, 0), (4, 3, false, 3), (6, 17, true, 0), (7, 3, false, 3)] [] follows_mixed Try.func31 rfl (of_decide_eq_true (by kernel_rfl)) (by kernel_rfl) ((sh_landfallref40_Record_eq v0 R w).symm ▸ h)
/- landfall/landfallref40.Kept -/
def sh_landfallref40_Kept (v0 : Value) (R : Ending → World → Prop) (w : World) : Prop := (
 LoopE [4, 5] [(Value.slice none 0 0), (Value.int IntKind.i64 0)] w (fun h1 w1 K1 =>
 CallB Try.prog Builtin.len #[30] 3 #[false] #[v0] w1 (fun t8_2 w2 =>
 DoV Try.prog (binS BinOp.lss 3 (Operand.tmp 6) (Operand.tmp 8) (h1 5) t8_2) w2 (fun t9_3 w3 =>
 Br t9_3
(JoinE [4] (fun K4 =>
 DoV Try.prog (Instr.indexAt 30 v0 (h1 5)) w3 (fun t14_5 w5 =>
 DoV Try.prog (Instr.fieldAt 29 t14_5 0) w5 (fun t15_6 w6 =>
 DoV Try.prog (Instr.loadAt 3 t15_6) w6 (fun t16_7 w7 =>
 DoV Try.prog (binS BinOp.eql 3 (Operand.tmp 16) (Operand.const (Value.int IntKind.i64 2)) t16_7 (Value.int IntKind.i64 2)) w7 (fun t17_8 w8 =>
 Br t17_8
(DoV Try.prog (Instr.indexAt 30 v0 (h1 5)) w8 (fun t20_9 w9 =>
 DoV Try.prog (Instr.fieldAt 29 t20_9 2) w9 (fun t21_10 w10 =>
 DoV Try.prog (Instr.loadAt 3 t21_10) w10 (fun t22_11 w11 =>
 CallB Try.prog Builtin.len #[39] 3 #[false] #[(h1 4)] w11 (fun t24_12 w12 =>
 DoV Try.prog (binS BinOp.neq 3 (Operand.tmp 22) (Operand.tmp 24) t22_11 t24_12) w12 (fun t25_13 w13 =>
 Br t25_13
(R (.returned (Value.tuple #[(Value.slice none 0 0), (Value.bool false)])) w13)
(K4 [(h1 4)] w13)) (Pan R)) (Pan R)) (Pan R)) (Pan R)) (Pan R))
(DoV Try.prog (Instr.indexAt 30 v0 (h1 5)) w8 (fun t28_14 w14 =>
 DoV Try.prog (Instr.fieldAt 29 t28_14 1) w14 (fun t29_15 w15 =>
 DoV Try.prog (Instr.fieldAt 26 t29_15 0) w15 (fun t30_16 w16 =>
 DoV Try.prog (Instr.loadAt 3 t30_16) w16 (fun t31_17 w17 =>
 CallB Try.prog Builtin.len #[39] 3 #[false] #[(h1 4)] w17 (fun t33_18 w18 =>
 DoV Try.prog (binS BinOp.add 3 (Operand.tmp 33) (Operand.const (Value.int IntKind.i64 1)) t33_18 (Value.int IntKind.i64 1)) w18 (fun t34_19 w19 =>
 DoV Try.prog (binS BinOp.neq 3 (Operand.tmp 31) (Operand.tmp 34) t31_17 t34_19) w19 (fun t35_20 w20 =>
 Br t35_20
(R (.returned (Value.tuple #[(Value.slice none 0 0), (Value.bool false)])) w20)
(DoV Try.prog (Instr.indexAt 30 v0 (h1 5)) w20 (fun t39_21 w21 =>
 DoV Try.prog (Instr.fieldAt 29 t39_21 1) w21 (fun t40_22 w22 =>
 DoV Try.prog (Instr.loadAt 26 t40_22) w22 (fun t41_23 w23 =>
 DoV Try.prog (Instr.buildSlice 39 1 #[(0, t41_23)]) w23 (fun t42_24 w24 =>
 CallB Try.prog Builtin.append #[39, 39] 39 #[false, false] #[(h1 4), t42_24] w24 (fun t43_25 w25 =>
 K4 [t43_25] w25) (Pan R)) (Pan R)) (Pan R)) (Pan R)) (Pan R))) (Pan R)) (Pan R)) (Pan R)) (Pan R)) (Pan R)) (Pan R)) (Pan R))) (Pan R)) (Pan R)) (Pan R)) (Pan R))
(fun h26 w26 =>
 DoV Try.prog (binS BinOp.add 3 (Operand.tmp 10) (Operand.const (Value.int IntKind.i64 1)) (h1 5) (Value.int IntKind.i64 1)) w26 (fun t11_27 w27 =>
 K1 [(h26 4), t11_27] w27) (Pan R)))
(R (.returned (Value.tuple #[(h1 4), (Value.bool true)])) w3)) (Pan R)) (Pan R)))
theorem sh_landfallref40_Kept_eq (v0 : Value) (R : Ending → World → Prop) (w : World) : vc Try.prog [] [4, 5] (Try.f32.body.getD .skip) (endE Try.prog Try.f32.results R) (argsE [v0]) [] w = sh_landfallref40_Kept v0 R w := by kernel_rfl
theorem sh_landfallref40_Kept_ok (v0 : Value) {R : Ending → World → Prop} {w : World} (h : sh_landfallref40_Kept v0 R w) : Calls Try.prog 32 #[v0] w R :=
  calls_of_vc (args := [v0]) [] [4, 5] follows_mixed Try.func32 rfl (of_decide_eq_true (by kernel_rfl)) (by kernel_rfl) ((sh_landfallref40_Kept_eq v0 R w).symm ▸ h)
/- landfall/codec.Put -/
def sh_codec_Put (v0 : Value) (R : Ending → World → Prop) (w : World) : Prop := (
 CallB Try.prog Builtin.len #[45] 3 #[false] #[v0] w (fun t8_1 w1 =>
 DoV Try.prog (binS BinOp.gtr 3 (Operand.tmp 8) (Operand.const (Value.int IntKind.i64 4000)) t8_1 (Value.int IntKind.i64 4000)) w1 (fun t9_2 w2 =>
 Br t9_2
(R (.returned (Value.tuple #[(Value.slice none 0 0), (Value.int IntKind.i64 2)])) w2)
(CallB Try.prog Builtin.len #[45] 3 #[false] #[v0] w2 (fun t11_3 w3 =>
 CallF Try.prog 44 #[(Value.slice none 0 0), t11_3] w3 (fun t12_4 w4 =>
 CallB Try.prog Builtin.len #[45] 3 #[false] #[v0] w4 (fun t14_5 w5 =>
 LoopE [4, 15] [t12_4, (Value.int IntKind.i64 0)] w5 (fun h6 w6 K6 =>
 DoV Try.prog (binS BinOp.lss 3 (Operand.tmp 15) (Operand.tmp 14) (h6 15) t14_5) w6 (fun t16_7 w7 =>
 Br t16_7
(DoV Try.prog (Instr.indexAt 45 v0 (h6 15)) w7 (fun t17_8 w8 =>
 DoV Try.prog (Instr.loadAt 3 t17_8) w8 (fun t18_9 w9 =>
 CallF Try.prog 44 #[(h6 4), t18_9] w9 (fun t21_10 w10 =>
 DoV Try.prog (binS BinOp.add 3 (Operand.tmp 15) (Operand.const (Value.int IntKind.i64 1)) (h6 15) (Value.int IntKind.i64 1)) w10 (fun t22_11 w11 =>
 K6 [t21_10, t22_11] w11) (Pan R)) (Pan R)) (Pan R)) (Pan R))
(R (.returned (Value.tuple #[(h6 4), (Value.int IntKind.i64 0)])) w7)) (Pan R))) (Pan R)) (Pan R)) (Pan R))) (Pan R)) (Pan R))
theorem sh_codec_Put_eq (v0 : Value) (R : Ending → World → Prop) (w : World) : vc Try.prog [] [4, 15] (Try.f33.body.getD .skip) (endE Try.prog Try.f33.results R) (argsE [v0]) [] w = sh_codec_Put v0 R w := by kernel_rfl
theorem sh_codec_Put_ok (v0 : Value) {R : Ending → World → Prop} {w : World} (h : sh_codec_Put v0 R w) : Calls Try.prog 33 #[v0] w R :=
  calls_of_vc (args := [v0]) [] [4, 15] follows_mixed Try.func33 rfl (of_decide_eq_true (by kernel_rfl)) (by kernel_rfl) ((sh_codec_Put_eq v0 R w).symm ▸ h)
/- landfall/codec.sum -/
def sh_codec_sum (v0 : Value) (R : Ending → World → Prop) (w : World) : Prop := (
 DoV Try.prog (Instr.alloc 67 true (.tuple #[])) w (fun t2_1 w1 =>
 DoV Try.prog (convert 22 9 v0) w1 (fun t7_2 w2 =>
 CallF Try.prog 45 #[t7_2] w2 (fun t8_3 w3 =>
 DoV Try.prog (Instr.alloc 67 true (.tuple #[])) w3 (fun t4_4 w4 =>
 LoopE [9] [(Value.int IntKind.i64 0)] w4 (fun h5 w5 K5 =>
 DoV Try.prog (binS BinOp.lss 3 (Operand.tmp 9) (Operand.const (Value.int IntKind.i64 8)) (h5 9) (Value.int IntKind.i64 8)) w5 (fun t10_6 w6 =>
 Br t10_6
(DoV Try.prog (binS BinOp.sub 3 (Operand.const (Value.int IntKind.i64 7)) (Operand.tmp 14) (Value.int IntKind.i64 7) (h5 9)) w6 (fun t15_7 w7 =>
 DoV Try.prog (binS BinOp.mul 3 (Operand.const (Value.int IntKind.i64 8)) (Operand.tmp 15) (Value.int IntKind.i64 8) t15_7) w7 (fun t16_8 w8 =>
 DoV Try.prog (binS BinOp.shr 27 (Operand.tmp 13) (Operand.tmp 16) t8_3 t16_8) w8 (fun t17_9 w9 =>
 DoV Try.prog (convert 27 5 t17_9) w9 (fun t18_10 w10 =>
 DoV Try.prog (Instr.indexAt 67 t4_4 (h5 9)) w10 (fun t19_11 w11 =>
 DoU Try.prog (Instr.storeAt 5 t19_11 t18_10) w11 (fun _ w12 =>
 DoV Try.prog (binS BinOp.add 3 (Operand.tmp 9) (Operand.const (Value.int IntKind.i64 1)) (h5 9) (Value.int IntKind.i64 1)) w12 (fun t20_13 w13 =>
 K5 [t20_13] w13) (Pan R)) (Pan R)) (Pan R)) (Pan R)) (Pan R)) (Pan R)) (Pan R))
(DoV Try.prog (Instr.loadAt 67 t4_4) w6 (fun t21_14 w14 =>
 DoU Try.prog (Instr.storeAt 67 t2_1 t21_14) w14 (fun _ w15 =>
 Res Try.prog [.cell t2_1 67] w15 R) (Pan R)) (Pan R))) (Pan R))) (Pan R)) (Pan R)) (Pan R)) (Pan R))
theorem sh_codec_sum_eq (v0 : Value) (R : Ending → World → Prop) (w : World) : vc Try.prog [] [9] (Try.f34.body.getD .skip) (endE Try.prog Try.f34.results R) (argsE [v0]) [] w = sh_codec_sum v0 R w := by kernel_rfl
theorem sh_codec_sum_ok (v0 : Value) {R : Ending → World → Prop} {w : World} (h : sh_codec_sum v0 R w) : Calls Try.prog 34 #[v0] w R :=
  calls_of_vc (args := [v0]) [] [9] follows_mixed Try.func34 rfl (of_decide_eq_true (by kernel_rfl)) (by kernel_rfl) ((sh_codec_sum_eq v0 R w).symm ▸ h)
/- landfall/journal.list -/
def sh_journal_list (v0 : Value) (R : Ending → World → Prop) (w : World) : Prop := (
 R (.returned v0) w)
theorem sh_journal_list_eq (v0 : Value) (R : Ending → World → Prop) (w : World) : vc Try.prog [] [] (Try.f35.body.getD .skip) (endE Try.prog Try.f35.results R) (argsE [v0]) [] w = sh_journal_list v0 R w := by kernel_rfl
theorem sh_journal_list_ok (v0 : Value) {R : Ending → World → Prop} {w : World} (h : sh_journal_list v0 R w) : Calls Try.prog 35 #[v0] w R :=
  calls_of_vc (args := [v0]) [] [] follows_mixed Try.func35 rfl (of_decide_eq_true (by kernel_rfl)) (by kernel_rfl) ((sh_journal_list_eq v0 R w).symm ▸ h)
/- landfall/landfallref08.Put -/
def sh_landfallref08_Put (v0 : Value) (R : Ending → World → Prop) (w : World) : Prop := (
 CallB Try.prog Builtin.len #[45] 3 #[false] #[v0] w (fun t7_1 w1 =>
 DoV Try.prog (binS BinOp.gtr 3 (Operand.tmp 7) (Operand.const (Value.int IntKind.i64 4000)) t7_1 (Value.int IntKind.i64 4000)) w1 (fun t8_2 w2 =>
 Br t8_2
(R (.returned (Value.tuple #[(Value.slice none 0 0), (Value.int IntKind.i64 2)])) w2)
(CallB Try.prog Builtin.len #[45] 3 #[false] #[v0] w2 (fun t10_3 w3 =>
 CallF Try.prog 46 #[t10_3] w3 (fun t11_4 w4 =>
 LoopE [4, 5] [t11_4, (Value.int IntKind.i64 0)] w4 (fun h5 w5 K5 =>
 CallB Try.prog Builtin.len #[45] 3 #[false] #[v0] w5 (fun t14_6 w6 =>
 DoV Try.prog (binS BinOp.lss 3 (Operand.tmp 12) (Operand.tmp 14) (h5 5) t14_6) w6 (fun t15_7 w7 =>
 Br t15_7
(DoV Try.prog (Instr.indexAt 45 v0 (h5 5)) w7 (fun t21_8 w8 =>
 DoV Try.prog (Instr.loadAt 3 t21_8) w8 (fun t22_9 w9 =>
 CallF Try.prog 46 #[t22_9] w9 (fun t23_10 w10 =>
 CallB Try.prog Builtin.append #[22, 22] 22 #[false, false] #[(h5 4), t23_10] w10 (fun t24_11 w11 =>
 DoV Try.prog (binS BinOp.add 3 (Operand.tmp 16) (Operand.const (Value.int IntKind.i64 1)) (h5 5) (Value.int IntKind.i64 1)) w11 (fun t17_12 w12 =>
 K5 [t24_11, t17_12] w12) (Pan R)) (Pan R)) (Pan R)) (Pan R)) (Pan R))
(R (.returned (Value.tuple #[(h5 4), (Value.int IntKind.i64 0)])) w7)) (Pan R)) (Pan R))) (Pan R)) (Pan R))) (Pan R)) (Pan R))
theorem sh_landfallref08_Put_eq (v0 : Value) (R : Ending → World → Prop) (w : World) : vc Try.prog [] [4, 5] (Try.f36.body.getD .skip) (endE Try.prog Try.f36.results R) (argsE [v0]) [] w = sh_landfallref08_Put v0 R w := by kernel_rfl
theorem sh_landfallref08_Put_ok (v0 : Value) {R : Ending → World → Prop} {w : World} (h : sh_landfallref08_Put v0 R w) : Calls Try.prog 36 #[v0] w R :=
  calls_of_vc (args := [v0]) [] [4, 5] follows_mixed Try.func36 rfl (of_decide_eq_true (by kernel_rfl)) (by kernel_rfl) ((sh_landfallref08_Put_eq v0 R w).symm ▸ h)
/- landfall/landfallref08.bytes -/
def sh_landfallref08_bytes (v0 : Value) (R : Ending → World → Prop) (w : World) : Prop := (
 LoopE [3, 4] [(Value.slice none 0 0), (Value.int IntKind.i64 0)] w (fun h1 w1 K1 =>
 DoV Try.prog (binS BinOp.lss 3 (Operand.tmp 5) (Operand.const (Value.int IntKind.i64 8)) (h1 4) (Value.int IntKind.i64 8)) w1 (fun t6_2 w2 =>
 Br t6_2
(DoV Try.prog (binS BinOp.mul 3 (Operand.const (Value.int IntKind.i64 8)) (Operand.tmp 11) (Value.int IntKind.i64 8) (h1 4)) w2 (fun t12_3 w3 =>
 DoV Try.prog (binS BinOp.sub 3 (Operand.const (Value.int IntKind.i64 56)) (Operand.tmp 12) (Value.int IntKind.i64 56) t12_3) w3 (fun t13_4 w4 =>
 DoV Try.prog (binS BinOp.shr 27 (Operand.tmp 10) (Operand.tmp 13) v0 t13_4) w4 (fun t14_5 w5 =>
 DoV Try.prog (convert 27 5 t14_5) w5 (fun t15_6 w6 =>
 DoV Try.prog (Instr.buildSlice 22 1 #[(0, t15_6)]) w6 (fun t16_7 w7 =>
 CallB Try.prog Builtin.append #[22, 22] 22 #[false, false] #[(h1 3), t16_7] w7 (fun t17_8 w8 =>
 DoV Try.prog (binS BinOp.add 3 (Operand.tmp 7) (Operand.const (Value.int IntKind.i64 1)) (h1 4) (Value.int IntKind.i64 1)) w8 (fun t8_9 w9 =>
 K1 [t17_8, t8_9] w9) (Pan R)) (Pan R)) (Pan R)) (Pan R)) (Pan R)) (Pan R)) (Pan R))
(R (.returned (h1 3)) w2)) (Pan R)))
theorem sh_landfallref08_bytes_eq (v0 : Value) (R : Ending → World → Prop) (w : World) : vc Try.prog [] [3, 4] (Try.f37.body.getD .skip) (endE Try.prog Try.f37.results R) (argsE [v0]) [] w = sh_landfallref08_bytes v0 R w := by kernel_rfl
theorem sh_landfallref08_bytes_ok (v0 : Value) {R : Ending → World → Prop} {w : World} (h : sh_landfallref08_bytes v0 R w) : Calls Try.prog 37 #[v0] w R :=
  calls_of_vc (args := [v0]) [] [3, 4] follows_mixed Try.func37 rfl (of_decide_eq_true (by kernel_rfl)) (by kernel_rfl) ((sh_landfallref08_bytes_eq v0 R w).symm ▸ h)
/- landfall/landfallref05.Text -/
def sh_landfallref05_Text (v0 : Value) (R : Ending → World → Prop) (w : World) : Prop := (
 LoopE [3, 4] [(Value.int IntKind.u64 14695981039346656037), (Value.int IntKind.i64 0)] w (fun h1 w1 K1 =>
 CallB Try.prog Builtin.len #[9] 3 #[false] #[v0] w1 (fun t7_2 w2 =>
 DoV Try.prog (binS BinOp.lss 3 (Operand.tmp 5) (Operand.tmp 7) (h1 4) t7_2) w2 (fun t8_3 w3 =>
 Br t8_3
(DoV Try.prog (Instr.index 9 v0 (h1 4)) w3 (fun t14_4 w4 =>
 DoV Try.prog (convert 5 27 t14_4) w4 (fun t15_5 w5 =>
 DoV Try.prog (binS BinOp.xor 27 (Operand.tmp 11) (Operand.tmp 15) (h1 3) t15_5) w5 (fun t16_6 w6 =>
 DoV Try.prog (binS BinOp.mul 27 (Operand.tmp 16) (Operand.const (Value.int IntKind.u64 1099511628211)) t16_6 (Value.int IntKind.u64 1099511628211)) w6 (fun t17_7 w7 =>
 DoV Try.prog (binS BinOp.add 3 (Operand.tmp 9) (Operand.const (Value.int IntKind.i64 1)) (h1 4) (Value.int IntKind.i64 1)) w7 (fun t10_8 w8 =>
 K1 [t17_7, t10_8] w8) (Pan R)) (Pan R)) (Pan R)) (Pan R)) (Pan R))
(R (.returned (h1 3)) w3)) (Pan R)) (Pan R)))
theorem sh_landfallref05_Text_eq (v0 : Value) (R : Ending → World → Prop) (w : World) : vc Try.prog [] [3, 4] (Try.f38.body.getD .skip) (endE Try.prog Try.f38.results R) (argsE [v0]) [] w = sh_landfallref05_Text v0 R w := by kernel_rfl
theorem sh_landfallref05_Text_ok (v0 : Value) {R : Ending → World → Prop} {w : World} (h : sh_landfallref05_Text v0 R w) : Calls Try.prog 38 #[v0] w R :=
  calls_of_vc (args := [v0]) [] [3, 4] follows_mixed Try.func38 rfl (of_decide_eq_true (by kernel_rfl)) (by kernel_rfl) ((sh_landfallref05_Text_eq v0 R w).symm ▸ h)
/- landfall/codec.whole -/
def sh_codec_whole (v0 : Value) (R : Ending → World → Prop) (w : World) : Prop := (
 CallB Try.prog Builtin.len #[22] 3 #[false] #[v0] w (fun t10_1 w1 =>
 DoV Try.prog (binS BinOp.lss 3 (Operand.tmp 10) (Operand.const (Value.int IntKind.i64 11)) t10_1 (Value.int IntKind.i64 11)) w1 (fun t11_2 w2 =>
 Br t11_2
(R (.returned (Value.tuple #[(Value.slice none 0 0), (Value.int IntKind.i64 0)])) w2)
(DrawE w2 (fun Rs3 Rb3 w3 =>
 DetOp Rb3 Rs3 w3 (fun w4 K4 => DoV Try.prog (Instr.indexAt 22 v0 (Value.int IntKind.i64 0)) w4 K4 (Pan R)) (fun c13_4 ψ4 =>
 DetOp Rb3 Rs3 w3 (fun w5 K5 => DoV Try.prog (Instr.loadAt 5 c13_4) w5 K5 (Pan R)) (fun c14_5 ψ5 =>
 DetOp Rb3 Rs3 w3 (fun w6 K6 => DoV Try.prog (convert 5 3 c14_5) w6 K6 (Pan R)) (fun c15_6 ψ6 =>
 DetOp Rb3 Rs3 w3 (fun w7 K7 => DoV Try.prog (binS BinOp.shl 3 (Operand.tmp 15) (Operand.const (Value.int IntKind.u64 16)) c15_6 (Value.int IntKind.u64 16)) w7 K7 (Pan R)) (fun c16_7 ψ7 =>
 DetOp Rb3 Rs3 w3 (fun w8 K8 => DoV Try.prog (Instr.indexAt 22 v0 (Value.int IntKind.i64 1)) w8 K8 (Pan R)) (fun c18_8 ψ8 =>
 DetOp Rb3 Rs3 w3 (fun w9 K9 => DoV Try.prog (Instr.loadAt 5 c18_8) w9 K9 (Pan R)) (fun c19_9 ψ9 =>
 DetOp Rb3 Rs3 w3 (fun w10 K10 => DoV Try.prog (convert 5 3 c19_9) w10 K10 (Pan R)) (fun c20_10 ψ10 =>
 DetOp Rb3 Rs3 w3 (fun w11 K11 => DoV Try.prog (binS BinOp.shl 3 (Operand.tmp 20) (Operand.const (Value.int IntKind.u64 8)) c20_10 (Value.int IntKind.u64 8)) w11 K11 (Pan R)) (fun c21_11 ψ11 =>
 DetOp Rb3 Rs3 w3 (fun w12 K12 => DoV Try.prog (binS BinOp.add 3 (Operand.tmp 16) (Operand.tmp 21) c16_7 c21_11) w12 K12 (Pan R)) (fun c22_12 ψ12 =>
 DetOp Rb3 Rs3 w3 (fun w13 K13 => DoV Try.prog (Instr.indexAt 22 v0 (Value.int IntKind.i64 2)) w13 K13 (Pan R)) (fun c24_13 ψ13 =>
 DetOp Rb3 Rs3 w3 (fun w14 K14 => DoV Try.prog (Instr.loadAt 5 c24_13) w14 K14 (Pan R)) (fun c25_14 ψ14 =>
 DetOp Rb3 Rs3 w3 (fun w15 K15 => DoV Try.prog (convert 5 3 c25_14) w15 K15 (Pan R)) (fun c26_15 ψ15 =>
 ∀ w16, Rb3 w3 w16 → ((((((((((((True ∧ ψ4 w16) ∧ ψ5 w16) ∧ ψ6 w16) ∧ ψ7 w16) ∧ ψ8 w16) ∧ ψ9 w16) ∧ ψ10 w16) ∧ ψ11 w16) ∧ ψ12 w16) ∧ ψ13 w16) ∧ ψ14 w16) ∧ ψ15 w16) →
 DoV Try.prog (binS BinOp.add 3 (Operand.tmp 22) (Operand.tmp 26) c22_12 c26_15) w16 (fun t27_17 w17 =>
 DoV Try.prog (binS BinOp.add 3 (Operand.const (Value.int IntKind.i64 3)) (Operand.tmp 28) (Value.int IntKind.i64 3) t27_17) w17 (fun t29_18 w18 =>
 CallB Try.prog Builtin.len #[22] 3 #[false] #[v0] w18 (fun t31_19 w19 =>
 DoV Try.prog (binS BinOp.add 3 (Operand.tmp 32) (Operand.const (Value.int IntKind.i64 8)) t29_18 (Value.int IntKind.i64 8)) w19 (fun t33_20 w20 =>
 DoV Try.prog (binS BinOp.lss 3 (Operand.tmp 31) (Operand.tmp 33) t31_19 t33_20) w20 (fun t34_21 w21 =>
 Br t34_21
(R (.returned (Value.tuple #[(Value.slice none 0 0), (Value.int IntKind.i64 0)])) w21)
(DoV Try.prog (Instr.sliceAt 22 v0 none (some t29_18) (some t29_18)) w21 (fun t38_22 w22 =>
 DrawE w22 (fun Rs23 Rb23 w23 =>
 DetOp Rs23 Rb23 w23 (fun w24 K24 => CallF Try.prog 34 #[t38_22] w24 K24 (Pan R)) (fun c40_24 ψ24 =>
 DetOp Rb23 Rs23 w23 (fun w25 K25 => DoV Try.prog (binS BinOp.add 3 (Operand.tmp 43) (Operand.const (Value.int IntKind.i64 8)) t29_18 (Value.int IntKind.i64 8)) w25 K25 (Pan R)) (fun c44_25 ψ25 =>
 DetOp Rb23 Rs23 w23 (fun w26 K26 => DoV Try.prog (Instr.sliceAt 22 v0 (some t29_18) (some c44_25) none) w26 K26 (Pan R)) (fun c45_26 ψ26 =>
 DetOp Rb23 Rs23 w23 (fun w27 K27 => DoV Try.prog (Instr.arrayAt 67 c45_26) w27 K27 (Pan R)) (fun c46_27 ψ27 =>
 DetOp Rb23 Rs23 w23 (fun w28 K28 => DoV Try.prog (Instr.loadAt 67 c46_27) w28 K28 (Pan R)) (fun c47_28 ψ28 =>
 ∀ w29, Rb23 w23 w29 → (((((True ∧ ψ24 w29) ∧ ψ25 w29) ∧ ψ26 w29) ∧ ψ27 w29) ∧ ψ28 w29) →
 DoV Try.prog (binS BinOp.neq 67 (Operand.tmp 40) (Operand.tmp 47) c40_24 c47_28) w29 (fun t48_30 w30 =>
 Br t48_30
(R (.returned (Value.tuple #[(Value.slice none 0 0), (Value.int IntKind.i64 0)])) w30)
(DoV Try.prog (Instr.sliceAt 22 t38_22 (some (Value.int IntKind.i64 3)) none none) w30 (fun t51_31 w31 =>
 CallF Try.prog 47 #[t51_31] w31 (fun t52_32 w32 =>
 DoV Try.prog (Instr.extract t52_32 0) w32 (fun t53_33 w33 =>
 DoV Try.prog (Instr.extract t52_32 1) w33 (fun t54_34 w34 =>
 DoV Try.prog (binS BinOp.neq 32 (Operand.tmp 55) (Operand.const (Value.int IntKind.i64 0)) t54_34 (Value.int IntKind.i64 0)) w34 (fun t56_35 w35 =>
 Br t56_35
(R (.returned (Value.tuple #[(Value.slice none 0 0), (Value.int IntKind.i64 0)])) w35)
(DoV Try.prog (binS BinOp.add 3 (Operand.tmp 58) (Operand.const (Value.int IntKind.i64 8)) t29_18 (Value.int IntKind.i64 8)) w35 (fun t59_36 w36 =>
 R (.returned (Value.tuple #[t53_33, t59_36])) w36) (Pan R))) (Pan R)) (Pan R)) (Pan R)) (Pan R)) (Pan R))) (Pan R)))))))) (Pan R))) (Pan R)) (Pan R)) (Pan R)) (Pan R)) (Pan R)))))))))))))))) (Pan R)) (Pan R))
theorem sh_codec_whole_eq (v0 : Value) (R : Ending → World → Prop) (w : World) : vc Try.prog [(3, 15, false, 0), (8, 9, false, 2)] [] (Try.f39.body.getD .skip) (endE Try.prog Try.f39.results R) (argsE [v0]) [] w = sh_codec_whole v0 R w := by kernel_rfl
theorem sh_codec_whole_ok (v0 : Value) {R : Ending → World → Prop} {w : World} (h : sh_codec_whole v0 R w) : Calls Try.prog 39 #[v0] w R :=
  calls_of_vc (args := [v0]) [(3, 15, false, 0), (8, 9, false, 2)] [] follows_mixed Try.func39 rfl (of_decide_eq_true (by kernel_rfl)) (by kernel_rfl) ((sh_codec_whole_eq v0 R w).symm ▸ h)
/- landfall/journal.record$1: behind its recover -/
def sh_journal_record_1 (v0 v1 : Value) (rv : Value) (R : Ending → World → Prop) (w : World) : Prop := (
 DoV Try.prog (Instr.typeAssert rv 20 75 true) w (fun t8_1 w1 =>
 DoV Try.prog (Instr.extract t8_1 0) w1 (fun t9_2 w2 =>
 DoV Try.prog (Instr.extract t8_1 1) w2 (fun t10_3 w3 =>
 DoV Try.prog (Instr.alloc 75 true (.tuple #[])) w3 (fun t3_4 w4 =>
 DoU Try.prog (Instr.storeAt 75 t3_4 t9_2) w4 (fun _ w5 =>
 Br t10_3
(DoV Try.prog (Instr.build 29 #[]) w5 (fun t12_6 w6 =>
 DoU Try.prog (Instr.storeAt 29 v0 t12_6) w6 (fun _ w7 =>
 DoU Try.prog (Instr.storeAt 4 v1 (Value.bool false)) w7 (fun _ w8 =>
 R (.returned (Value.tuple #[])) w8) (Pan R)) (Pan R)) (Pan R))
(DoV Try.prog (binS BinOp.neq 20 (Operand.tmp 13) (Operand.const Value.nilIface) rv Value.nilIface) w5 (fun t14_9 w9 =>
 Br t14_9
(DoV Try.prog (Instr.panic rv) w9 (fun _ w10 =>
 R (.returned (Value.tuple #[])) w10) (Pan R))
(R (.returned (Value.tuple #[])) w9)) (Pan R))) (Pan R)) (Pan R)) (Pan R)) (Pan R)) (Pan R))
theorem sh_journal_record_1_eq (v0 v1 : Value) (rv : Value) (R : Ending → World → Prop) (w : World) : vc Try.prog [] [] (match Try.f40.body with | some (.seq _ c) => c | _ => .skip) (endR R) ((2, some rv) :: (5, some rv) :: argsE [v0, v1]) [] w = sh_journal_record_1 v0 v1 rv R w := by kernel_rfl
theorem sh_journal_record_1_ok (v0 v1 : Value) {R : Ending → World → Prop} {u : FrameMode} {w : World} (h : sh_journal_record_1 v0 v1 (recV u) R w) : CallsD Try.prog 40 #[v0, v1] u w fun e u' w' => u' = recM u ∧ R e w' :=
  callsD_of_rec2 (args := [v0, v1]) [] [] follows_mixed Try.func40 rfl rfl (fun _ _ => rfl) (fun _ _ => rfl) rfl rfl rfl rfl (of_decide_eq_true (by kernel_rfl)) (of_decide_eq_true (by kernel_rfl)) (of_decide_eq_true (by kernel_rfl)) (by kernel_rfl) ((sh_journal_record_1_eq v0 v1 (recV u) R w).symm ▸ h)
/- (*landfall/journal.reader).read -/
def sh_journal_reader_read (v0 : Value) (R : Ending → World → Prop) (w : World) : Prop := (
 NilC Try.prog v0 w (fun t8_1 w1 =>
 DoV Try.prog (Instr.fieldAt 80 t8_1 1) w1 (fun t9_2 w2 =>
 CallF Try.prog 48 #[t9_2] w2 (fun t10_3 w3 =>
 NilC Try.prog v0 w3 (fun t11_4 w4 =>
 DoV Try.prog (Instr.fieldAt 80 t11_4 0) w4 (fun t12_5 w5 =>
 DoV Try.prog (Instr.fieldAt 29 t12_5 0) w5 (fun t13_6 w6 =>
 DoU Try.prog (Instr.storeAt 3 t13_6 t10_3) w6 (fun _ w7 =>
 JoinE [87] (fun K8 =>
 NilC Try.prog v0 w7 (fun t15_9 w9 =>
 DoV Try.prog (Instr.fieldAt 80 t15_9 0) w9 (fun t16_10 w10 =>
 DoV Try.prog (Instr.fieldAt 29 t16_10 0) w10 (fun t17_11 w11 =>
 DoV Try.prog (Instr.loadAt 3 t17_11) w11 (fun t18_12 w12 =>
 DoV Try.prog (binS BinOp.eql 3 (Operand.tmp 18) (Operand.const (Value.int IntKind.i64 2)) t18_12 (Value.int IntKind.i64 2)) w12 (fun t19_13 w13 =>
 Br t19_13
(NilC Try.prog v0 w13 (fun t22_14 w14 =>
 DoV Try.prog (Instr.fieldAt 80 t22_14 1) w14 (fun t23_15 w15 =>
 CallF Try.prog 48 #[t23_15] w15 (fun t24_16 w16 =>
 NilC Try.prog v0 w16 (fun t25_17 w17 =>
 DoV Try.prog (Instr.fieldAt 80 t25_17 0) w17 (fun t26_18 w18 =>
 DoV Try.prog (Instr.fieldAt 29 t26_18 2) w18 (fun t27_19 w19 =>
 DoU Try.prog (Instr.storeAt 3 t27_19 t24_16) w19 (fun _ w20 =>
 NilC Try.prog v0 w20 (fun t29_21 w21 =>
 DoV Try.prog (Instr.fieldAt 80 t29_21 1) w21 (fun t30_22 w22 =>
 CallF Try.prog 49 #[t30_22] w22 (fun t31_23 w23 =>
 DoV Try.prog (binS BinOp.mul 27 (Operand.tmp 33) (Operand.const (Value.int IntKind.u64 4294967296)) t31_23 (Value.int IntKind.u64 4294967296)) w23 (fun t34_24 w24 =>
 NilC Try.prog v0 w24 (fun t36_25 w25 =>
 DoV Try.prog (Instr.fieldAt 80 t36_25 1) w25 (fun t37_26 w26 =>
 CallF Try.prog 49 #[t37_26] w26 (fun t38_27 w27 =>
 DoV Try.prog (binS BinOp.add 27 (Operand.tmp 34) (Operand.tmp 38) t34_24 t38_27) w27 (fun t39_28 w28 =>
 NilC Try.prog v0 w28 (fun t40_29 w29 =>
 DoV Try.prog (Instr.fieldAt 80 t40_29 0) w29 (fun t41_30 w30 =>
 DoV Try.prog (Instr.fieldAt 29 t41_30 3) w30 (fun t42_31 w31 =>
 DoU Try.prog (Instr.storeAt 27 t42_31 t39_28) w31 (fun _ w32 =>
 K8 [undef] w32) (Pan R)) (Pan R)) (Pan R)) (Pan R)) (Pan R)) (Pan R)) (Pan R)) (Pan R)) (Pan R)) (Pan R)) (Pan R)) (Pan R)) (Pan R)) (Pan R)) (Pan R)) (Pan R)) (Pan R)) (Pan R)) (Pan R))
(NilC Try.prog v0 w13 (fun t44_33 w33 =>
 DoV Try.prog (Instr.fieldAt 80 t44_33 0) w33 (fun t45_34 w34 =>
 DoV Try.prog (Instr.fieldAt 29 t45_34 1) w34 (fun t46_35 w35 =>
 DrawE w35 (fun Rs36 Rb36 w36 =>
 DetOp Rb36 Rs36 w36 (fun w37 K37 => NilC Try.prog t46_35 w37 K37 (Pan R)) (fun c48_37 ψ37 =>
 DetOp Rb36 Rs36 w36 (fun w38 K38 => DoV Try.prog (Instr.fieldAt 26 c48_37 0) w38 K38 (Pan R)) (fun c49_38 ψ38 =>
 DetOp Rb36 Rs36 w36 (fun w39 K39 => NilC Try.prog t46_35 w39 K39 (Pan R)) (fun c51_39 ψ39 =>
 DetOp Rb36 Rs36 w36 (fun w40 K40 => DoV Try.prog (Instr.fieldAt 26 c51_39 1) w40 K40 (Pan R)) (fun c52_40 ψ40 =>
 DetOp Rb36 Rs36 w36 (fun w41 K41 => NilC Try.prog t46_35 w41 K41 (Pan R)) (fun c54_41 ψ41 =>
 DetOp Rb36 Rs36 w36 (fun w42 K42 => DoV Try.prog (Instr.fieldAt 26 c54_41 2) w42 K42 (Pan R)) (fun c55_42 ψ42 =>
 DetOp Rb36 Rs36 w36 (fun w43 K43 => NilC Try.prog t46_35 w43 K43 (Pan R)) (fun c57_43 ψ43 =>
 DetOp Rb36 Rs36 w36 (fun w44 K44 => DoV Try.prog (Instr.fieldAt 26 c57_43 3) w44 K44 (Pan R)) (fun c58_44 ψ44 =>
 DetOp Rb36 Rs36 w36 (fun w45 K45 => NilC Try.prog t46_35 w45 K45 (Pan R)) (fun c60_45 ψ45 =>
 DetOp Rb36 Rs36 w36 (fun w46 K46 => DoV Try.prog (Instr.fieldAt 26 c60_45 4) w46 K46 (Pan R)) (fun c61_46 ψ46 =>
 DetOp Rb36 Rs36 w36 (fun w47 K47 => NilC Try.prog t46_35 w47 K47 (Pan R)) (fun c63_47 ψ47 =>
 DetOp Rb36 Rs36 w36 (fun w48 K48 => DoV Try.prog (Instr.fieldAt 26 c63_47 5) w48 K48 (Pan R)) (fun c64_48 ψ48 =>
 DetOp Rb36 Rs36 w36 (fun w49 K49 => NilC Try.prog t46_35 w49 K49 (Pan R)) (fun c66_49 ψ49 =>
 DetOp Rb36 Rs36 w36 (fun w50 K50 => DoV Try.prog (Instr.fieldAt 26 c66_49 6) w50 K50 (Pan R)) (fun c67_50 ψ50 =>
 DetOp Rb36 Rs36 w36 (fun w51 K51 => NilC Try.prog t46_35 w51 K51 (Pan R)) (fun c69_51 ψ51 =>
 DetOp Rb36 Rs36 w36 (fun w52 K52 => DoV Try.prog (Instr.fieldAt 26 c69_51 7) w52 K52 (Pan R)) (fun c70_52 ψ52 =>
 DetOp Rb36 Rs36 w36 (fun w53 K53 => DoV Try.prog (Instr.fieldAt 24 c70_52 0) w53 K53 (Pan R)) (fun c71_53 ψ53 =>
 DetOp Rb36 Rs36 w36 (fun w54 K54 => NilC Try.prog t46_35 w54 K54 (Pan R)) (fun c73_54 ψ54 =>
 DetOp Rb36 Rs36 w36 (fun w55 K55 => DoV Try.prog (Instr.fieldAt 26 c73_54 7) w55 K55 (Pan R)) (fun c74_55 ψ55 =>
 DetOp Rb36 Rs36 w36 (fun w56 K56 => DoV Try.prog (Instr.fieldAt 24 c74_55 1) w56 K56 (Pan R)) (fun c75_56 ψ56 =>
 DetOp Rb36 Rs36 w36 (fun w57 K57 => NilC Try.prog t46_35 w57 K57 (Pan R)) (fun c77_57 ψ57 =>
 DetOp Rb36 Rs36 w36 (fun w58 K58 => DoV Try.prog (Instr.fieldAt 26 c77_57 8) w58 K58 (Pan R)) (fun c78_58 ψ58 =>
 DetOp Rb36 Rs36 w36 (fun w59 K59 => NilC Try.prog t46_35 w59 K59 (Pan R)) (fun c80_59 ψ59 =>
 DetOp Rb36 Rs36 w36 (fun w60 K60 => DoV Try.prog (Instr.fieldAt 26 c80_59 9) w60 K60 (Pan R)) (fun c81_60 ψ60 =>
 DetOp Rb36 Rs36 w36 (fun w61 K61 => NilC Try.prog t46_35 w61 K61 (Pan R)) (fun c83_61 ψ61 =>
 DetOp Rb36 Rs36 w36 (fun w62 K62 => DoV Try.prog (Instr.fieldAt 26 c83_61 10) w62 K62 (Pan R)) (fun c84_62 ψ62 =>
 DetOp Rs36 Rb36 w36 (fun w63 K63 => DoV Try.prog (Instr.buildSlice 91 12 #[(0, c49_38), (1, c52_40), (2, c55_42), (3, c58_44), (4, c61_46), (5, c64_48), (6, c67_50), (7, c71_53), (8, c75_56), (9, c78_58), (10, c81_60), (11, c84_62)]) w63 K63 (Pan R)) (fun c85_63 ψ63 =>
 DetOp Rb36 Rs36 w36 (fun w64 K64 => CallB Try.prog Builtin.len #[91] 3 #[false] #[c85_63] w64 K64 (Pan R)) (fun c86_64 ψ64 =>
 ∀ w65, Rb36 w36 w65 → ((((((((((((((((((((((((((((True ∧ ψ37 w65) ∧ ψ38 w65) ∧ ψ39 w65) ∧ ψ40 w65) ∧ ψ41 w65) ∧ ψ42 w65) ∧ ψ43 w65) ∧ ψ44 w65) ∧ ψ45 w65) ∧ ψ46 w65) ∧ ψ47 w65) ∧ ψ48 w65) ∧ ψ49 w65) ∧ ψ50 w65) ∧ ψ51 w65) ∧ ψ52 w65) ∧ ψ53 w65) ∧ ψ54 w65) ∧ ψ55 w65) ∧ ψ56 w65) ∧ ψ57 w65) ∧ ψ58 w65) ∧ ψ59 w65) ∧ ψ60 w65) ∧ ψ61 w65) ∧ ψ62 w65) ∧ ψ63 w65) ∧ ψ64 w65) →
 LoopE [87] [(Value.int IntKind.i64 0)] w65 (fun h66 w66 K66 =>
 DoV Try.prog (binS BinOp.lss 3 (Operand.tmp 87) (Operand.tmp 86) (h66 87) c86_64) w66 (fun t88_67 w67 =>
 Br t88_67
(DoV Try.prog (Instr.indexAt 91 c85_63 (h66 87)) w67 (fun t89_68 w68 =>
 DoV Try.prog (Instr.loadAt 90 t89_68) w68 (fun t90_69 w69 =>
 NilC Try.prog v0 w69 (fun t93_70 w70 =>
 DoV Try.prog (Instr.fieldAt 80 t93_70 1) w70 (fun t94_71 w71 =>
 CallF Try.prog 48 #[t94_71] w71 (fun t95_72 w72 =>
 NilC Try.prog t90_69 w72 (fun t96_73 w73 =>
 DoU Try.prog (Instr.storeAt 3 t96_73 t95_72) w73 (fun _ w74 =>
 DoV Try.prog (binS BinOp.add 3 (Operand.tmp 87) (Operand.const (Value.int IntKind.i64 1)) (h66 87) (Value.int IntKind.i64 1)) w74 (fun t97_75 w75 =>
 K66 [t97_75] w75) (Pan R)) (Pan R)) (Pan R)) (Pan R)) (Pan R)) (Pan R)) (Pan R)) (Pan R))
(K8 [(h66 87)] w67)) (Pan R)))))))))))))))))))))))))))))))) (Pan R)) (Pan R)) (Pan R))) (Pan R)) (Pan R)) (Pan R)) (Pan R)) (Pan R))
(fun _ w76 =>
 JoinE [112] (fun K77 =>
 NilC Try.prog v0 w76 (fun t99_78 w78 =>
 DoV Try.prog (Instr.fieldAt 80 t99_78 1) w78 (fun t100_79 w79 =>
 DoV Try.prog (Instr.fieldAt 78 t100_79 0) w79 (fun t101_80 w80 =>
 DoV Try.prog (Instr.loadAt 45 t101_80) w80 (fun t102_81 w81 =>
 CallB Try.prog Builtin.len #[45] 3 #[false] #[t102_81] w81 (fun t103_82 w82 =>
 DoV Try.prog (binS BinOp.gtr 3 (Operand.tmp 103) (Operand.const (Value.int IntKind.i64 0)) t103_82 (Value.int IntKind.i64 0)) w82 (fun t104_83 w83 =>
 Gd t104_83 false (NilC Try.prog v0 w83 (fun t107_84 w84 =>
 DoV Try.prog (Instr.fieldAt 80 t107_84 0) w84 (fun t108_85 w85 =>
 DoV Try.prog (Instr.loadAt 29 t108_85) w85 (fun t109_86 w86 =>
 CallF Try.prog 24 #[t109_86] w86 (fun t110_87 w87 =>
 DoV Try.prog (Op.unary UnOp.not t110_87) w87 (fun t111_88 w88 =>
 K77 [t111_88] w88) (Pan R)) (Pan R)) (Pan R)) (Pan R)) (Pan R))
(K77 [(Value.bool true)] w83)) (Pan R)) (Pan R)) (Pan R)) (Pan R)) (Pan R)) (Pan R))
(fun h89 w89 =>
 Br (h89 112)
(DoV Try.prog (Instr.build 75 #[]) w89 (fun t113_90 w90 =>
 DoV Try.prog (Instr.makeInterface 75 t113_90) w90 (fun t114_91 w91 =>
 DoV Try.prog (Instr.panic t114_91) w91 (fun _ w92 =>
 R (.returned (Value.tuple #[])) w92) (Pan R)) (Pan R)) (Pan R))
(R (.returned (Value.tuple #[])) w89)))) (Pan R)) (Pan R)) (Pan R)) (Pan R)) (Pan R)) (Pan R)) (Pan R))
theorem sh_journal_reader_read_eq (v0 : Value) (R : Ending → World → Prop) (w : World) : vc Try.prog [(6, 41, false, 39)] [87] (Try.f41.body.getD .skip) (endE Try.prog Try.f41.results R) (argsE [v0]) [] w = sh_journal_reader_read v0 R w := by kernel_rfl
theorem sh_journal_reader_read_ok (v0 : Value) {R : Ending → World → Prop} {w : World} (h : sh_journal_reader_read v0 R w) : Calls Try.prog 41 #[v0] w R :=
  calls_of_vc (args := [v0]) [(6, 41, false, 39)] [87] follows_mixed Try.func41 rfl (of_decide_eq_true (by kernel_rfl)) (by kernel_rfl) ((sh_journal_reader_read_eq v0 R w).symm ▸ h)
/- landfall/landfallref08.whole -/
def sh_landfallref08_whole (v0 : Value) (R : Ending → World → Prop) (w : World) : Prop := (
 CallB Try.prog Builtin.len #[22] 3 #[false] #[v0] w (fun t8_1 w1 =>
 DoV Try.prog (binS BinOp.lss 3 (Operand.tmp 8) (Operand.const (Value.int IntKind.i64 11)) t8_1 (Value.int IntKind.i64 11)) w1 (fun t9_2 w2 =>
 Br t9_2
(R (.returned (Value.tuple #[(Value.slice none 0 0), (Value.int IntKind.i64 0)])) w2)
(DrawE w2 (fun Rs3 Rb3 w3 =>
 DetOp Rb3 Rs3 w3 (fun w4 K4 => DoV Try.prog (Instr.indexAt 22 v0 (Value.int IntKind.i64 0)) w4 K4 (Pan R)) (fun c11_4 ψ4 =>
 DetOp Rb3 Rs3 w3 (fun w5 K5 => DoV Try.prog (Instr.loadAt 5 c11_4) w5 K5 (Pan R)) (fun c12_5 ψ5 =>
 DetOp Rb3 Rs3 w3 (fun w6 K6 => DoV Try.prog (convert 5 3 c12_5) w6 K6 (Pan R)) (fun c13_6 ψ6 =>
 DetOp Rb3 Rs3 w3 (fun w7 K7 => DoV Try.prog (binS BinOp.mul 3 (Operand.tmp 13) (Operand.const (Value.int IntKind.i64 65536)) c13_6 (Value.int IntKind.i64 65536)) w7 K7 (Pan R)) (fun c14_7 ψ7 =>
 DetOp Rb3 Rs3 w3 (fun w8 K8 => DoV Try.prog (Instr.indexAt 22 v0 (Value.int IntKind.i64 1)) w8 K8 (Pan R)) (fun c16_8 ψ8 =>
 DetOp Rb3 Rs3 w3 (fun w9 K9 => DoV Try.prog (Instr.loadAt 5 c16_8) w9 K9 (Pan R)) (fun c17_9 ψ9 =>
 DetOp Rb3 Rs3 w3 (fun w10 K10 => DoV Try.prog (convert 5 3 c17_9) w10 K10 (Pan R)) (fun c18_10 ψ10 =>
 DetOp Rb3 Rs3 w3 (fun w11 K11 => DoV Try.prog (binS BinOp.mul 3 (Operand.tmp 18) (Operand.const (Value.int IntKind.i64 256)) c18_10 (Value.int IntKind.i64 256)) w11 K11 (Pan R)) (fun c19_11 ψ11 =>
 DetOp Rb3 Rs3 w3 (fun w12 K12 => DoV Try.prog (binS BinOp.add 3 (Operand.tmp 14) (Operand.tmp 19) c14_7 c19_11) w12 K12 (Pan R)) (fun c20_12 ψ12 =>
 DetOp Rb3 Rs3 w3 (fun w13 K13 => DoV Try.prog (Instr.indexAt 22 v0 (Value.int IntKind.i64 2)) w13 K13 (Pan R)) (fun c22_13 ψ13 =>
 DetOp Rb3 Rs3 w3 (fun w14 K14 => DoV Try.prog (Instr.loadAt 5 c22_13) w14 K14 (Pan R)) (fun c23_14 ψ14 =>
 DetOp Rb3 Rs3 w3 (fun w15 K15 => DoV Try.prog (convert 5 3 c23_14) w15 K15 (Pan R)) (fun c24_15 ψ15 =>
 ∀ w16, Rb3 w3 w16 → ((((((((((((True ∧ ψ4 w16) ∧ ψ5 w16) ∧ ψ6 w16) ∧ ψ7 w16) ∧ ψ8 w16) ∧ ψ9 w16) ∧ ψ10 w16) ∧ ψ11 w16) ∧ ψ12 w16) ∧ ψ13 w16) ∧ ψ14 w16) ∧ ψ15 w16) →
 DoV Try.prog (binS BinOp.add 3 (Operand.tmp 20) (Operand.tmp 24) c20_12 c24_15) w16 (fun t25_17 w17 =>
 CallB Try.prog Builtin.len #[22] 3 #[false] #[v0] w17 (fun t27_18 w18 =>
 DoV Try.prog (binS BinOp.add 3 (Operand.tmp 28) (Operand.const (Value.int IntKind.i64 11)) t25_17 (Value.int IntKind.i64 11)) w18 (fun t29_19 w19 =>
 DoV Try.prog (binS BinOp.lss 3 (Operand.tmp 27) (Operand.tmp 29) t27_18 t29_19) w19 (fun t30_20 w20 =>
 Br t30_20
(R (.returned (Value.tuple #[(Value.slice none 0 0), (Value.int IntKind.i64 0)])) w20)
(DrawE w20 (fun Rs21 Rb21 w21 =>
 DetOp Rb21 Rs21 w21 (fun w22 K22 => DoV Try.prog (binS BinOp.add 3 (Operand.const (Value.int IntKind.i64 3)) (Operand.tmp 32) (Value.int IntKind.i64 3) t25_17) w22 K22 (Pan R)) (fun c33_22 ψ22 =>
 DetOp Rb21 Rs21 w21 (fun w23 K23 => DoV Try.prog (binS BinOp.add 3 (Operand.const (Value.int IntKind.i64 11)) (Operand.tmp 34) (Value.int IntKind.i64 11) t25_17) w23 K23 (Pan R)) (fun c35_23 ψ23 =>
 DetOp Rb21 Rs21 w21 (fun w24 K24 => DoV Try.prog (Instr.sliceAt 22 v0 (some c33_22) (some c35_23) none) w24 K24 (Pan R)) (fun c36_24 ψ24 =>
 DetOp Rb21 Rs21 w21 (fun w25 K25 => DoV Try.prog (binS BinOp.add 3 (Operand.const (Value.int IntKind.i64 3)) (Operand.tmp 38) (Value.int IntKind.i64 3) t25_17) w25 K25 (Pan R)) (fun c39_25 ψ25 =>
 DetOp Rb21 Rs21 w21 (fun w26 K26 => DoV Try.prog (Instr.sliceAt 22 v0 none (some c39_25) none) w26 K26 (Pan R)) (fun c40_26 ψ26 =>
 DetOp Rb21 Rs21 w21 (fun w27 K27 => DoV Try.prog (convert 22 9 c40_26) w27 K27 (Pan R)) (fun c41_27 ψ27 =>
 DetOp Rb21 Rs21 w21 (fun w28 K28 => CallF Try.prog 38 #[c41_27] w28 K28 (Pan R)) (fun c42_28 ψ28 =>
 NdOp Rs21 Rb21 w21 (fun w29 K29 => CallF Try.prog 37 #[c42_28] w29 K29 (Pan R)) (fun v43_29 φ29 =>
 ∀ w30, Rb21 w21 w30 → (((((((True ∧ ψ22 w30) ∧ ψ23 w30) ∧ ψ24 w30) ∧ ψ25 w30) ∧ ψ26 w30) ∧ ψ27 w30) ∧ ψ28 w30) ∧ φ29 w30 →
 CallF Try.prog 12 #[c36_24, v43_29] w30 (fun t44_31 w31 =>
 DoV Try.prog (Op.unary UnOp.not t44_31) w31 (fun t45_32 w32 =>
 Br t45_32
(R (.returned (Value.tuple #[(Value.slice none 0 0), (Value.int IntKind.i64 0)])) w32)
(DoV Try.prog (binS BinOp.add 3 (Operand.const (Value.int IntKind.i64 3)) (Operand.tmp 48) (Value.int IntKind.i64 3) t25_17) w32 (fun t49_33 w33 =>
 DoV Try.prog (Instr.sliceAt 22 v0 (some (Value.int IntKind.i64 3)) (some t49_33) none) w33 (fun t50_34 w34 =>
 CallF Try.prog 50 #[t50_34] w34 (fun t51_35 w35 =>
 DoV Try.prog (Instr.extract t51_35 0) w35 (fun t52_36 w36 =>
 DoV Try.prog (Instr.extract t51_35 1) w36 (fun t53_37 w37 =>
 DoV Try.prog (binS BinOp.neq 32 (Operand.tmp 54) (Operand.const (Value.int IntKind.i64 0)) t53_37 (Value.int IntKind.i64 0)) w37 (fun t55_38 w38 =>
 Br t55_38
(R (.returned (Value.tuple #[(Value.slice none 0 0), (Value.int IntKind.i64 0)])) w38)
(DoV Try.prog (binS BinOp.add 3 (Operand.tmp 57) (Operand.const (Value.int IntKind.i64 11)) t25_17 (Value.int IntKind.i64 11)) w38 (fun t58_39 w39 =>
 R (.returned (Value.tuple #[t52_36, t58_39])) w39) (Pan R))) (Pan R)) (Pan R)) (Pan R)) (Pan R)) (Pan R)) (Pan R))) (Pan R)) (Pan R)))))))))))) (Pan R)) (Pan R)) (Pan R)) (Pan R)))))))))))))))) (Pan R)) (Pan R))
theorem sh_landfallref08_whole_eq (v0 : Value) (R : Ending → World → Prop) (w : World) : vc Try.prog [(3, 15, false, 0), (6, 12, true, 13)] [] (Try.f42.body.getD .skip) (endE Try.prog Try.f42.results R) (argsE [v0]) [] w = sh_landfallref08_whole v0 R w := by kernel_rfl
theorem sh_landfallref08_whole_ok (v0 : Value) {R : Ending → World → Prop} {w : World} (h : sh_landfallref08_whole v0 R w) : Calls Try.prog 42 #[v0] w R :=
  calls_of_vc (args := [v0]) [(3, 15, false, 0), (6, 12, true, 13)] [] follows_mixed Try.func42 rfl (of_decide_eq_true (by kernel_rfl)) (by kernel_rfl) ((sh_landfallref08_whole_eq v0 R w).symm ▸ h)
/- landfall/landfallref40.half -/
def sh_landfallref40_half (v0 : Value) (R : Ending → World → Prop) (w : World) : Prop := (
 DoV Try.prog (binS BinOp.geq 3 (Operand.tmp 3) (Operand.const (Value.int IntKind.i64 0)) v0 (Value.int IntKind.i64 0)) w (fun t4_1 w1 =>
 Gd t4_1 true (DoV Try.prog (binS BinOp.lss 3 (Operand.tmp 6) (Operand.const (Value.int IntKind.i64 4294967296)) v0 (Value.int IntKind.i64 4294967296)) w1 (fun t7_2 w2 =>
 R (.returned t7_2) w2) (Pan R))
(R (.returned (Value.bool false)) w1)) (Pan R))
theorem sh_landfallref40_half_eq (v0 : Value) (R : Ending → World → Prop) (w : World) : vc Try.prog [] [] (Try.f43.body.getD .skip) (endE Try.prog Try.f43.results R) (argsE [v0]) [] w = sh_landfallref40_half v0 R w := by kernel_rfl
theorem sh_landfallref40_half_ok (v0 : Value) {R : Ending → World → Prop} {w : World} (h : sh_landfallref40_half v0 R w) : Calls Try.prog 43 #[v0] w R :=
  calls_of_vc (args := [v0]) [] [] follows_mixed Try.func43 rfl (of_decide_eq_true (by kernel_rfl)) (by kernel_rfl) ((sh_landfallref40_half_eq v0 R w).symm ▸ h)
/- landfall/codec.put -/
def sh_codec_put (v0 v1 : Value) (R : Ending → World → Prop) (w : World) : Prop := (
 CallF Try.prog 51 #[v1] w (fun t7_1 w1 =>
 LoopE [0, 5] [v0, t7_1] w1 (fun h2 w2 K2 =>
 DoV Try.prog (binS BinOp.gtr 27 (Operand.tmp 8) (Operand.const (Value.int IntKind.u64 127)) (h2 5) (Value.int IntKind.u64 127)) w2 (fun t9_3 w3 =>
 Br t9_3
(DoV Try.prog (convert 27 5 (h2 5)) w3 (fun t14_4 w4 =>
 DoV Try.prog (binS BinOp.or 5 (Operand.tmp 14) (Operand.const (Value.int IntKind.u8 128)) t14_4 (Value.int IntKind.u8 128)) w4 (fun t15_5 w5 =>
 DoV Try.prog (Instr.buildSlice 22 1 #[(0, t15_5)]) w5 (fun t16_6 w6 =>
 CallB Try.prog Builtin.append #[22, 22] 22 #[false, false] #[(h2 0), t16_6] w6 (fun t17_7 w7 =>
 DoV Try.prog (binS BinOp.shr 27 (Operand.tmp 10) (Operand.const (Value.int IntKind.u64 7)) (h2 5) (Value.int IntKind.u64 7)) w7 (fun t11_8 w8 =>
 K2 [t17_7, t11_8] w8) (Pan R)) (Pan R)) (Pan R)) (Pan R)) (Pan R))
(DoV Try.prog (convert 27 5 (h2 5)) w3 (fun t20_9 w9 =>
 DoV Try.prog (Instr.buildSlice 22 1 #[(0, t20_9)]) w9 (fun t21_10 w10 =>
 CallB Try.prog Builtin.append #[22, 22] 22 #[false, false] #[(h2 0), t21_10] w10 (fun t22_11 w11 =>
 R (.returned t22_11) w11) (Pan R)) (Pan R)) (Pan R))) (Pan R))) (Pan R))
theorem sh_codec_put_eq (v0 v1 : Value) (R : Ending → World → Prop) (w : World) : vc Try.prog [] [0, 5] (Try.f44.body.getD .skip) (endE Try.prog Try.f44.results R) (argsE [v0, v1]) [] w = sh_codec_put v0 v1 R w := by kernel_rfl
theorem sh_codec_put_ok (v0 v1 : Value) {R : Ending → World → Prop} {w : World} (h : sh_codec_put v0 v1 R w) : Calls Try.prog 44 #[v0, v1] w R :=
  calls_of_vc (args := [v0, v1]) [] [0, 5] follows_mixed Try.func44 rfl (of_decide_eq_true (by kernel_rfl)) (by kernel_rfl) ((sh_codec_put_eq v0 v1 R w).symm ▸ h)
/- landfall/digest.Text -/
def sh_digest_Text (v0 : Value) (R : Ending → World → Prop) (w : World) : Prop := (
 CallF Try.prog 52 #[] w (fun t6_1 w1 =>
 DoV Try.prog (Instr.extract t6_1 0) w1 (fun t7_2 w2 =>
 DoV Try.prog (Instr.extract t6_1 1) w2 (fun t8_3 w3 =>
 DoV Try.prog (convert 9 22 v0) w3 (fun t11_4 w4 =>
 CallV Try.prog t7_2 #[t11_4] w4 (fun _ w5 =>
 CallV Try.prog t8_3 #[] w5 (fun t14_6 w6 =>
 R (.returned t14_6) w6) (Pan R)) (Pan R)) (Pan R)) (Pan R)) (Pan R)) (Pan R))
theorem sh_digest_Text_eq (v0 : Value) (R : Ending → World → Prop) (w : World) : vc Try.prog [] [] (Try.f45.body.getD .skip) (endE Try.prog Try.f45.results R) (argsE [v0]) [] w = sh_digest_Text v0 R w := by kernel_rfl
theorem sh_digest_Text_ok (v0 : Value) {R : Ending → World → Prop} {w : World} (h : sh_digest_Text v0 R w) : Calls Try.prog 45 #[v0] w R :=
  calls_of_vc (args := [v0]) [] [] follows_mixed Try.func45 rfl (of_decide_eq_true (by kernel_rfl)) (by kernel_rfl) ((sh_digest_Text_eq v0 R w).symm ▸ h)
/- landfall/landfallref08.one -/
def sh_landfallref08_one (v0 : Value) (R : Ending → World → Prop) (w : World) : Prop := (
 DoV Try.prog (convert 3 27 v0) w (fun t6_1 w1 =>
 DoV Try.prog (binS BinOp.mul 27 (Operand.const (Value.int IntKind.u64 2)) (Operand.tmp 6) (Value.int IntKind.u64 2) t6_1) w1 (fun t7_2 w2 =>
 JoinE [3] (fun K3 =>
 DoV Try.prog (binS BinOp.lss 3 (Operand.tmp 8) (Operand.const (Value.int IntKind.i64 0)) v0 (Value.int IntKind.i64 0)) w2 (fun t9_4 w4 =>
 Br t9_4
(DoV Try.prog (binS BinOp.add 3 (Operand.tmp 10) (Operand.const (Value.int IntKind.i64 1)) v0 (Value.int IntKind.i64 1)) w4 (fun t11_5 w5 =>
 DoV Try.prog (Op.unary UnOp.neg t11_5) w5 (fun t12_6 w6 =>
 DoV Try.prog (convert 3 27 t12_6) w6 (fun t13_7 w7 =>
 DoV Try.prog (binS BinOp.mul 27 (Operand.const (Value.int IntKind.u64 2)) (Operand.tmp 13) (Value.int IntKind.u64 2) t13_7) w7 (fun t14_8 w8 =>
 DoV Try.prog (binS BinOp.add 27 (Operand.tmp 14) (Operand.const (Value.int IntKind.u64 1)) t14_8 (Value.int IntKind.u64 1)) w8 (fun t15_9 w9 =>
 K3 [t15_9] w9) (Pan R)) (Pan R)) (Pan R)) (Pan R)) (Pan R))
(K3 [t7_2] w4)) (Pan R))
(fun h10 w10 =>
 LoopE [3, 4] [(h10 3), (Value.slice none 0 0)] w10 (fun h11 w11 K11 =>
 DoV Try.prog (binS BinOp.geq 27 (Operand.tmp 16) (Operand.const (Value.int IntKind.u64 128)) (h11 3) (Value.int IntKind.u64 128)) w11 (fun t17_12 w12 =>
 Br t17_12
(DoV Try.prog (binS BinOp.rem 27 (Operand.tmp 19) (Operand.const (Value.int IntKind.u64 128)) (h11 3) (Value.int IntKind.u64 128)) w12 (fun t20_13 w13 =>
 DoV Try.prog (convert 27 5 t20_13) w13 (fun t21_14 w14 =>
 DoV Try.prog (binS BinOp.add 5 (Operand.tmp 21) (Operand.const (Value.int IntKind.u8 128)) t21_14 (Value.int IntKind.u8 128)) w14 (fun t22_15 w15 =>
 DoV Try.prog (Instr.buildSlice 22 1 #[(0, t22_15)]) w15 (fun t23_16 w16 =>
 CallB Try.prog Builtin.append #[22, 22] 22 #[false, false] #[(h11 4), t23_16] w16 (fun t24_17 w17 =>
 DoV Try.prog (binS BinOp.quo 27 (Operand.tmp 25) (Operand.const (Value.int IntKind.u64 128)) (h11 3) (Value.int IntKind.u64 128)) w17 (fun t26_18 w18 =>
 K11 [t26_18, t24_17] w18) (Pan R)) (Pan R)) (Pan R)) (Pan R)) (Pan R)) (Pan R))
(DoV Try.prog (convert 27 5 (h11 3)) w12 (fun t29_19 w19 =>
 DoV Try.prog (Instr.buildSlice 22 1 #[(0, t29_19)]) w19 (fun t30_20 w20 =>
 CallB Try.prog Builtin.append #[22, 22] 22 #[false, false] #[(h11 4), t30_20] w20 (fun t31_21 w21 =>
 R (.returned t31_21) w21) (Pan R)) (Pan R)) (Pan R))) (Pan R)))) (Pan R)) (Pan R))
theorem sh_landfallref08_one_eq (v0 : Value) (R : Ending → World → Prop) (w : World) : vc Try.prog [] [3, 4] (Try.f46.body.getD .skip) (endE Try.prog Try.f46.results R) (argsE [v0]) [] w = sh_landfallref08_one v0 R w := by kernel_rfl
theorem sh_landfallref08_one_ok (v0 : Value) {R : Ending → World → Prop} {w : World} (h : sh_landfallref08_one v0 R w) : Calls Try.prog 46 #[v0] w R :=
  calls_of_vc (args := [v0]) [] [3, 4] follows_mixed Try.func46 rfl (of_decide_eq_true (by kernel_rfl)) (by kernel_rfl) ((sh_landfallref08_one_eq v0 R w).symm ▸ h)
/- landfall/codec.Get -/
def sh_codec_Get (v0 : Value) (R : Ending → World → Prop) (w : World) : Prop := (
 DoV Try.prog (Instr.alloc 45 true (.tuple #[])) w (fun t2_1 w1 =>
 DoV Try.prog (Instr.alloc 32 true (.tuple #[])) w1 (fun t3_2 w2 =>
 DoV Try.prog (Instr.build 100 #[(0, v0)]) w2 (fun t7_3 w3 =>
 DoV Try.prog (Instr.alloc 100 true (.tuple #[])) w3 (fun t4_4 w4 =>
 DoU Try.prog (Instr.storeAt 100 t4_4 t7_3) w4 (fun _ w5 =>
 CallF Try.prog 54 #[t4_4] w5 (fun t8_6 w6 =>
 JoinE [] (fun K7 =>
 JoinE [14] (fun K8 =>
 DoV Try.prog (binS BinOp.lss 3 (Operand.tmp 9) (Operand.const (Value.int IntKind.i64 0)) t8_6 (Value.int IntKind.i64 0)) w6 (fun t10_9 w9 =>
 Gd t10_9 false (DoV Try.prog (binS BinOp.gtr 3 (Operand.tmp 12) (Operand.const (Value.int IntKind.i64 4000)) t8_6 (Value.int IntKind.i64 4000)) w9 (fun t13_10 w10 =>
 K8 [t13_10] w10) (PanD Try.prog Try.f47 [(2, t2_1), (3, t3_2)] R [{ target := .fn (.func 53) #[], args := #[t2_1, t3_2] }]))
(K8 [(Value.bool true)] w9)) (PanD Try.prog Try.f47 [(2, t2_1), (3, t3_2)] R [{ target := .fn (.func 53) #[], args := #[t2_1, t3_2] }]))
(fun h11 w11 =>
 Br (h11 14)
(DoU Try.prog (Instr.storeAt 45 t2_1 (Value.slice none 0 0)) w11 (fun _ w12 =>
 DoU Try.prog (Instr.storeAt 32 t3_2 (Value.int IntKind.i64 7)) w12 (fun _ w13 =>
 LeavesE Try.prog Try.f47 [(2, t2_1), (3, t3_2)] R [{ target := .fn (.func 53) #[], args := #[t2_1, t3_2] }] .returning w13) (PanD Try.prog Try.f47 [(2, t2_1), (3, t3_2)] R [{ target := .fn (.func 53) #[], args := #[t2_1, t3_2] }])) (PanD Try.prog Try.f47 [(2, t2_1), (3, t3_2)] R [{ target := .fn (.func 53) #[], args := #[t2_1, t3_2] }]))
(K7 [] w11)))
(fun _ w14 =>
 LoopE [16] [(Value.int IntKind.i64 0)] w14 (fun h15 w15 K15 =>
 DoV Try.prog (binS BinOp.lss 3 (Operand.tmp 16) (Operand.tmp 15) (h15 16) t8_6) w15 (fun t17_16 w16 =>
 Br t17_16
(DrawE w16 (fun Rs17 Rb17 w17 =>
 DetOp Rb17 Rs17 w17 (fun w18 K18 => DoV Try.prog (Instr.loadAt 45 t2_1) w18 K18 (PanD Try.prog Try.f47 [(2, t2_1), (3, t3_2)] R [{ target := .fn (.func 53) #[], args := #[t2_1, t3_2] }])) (fun c18_18 ψ18 =>
 DetOp Rs17 Rb17 w17 (fun w19 K19 => CallF Try.prog 54 #[t4_4] w19 K19 (PanD Try.prog Try.f47 [(2, t2_1), (3, t3_2)] R [{ target := .fn (.func 53) #[], args := #[t2_1, t3_2] }])) (fun c19_19 ψ19 =>
 NdOp Rb17 Rs17 w17 (fun w20 K20 => DoV Try.prog (Instr.buildSlice 45 1 #[(0, c19_19)]) w20 K20 (PanD Try.prog Try.f47 [(2, t2_1), (3, t3_2)] R [{ target := .fn (.func 53) #[], args := #[t2_1, t3_2] }])) (fun v20_20 φ20 =>
 ∀ w21, Rb17 w17 w21 → ((True ∧ ψ18 w21) ∧ ψ19 w21) ∧ φ20 w21 →
 CallB Try.prog Builtin.append #[45, 45] 45 #[false, false] #[c18_18, v20_20] w21 (fun t21_22 w22 =>
 DoU Try.prog (Instr.storeAt 45 t2_1 t21_22) w22 (fun _ w23 =>
 DoV Try.prog (binS BinOp.add 3 (Operand.tmp 16) (Operand.const (Value.int IntKind.i64 1)) (h15 16) (Value.int IntKind.i64 1)) w23 (fun t22_24 w24 =>
 K15 [t22_24] w24) (PanD Try.prog Try.f47 [(2, t2_1), (3, t3_2)] R [{ target := .fn (.func 53) #[], args := #[t2_1, t3_2] }])) (PanD Try.prog Try.f47 [(2, t2_1), (3, t3_2)] R [{ target := .fn (.func 53) #[], args := #[t2_1, t3_2] }])) (PanD Try.prog Try.f47 [(2, t2_1), (3, t3_2)] R [{ target := .fn (.func 53) #[], args := #[t2_1, t3_2] }]))))))
(DoV Try.prog (Instr.fieldAt 100 t4_4 0) w16 (fun t23_25 w25 =>
 DoV Try.prog (Instr.loadAt 22 t23_25) w25 (fun t24_26 w26 =>
 CallB Try.prog Builtin.len #[22] 3 #[false] #[t24_26] w26 (fun t25_27 w27 =>
 DoV Try.prog (binS BinOp.gtr 3 (Operand.tmp 25) (Operand.const (Value.int IntKind.i64 0)) t25_27 (Value.int IntKind.i64 0)) w27 (fun t26_28 w28 =>
 Br t26_28
(DoU Try.prog (Instr.storeAt 45 t2_1 (Value.slice none 0 0)) w28 (fun _ w29 =>
 DoU Try.prog (Instr.storeAt 32 t3_2 (Value.int IntKind.i64 7)) w29 (fun _ w30 =>
 LeavesE Try.prog Try.f47 [(2, t2_1), (3, t3_2)] R [{ target := .fn (.func 53) #[], args := #[t2_1, t3_2] }] .returning w30) (PanD Try.prog Try.f47 [(2, t2_1), (3, t3_2)] R [{ target := .fn (.func 53) #[], args := #[t2_1, t3_2] }])) (PanD Try.prog Try.f47 [(2, t2_1), (3, t3_2)] R [{ target := .fn (.func 53) #[], args := #[t2_1, t3_2] }]))
(DoV Try.prog (Instr.loadAt 45 t2_1) w28 (fun t27_31 w31 =>
 DoU Try.prog (Instr.storeAt 45 t2_1 t27_31) w31 (fun _ w32 =>
 DoU Try.prog (Instr.storeAt 32 t3_2 (Value.int IntKind.i64 0)) w32 (fun _ w33 =>
 LeavesE Try.prog Try.f47 [(2, t2_1), (3, t3_2)] R [{ target := .fn (.func 53) #[], args := #[t2_1, t3_2] }] .returning w33) (PanD Try.prog Try.f47 [(2, t2_1), (3, t3_2)] R [{ target := .fn (.func 53) #[], args := #[t2_1, t3_2] }])) (PanD Try.prog Try.f47 [(2, t2_1), (3, t3_2)] R [{ target := .fn (.func 53) #[], args := #[t2_1, t3_2] }])) (PanD Try.prog Try.f47 [(2, t2_1), (3, t3_2)] R [{ target := .fn (.func 53) #[], args := #[t2_1, t3_2] }]))) (PanD Try.prog Try.f47 [(2, t2_1), (3, t3_2)] R [{ target := .fn (.func 53) #[], args := #[t2_1, t3_2] }])) (PanD Try.prog Try.f47 [(2, t2_1), (3, t3_2)] R [{ target := .fn (.func 53) #[], args := #[t2_1, t3_2] }])) (PanD Try.prog Try.f47 [(2, t2_1), (3, t3_2)] R [{ target := .fn (.func 53) #[], args := #[t2_1, t3_2] }])) (PanD Try.prog Try.f47 [(2, t2_1), (3, t3_2)] R [{ target := .fn (.func 53) #[], args := #[t2_1, t3_2] }]))) (PanD Try.prog Try.f47 [(2, t2_1), (3, t3_2)] R [{ target := .fn (.func 53) #[], args := #[t2_1, t3_2] }])))) (PanD Try.prog Try.f47 [(2, t2_1), (3, t3_2)] R [{ target := .fn (.func 53) #[], args := #[t2_1, t3_2] }])) (PanD Try.prog Try.f47 [(2, t2_1), (3, t3_2)] R [{ target := .fn (.func 53) #[], args := #[t2_1, t3_2] }])) (PanD Try.prog Try.f47 [(2, t2_1), (3, t3_2)] R [{ target := .fn (.func 53) #[], args := #[t2_1, t3_2] }])) (PanD Try.prog Try.f47 [(2, t2_1), (3, t3_2)] R [{ target := .fn (.func 53) #[], args := #[t2_1, t3_2] }])) (PanD Try.prog Try.f47 [(2, t2_1), (3, undef)] R [])) (PanD Try.prog Try.f47 [(2, undef), (3, undef)] R []))
theorem sh_codec_Get_eq (v0 : Value) (R : Ending → World → Prop) (w : World) : vc Try.prog [(8, 2, true, 2)] [16] (Try.f47.body.getD .skip) (endD Try.prog Try.f47 R) (argsE [v0]) [] w = sh_codec_Get v0 R w := by kernel_rfl
theorem sh_codec_Get_ok (v0 : Value) {R : Ending → World → Prop} {w : World} (h : sh_codec_Get v0 R w) : Calls Try.prog 47 #[v0] w R :=
  calls_of_vcD (args := [v0]) [(8, 2, true, 2)] [16] follows_mixed Try.func47 rfl (of_decide_eq_true (by kernel_rfl)) (by kernel_rfl) ((sh_codec_Get_eq v0 R w).symm ▸ h)
/- (*landfall/journal.source).take -/
def sh_journal_source_take (v0 : Value) (R : Ending → World → Prop) (w : World) : Prop := (
 JoinE [] (fun K1 =>
 NilC Try.prog v0 w (fun t5_2 w2 =>
 DoV Try.prog (Instr.fieldAt 78 t5_2 0) w2 (fun t6_3 w3 =>
 DoV Try.prog (Instr.loadAt 45 t6_3) w3 (fun t7_4 w4 =>
 CallB Try.prog Builtin.len #[45] 3 #[false] #[t7_4] w4 (fun t8_5 w5 =>
 DoV Try.prog (binS BinOp.eql 3 (Operand.tmp 8) (Operand.const (Value.int IntKind.i64 0)) t8_5 (Value.int IntKind.i64 0)) w5 (fun t9_6 w6 =>
 Br t9_6
(DoV Try.prog (Instr.build 75 #[]) w6 (fun t10_7 w7 =>
 DoV Try.prog (Instr.makeInterface 75 t10_7) w7 (fun t11_8 w8 =>
 DoV Try.prog (Instr.panic t11_8) w8 (fun _ w9 =>
 K1 [] w9) (Pan R)) (Pan R)) (Pan R))
(K1 [] w6)) (Pan R)) (Pan R)) (Pan R)) (Pan R)) (Pan R))
(fun _ w10 =>
 NilC Try.prog v0 w10 (fun t13_11 w11 =>
 DoV Try.prog (Instr.fieldAt 78 t13_11 0) w11 (fun t14_12 w12 =>
 DoV Try.prog (Instr.loadAt 45 t14_12) w12 (fun t15_13 w13 =>
 DoV Try.prog (Instr.indexAt 45 t15_13 (Value.int IntKind.i64 0)) w13 (fun t16_14 w14 =>
 DoV Try.prog (Instr.loadAt 3 t16_14) w14 (fun t17_15 w15 =>
 NilC Try.prog v0 w15 (fun t20_16 w16 =>
 DoV Try.prog (Instr.fieldAt 78 t20_16 0) w16 (fun t21_17 w17 =>
 DoV Try.prog (Instr.loadAt 45 t21_17) w17 (fun t22_18 w18 =>
 DoV Try.prog (Instr.sliceAt 45 t22_18 (some (Value.int IntKind.i64 1)) none none) w18 (fun t23_19 w19 =>
 NilC Try.prog v0 w19 (fun t24_20 w20 =>
 DoV Try.prog (Instr.fieldAt 78 t24_20 0) w20 (fun t25_21 w21 =>
 DoU Try.prog (Instr.storeAt 45 t25_21 t23_19) w21 (fun _ w22 =>
 R (.returned t17_15) w22) (Pan R)) (Pan R)) (Pan R)) (Pan R)) (Pan R)) (Pan R)) (Pan R)) (Pan R)) (Pan R)) (Pan R)) (Pan R)) (Pan R)))
theorem sh_journal_source_take_eq (v0 : Value) (R : Ending → World → Prop) (w : World) : vc Try.prog [] [] (Try.f48.body.getD .skip) (endE Try.prog Try.f48.results R) (argsE [v0]) [] w = sh_journal_source_take v0 R w := by kernel_rfl
theorem sh_journal_source_take_ok (v0 : Value) {R : Ending → World → Prop} {w : World} (h : sh_journal_source_take v0 R w) : Calls Try.prog 48 #[v0] w R :=
  calls_of_vc (args := [v0]) [] [] follows_mixed Try.func48 rfl (of_decide_eq_true (by kernel_rfl)) (by kernel_rfl) ((sh_journal_source_take_eq v0 R w).symm ▸ h)
/- (*landfall/journal.source).part -/
def sh_journal_source_part (v0 : Value) (R : Ending → World → Prop) (w : World) : Prop := (
 CallF Try.prog 48 #[v0] w (fun t5_1 w1 =>
 JoinE [] (fun K2 =>
 JoinE [11] (fun K3 =>
 DoV Try.prog (binS BinOp.lss 3 (Operand.tmp 6) (Operand.const (Value.int IntKind.i64 0)) t5_1 (Value.int IntKind.i64 0)) w1 (fun t7_4 w4 =>
 Gd t7_4 false (DoV Try.prog (binS BinOp.geq 3 (Operand.tmp 9) (Operand.const (Value.int IntKind.i64 4294967296)) t5_1 (Value.int IntKind.i64 4294967296)) w4 (fun t10_5 w5 =>
 K3 [t10_5] w5) (Pan R))
(K3 [(Value.bool true)] w4)) (Pan R))
(fun h6 w6 =>
 Br (h6 11)
(DoV Try.prog (Instr.build 75 #[]) w6 (fun t12_7 w7 =>
 DoV Try.prog (Instr.makeInterface 75 t12_7) w7 (fun t13_8 w8 =>
 DoV Try.prog (Instr.panic t13_8) w8 (fun _ w9 =>
 K2 [] w9) (Pan R)) (Pan R)) (Pan R))
(K2 [] w6)))
(fun _ w10 =>
 DoV Try.prog (convert 3 27 t5_1) w10 (fun t15_11 w11 =>
 R (.returned t15_11) w11) (Pan R))) (Pan R))
theorem sh_journal_source_part_eq (v0 : Value) (R : Ending → World → Prop) (w : World) : vc Try.prog [] [] (Try.f49.body.getD .skip) (endE Try.prog Try.f49.results R) (argsE [v0]) [] w = sh_journal_source_part v0 R w := by kernel_rfl
theorem sh_journal_source_part_ok (v0 : Value) {R : Ending → World → Prop} {w : World} (h : sh_journal_source_part v0 R w) : Calls Try.prog 49 #[v0] w R :=
  calls_of_vc (args := [v0]) [] [] follows_mixed Try.func49 rfl (of_decide_eq_true (by kernel_rfl)) (by kernel_rfl) ((sh_journal_source_part_eq v0 R w).symm ▸ h)
/- landfall/landfallref08.Get -/
def sh_landfallref08_Get (v0 : Value) (R : Ending → World → Prop) (w : World) : Prop := (
 CallF Try.prog 55 #[v0] w (fun t12_1 w1 =>
 DoV Try.prog (Instr.extract t12_1 0) w1 (fun t13_2 w2 =>
 DoV Try.prog (Instr.extract t12_1 1) w2 (fun t14_3 w3 =>
 JoinE [] (fun K4 =>
 JoinE [24] (fun K5 =>
 DoV Try.prog (binS BinOp.eql 3 (Operand.tmp 15) (Operand.const (Value.int IntKind.i64 0)) t14_3 (Value.int IntKind.i64 0)) w3 (fun t16_6 w6 =>
 Gd t16_6 false (DoV Try.prog (binS BinOp.lss 3 (Operand.tmp 18) (Operand.const (Value.int IntKind.i64 0)) t13_2 (Value.int IntKind.i64 0)) w6 (fun t19_7 w7 =>
 Gd t19_7 false (DoV Try.prog (binS BinOp.gtr 3 (Operand.tmp 22) (Operand.const (Value.int IntKind.i64 4000)) t13_2 (Value.int IntKind.i64 4000)) w7 (fun t23_8 w8 =>
 K5 [t23_8] w8) (Pan R))
(K5 [(Value.bool true)] w7)) (Pan R))
(K5 [(Value.bool true)] w6)) (Pan R))
(fun h9 w9 =>
 Br (h9 24)
(R (.returned (Value.tuple #[(Value.slice none 0 0), (Value.int IntKind.i64 7)])) w9)
(K4 [] w9)))
(fun _ w10 =>
 LoopE [5, 6, 7] [t14_3, (Value.slice none 0 0), (Value.int IntKind.i64 0)] w10 (fun h11 w11 K11 =>
 DoV Try.prog (binS BinOp.lss 3 (Operand.tmp 25) (Operand.tmp 26) (h11 7) t13_2) w11 (fun t27_12 w12 =>
 Br t27_12
(DoV Try.prog (Instr.sliceAt 22 v0 (some (h11 5)) none none) w12 (fun t33_13 w13 =>
 CallF Try.prog 55 #[t33_13] w13 (fun t34_14 w14 =>
 DoV Try.prog (Instr.extract t34_14 0) w14 (fun t35_15 w15 =>
 DoV Try.prog (Instr.extract t34_14 1) w15 (fun t36_16 w16 =>
 DoV Try.prog (binS BinOp.eql 3 (Operand.tmp 37) (Operand.const (Value.int IntKind.i64 0)) t36_16 (Value.int IntKind.i64 0)) w16 (fun t38_17 w17 =>
 Br t38_17
(R (.returned (Value.tuple #[(Value.slice none 0 0), (Value.int IntKind.i64 7)])) w17)
(DoV Try.prog (Instr.buildSlice 45 1 #[(0, t35_15)]) w17 (fun t41_18 w18 =>
 CallB Try.prog Builtin.append #[45, 45] 45 #[false, false] #[(h11 6), t41_18] w18 (fun t42_19 w19 =>
 DoV Try.prog (binS BinOp.add 3 (Operand.tmp 43) (Operand.tmp 44) (h11 5) t36_16) w19 (fun t45_20 w20 =>
 DoV Try.prog (binS BinOp.add 3 (Operand.tmp 28) (Operand.const (Value.int IntKind.i64 1)) (h11 7) (Value.int IntKind.i64 1)) w20 (fun t29_21 w21 =>
 K11 [t45_20, t42_19, t29_21] w21) (Pan R)) (Pan R)) (Pan R)) (Pan R))) (Pan R)) (Pan R)) (Pan R)) (Pan R)) (Pan R))
(CallB Try.prog Builtin.len #[22] 3 #[false] #[v0] w12 (fun t48_22 w22 =>
 DoV Try.prog (binS BinOp.neq 3 (Operand.tmp 46) (Operand.tmp 48) (h11 5) t48_22) w22 (fun t49_23 w23 =>
 Br t49_23
(R (.returned (Value.tuple #[(Value.slice none 0 0), (Value.int IntKind.i64 7)])) w23)
(R (.returned (Value.tuple #[(h11 6), (Value.int IntKind.i64 0)])) w23)) (Pan R)) (Pan R))) (Pan R)))) (Pan R)) (Pan R)) (Pan R))
theorem sh_landfallref08_Get_eq (v0 : Value) (R : Ending → World → Prop) (w : World) : vc Try.prog [] [5, 6, 7] (Try.f50.body.getD .skip) (endE Try.prog Try.f50.results R) (argsE [v0]) [] w = sh_landfallref08_Get v0 R w := by kernel_rfl
theorem sh_landfallref08_Get_ok (v0 : Value) {R : Ending → World → Prop} {w : World} (h : sh_landfallref08_Get v0 R w) : Calls Try.prog 50 #[v0] w R :=
  calls_of_vc (args := [v0]) [] [5, 6, 7] follows_mixed Try.func50 rfl (of_decide_eq_true (by kernel_rfl)) (by kernel_rfl) ((sh_landfallref08_Get_eq v0 R w).symm ▸ h)
/- landfall/codec.number -/
def sh_codec_number (v0 : Value) (R : Ending → World → Prop) (w : World) : Prop := (
 DoV Try.prog (convert 3 27 v0) w (fun t4_1 w1 =>
 DoV Try.prog (binS BinOp.shl 27 (Operand.tmp 4) (Operand.const (Value.int IntKind.u64 1)) t4_1 (Value.int IntKind.u64 1)) w1 (fun t5_2 w2 =>
 DoV Try.prog (binS BinOp.shr 3 (Operand.tmp 6) (Operand.const (Value.int IntKind.u64 63)) v0 (Value.int IntKind.u64 63)) w2 (fun t7_3 w3 =>
 DoV Try.prog (convert 3 27 t7_3) w3 (fun t8_4 w4 =>
 DoV Try.prog (binS BinOp.xor 27 (Operand.tmp 5) (Operand.tmp 8) t5_2 t8_4) w4 (fun t9_5 w5 =>
 R (.returned t9_5) w5) (Pan R)) (Pan R)) (Pan R)) (Pan R)) (Pan R))
theorem sh_codec_number_eq (v0 : Value) (R : Ending → World → Prop) (w : World) : vc Try.prog [] [] (Try.f51.body.getD .skip) (endE Try.prog Try.f51.results R) (argsE [v0]) [] w = sh_codec_number v0 R w := by kernel_rfl
theorem sh_codec_number_ok (v0 : Value) {R : Ending → World → Prop} {w : World} (h : sh_codec_number v0 R w) : Calls Try.prog 51 #[v0] w R :=
  calls_of_vc (args := [v0]) [] [] follows_mixed Try.func51 rfl (of_decide_eq_true (by kernel_rfl)) (by kernel_rfl) ((sh_codec_number_eq v0 R w).symm ▸ h)
/- landfall/digest.run -/
def sh_digest_run (R : Ending → World → Prop) (w : World) : Prop := (
 DoV Try.prog (Instr.alloc 27 true (.tuple #[])) w (fun t2_1 w1 =>
 DoU Try.prog (Instr.storeAt 27 t2_1 (Value.int IntKind.u64 14695981039346656037)) w1 (fun _ w2 =>
 DoV Try.prog (Instr.makeFunc (Fn.func 56) #[] #[t2_1]) w2 (fun t4_3 w3 =>
 DoV Try.prog (Instr.makeFunc (Fn.func 57) #[] #[t2_1]) w3 (fun t6_4 w4 =>
 R (.returned (Value.tuple #[t4_3, t6_4])) w4) (Pan R)) (Pan R)) (Pan R)) (Pan R))
theorem sh_digest_run_eq (R : Ending → World → Prop) (w : World) : vc Try.prog [] [] (Try.f52.body.getD .skip) (endE Try.prog Try.f52.results R) (argsE []) [] w = sh_digest_run  R w := by kernel_rfl
theorem sh_digest_run_ok {R : Ending → World → Prop} {w : World} (h : sh_digest_run  R w) : Calls Try.prog 52 #[] w R :=
  calls_of_vc (args := []) [] [] follows_mixed Try.func52 rfl (of_decide_eq_true (by kernel_rfl)) (by kernel_rfl) ((sh_digest_run_eq  R w).symm ▸ h)
/- landfall/codec.caught: behind its recover -/
def sh_codec_caught (v0 v1 : Value) (rv : Value) (R : Ending → World → Prop) (w : World) : Prop := (
 DoV Try.prog (binS BinOp.eql 20 (Operand.tmp 7) (Operand.const Value.nilIface) rv Value.nilIface) w (fun t9_1 w1 =>
 Br t9_1
(R (.returned (Value.tuple #[])) w1)
(DoV Try.prog (Instr.typeAssert rv 20 104 true) w1 (fun t10_2 w2 =>
 DoV Try.prog (Instr.extract t10_2 1) w2 (fun t11_3 w3 =>
 DoV Try.prog (Instr.extract t10_2 0) w3 (fun t12_4 w4 =>
 Br t11_3
(DoV Try.prog (Instr.alloc 104 true (.tuple #[])) w4 (fun t5_5 w5 =>
 DoU Try.prog (Instr.storeAt 104 t5_5 t12_4) w5 (fun _ w6 =>
 NilC Try.prog v0 w6 (fun t15_7 w7 =>
 DoU Try.prog (Instr.storeAt 45 t15_7 (Value.slice none 0 0)) w7 (fun _ w8 =>
 NilC Try.prog v1 w8 (fun t16_9 w9 =>
 DoU Try.prog (Instr.storeAt 32 t16_9 (Value.int IntKind.i64 7)) w9 (fun _ w10 =>
 R (.returned (Value.tuple #[])) w10) (Pan R)) (Pan R)) (Pan R)) (Pan R)) (Pan R)) (Pan R))
(DoV Try.prog (Instr.panic rv) w4 (fun _ w11 =>
 R (.returned (Value.tuple #[])) w11) (Pan R))) (Pan R)) (Pan R)) (Pan R))) (Pan R))
theorem sh_codec_caught_eq (v0 v1 : Value) (rv : Value) (R : Ending → World → Prop) (w : World) : vc Try.prog [] [] (match Try.f53.body with | some (.seq _ c) => c | _ => .skip) (endR R) ((7, some rv) :: argsE [v0, v1]) [] w = sh_codec_caught v0 v1 rv R w := by kernel_rfl
theorem sh_codec_caught_ok (v0 v1 : Value) {R : Ending → World → Prop} {u : FrameMode} {w : World} (h : sh_codec_caught v0 v1 (recV u) R w) : CallsD Try.prog 53 #[v0, v1] u w fun e u' w' => u' = recM u ∧ R e w' :=
  callsD_of_rec (args := [v0, v1]) [] [] follows_mixed Try.func53 rfl rfl (fun _ _ => rfl) rfl rfl (of_decide_eq_true (by kernel_rfl)) (of_decide_eq_true (by kernel_rfl)) (by kernel_rfl) ((sh_codec_caught_eq v0 v1 (recV u) R w).symm ▸ h)
/- (*landfall/codec.reader).next -/
def sh_codec_reader_next (v0 : Value) (R : Ending → World → Prop) (w : World) : Prop := (
 NilC Try.prog v0 w (fun t7_1 w1 =>
 DoV Try.prog (Instr.fieldAt 100 t7_1 0) w1 (fun t8_2 w2 =>
 DoV Try.prog (Instr.loadAt 22 t8_2) w2 (fun t9_3 w3 =>
 CallB Try.prog Builtin.len #[22] 3 #[false] #[t9_3] w3 (fun t10_4 w4 =>
 LoopE [2, 3, 11] [(Value.int IntKind.i64 0), (Value.int IntKind.u64 0), (Value.int IntKind.i64 0)] w4 (fun h5 w5 K5 =>
 DoV Try.prog (binS BinOp.lss 3 (Operand.tmp 11) (Operand.tmp 10) (h5 11) t10_4) w5 (fun t12_6 w6 =>
 Br t12_6
(DoV Try.prog (Instr.indexAt 22 t9_3 (h5 11)) w6 (fun t14_7 w7 =>
 DoV Try.prog (Instr.loadAt 5 t14_7) w7 (fun t15_8 w8 =>
 JoinE [] (fun K9 =>
 JoinE [25] (fun K10 =>
 DoV Try.prog (binS BinOp.eql 3 (Operand.tmp 16) (Operand.const (Value.int IntKind.i64 9)) (h5 11) (Value.int IntKind.i64 9)) w8 (fun t17_11 w11 =>
 Gd t17_11 true (DoV Try.prog (binS BinOp.gtr 5 (Operand.tmp 19) (Operand.const (Value.int IntKind.u8 1)) t15_8 (Value.int IntKind.u8 1)) w11 (fun t20_12 w12 =>
 Gd t20_12 false (DoV Try.prog (binS BinOp.gtr 3 (Operand.tmp 23) (Operand.const (Value.int IntKind.i64 9)) (h5 11) (Value.int IntKind.i64 9)) w12 (fun t24_13 w13 =>
 K10 [t24_13] w13) (Pan R))
(K10 [(Value.bool true)] w12)) (Pan R))
(DoV Try.prog (binS BinOp.gtr 3 (Operand.tmp 23) (Operand.const (Value.int IntKind.i64 9)) (h5 11) (Value.int IntKind.i64 9)) w11 (fun t24_14 w14 =>
 K10 [t24_14] w14) (Pan R))) (Pan R))
(fun h15 w15 =>
 Br (h15 25)
(DoV Try.prog (Instr.build 104 #[]) w15 (fun t26_16 w16 =>
 DoV Try.prog (Instr.makeInterface 104 t26_16) w16 (fun t27_17 w17 =>
 DoV Try.prog (Instr.panic t27_17) w17 (fun _ w18 =>
 K9 [] w18) (Pan R)) (Pan R)) (Pan R))
(K9 [] w15)))
(fun _ w19 =>
 DoV Try.prog (binS BinOp.and 5 (Operand.tmp 29) (Operand.const (Value.int IntKind.u8 127)) t15_8 (Value.int IntKind.u8 127)) w19 (fun t30_20 w20 =>
 DoV Try.prog (convert 5 27 t30_20) w20 (fun t31_21 w21 =>
 DoV Try.prog (binS BinOp.mul 3 (Operand.const (Value.int IntKind.i64 7)) (Operand.tmp 32) (Value.int IntKind.i64 7) (h5 11)) w21 (fun t33_22 w22 =>
 DoV Try.prog (binS BinOp.shl 27 (Operand.tmp 31) (Operand.tmp 33) t31_21 t33_22) w22 (fun t34_23 w23 =>
 DoV Try.prog (binS BinOp.or 27 (Operand.tmp 28) (Operand.tmp 34) (h5 3) t34_23) w23 (fun t35_24 w24 =>
 DoV Try.prog (binS BinOp.gtr 5 (Operand.tmp 36) (Operand.const (Value.int IntKind.u8 127)) t15_8 (Value.int IntKind.u8 127)) w24 (fun t37_25 w25 =>
 Br t37_25
(DoV Try.prog (binS BinOp.add 3 (Operand.tmp 11) (Operand.const (Value.int IntKind.i64 1)) (h5 11) (Value.int IntKind.i64 1)) w25 (fun t64_26 w26 =>
 K5 [(h5 2), t35_24, t64_26] w26) (Pan R))
(JoinE [] (fun K27 =>
 JoinE [43] (fun K28 =>
 DoV Try.prog (binS BinOp.eql 5 (Operand.tmp 38) (Operand.const (Value.int IntKind.u8 0)) t15_8 (Value.int IntKind.u8 0)) w25 (fun t39_29 w29 =>
 Gd t39_29 true (DoV Try.prog (binS BinOp.gtr 3 (Operand.tmp 41) (Operand.const (Value.int IntKind.i64 0)) (h5 11) (Value.int IntKind.i64 0)) w29 (fun t42_30 w30 =>
 K28 [t42_30] w30) (Pan R))
(K28 [(Value.bool false)] w29)) (Pan R))
(fun h31 w31 =>
 Br (h31 43)
(DoV Try.prog (Instr.build 104 #[]) w31 (fun t44_32 w32 =>
 DoV Try.prog (Instr.makeInterface 104 t44_32) w32 (fun t45_33 w33 =>
 DoV Try.prog (Instr.panic t45_33) w33 (fun _ w34 =>
 K27 [] w34) (Pan R)) (Pan R)) (Pan R))
(K27 [] w31)))
(fun _ w35 =>
 NilC Try.prog v0 w35 (fun t48_36 w36 =>
 DoV Try.prog (Instr.fieldAt 100 t48_36 0) w36 (fun t49_37 w37 =>
 DoV Try.prog (Instr.loadAt 22 t49_37) w37 (fun t50_38 w38 =>
 DoV Try.prog (binS BinOp.add 3 (Operand.tmp 51) (Operand.const (Value.int IntKind.i64 1)) (h5 11) (Value.int IntKind.i64 1)) w38 (fun t52_39 w39 =>
 DoV Try.prog (Instr.sliceAt 22 t50_38 (some t52_39) none none) w39 (fun t53_40 w40 =>
 NilC Try.prog v0 w40 (fun t54_41 w41 =>
 DoV Try.prog (Instr.fieldAt 100 t54_41 0) w41 (fun t55_42 w42 =>
 DoU Try.prog (Instr.storeAt 22 t55_42 t53_40) w42 (fun _ w43 =>
 DoV Try.prog (binS BinOp.shr 27 (Operand.tmp 56) (Operand.const (Value.int IntKind.u64 1)) t35_24 (Value.int IntKind.u64 1)) w43 (fun t57_44 w44 =>
 DoV Try.prog (convert 27 3 t57_44) w44 (fun t58_45 w45 =>
 DoV Try.prog (binS BinOp.and 27 (Operand.tmp 59) (Operand.const (Value.int IntKind.u64 1)) t35_24 (Value.int IntKind.u64 1)) w45 (fun t60_46 w46 =>
 DoV Try.prog (convert 27 3 t60_46) w46 (fun t61_47 w47 =>
 DoV Try.prog (Op.unary UnOp.neg t61_47) w47 (fun t62_48 w48 =>
 DoV Try.prog (binS BinOp.xor 3 (Operand.tmp 58) (Operand.tmp 62) t58_45 t62_48) w48 (fun t63_49 w49 =>
 R (.returned t63_49) w49) (Pan R)) (Pan R)) (Pan R)) (Pan R)) (Pan R)) (Pan R)) (Pan R)) (Pan R)) (Pan R)) (Pan R)) (Pan R)) (Pan R)) (Pan R)) (Pan R)))) (Pan R)) (Pan R)) (Pan R)) (Pan R)) (Pan R)) (Pan R))) (Pan R)) (Pan R))
(DoV Try.prog (Instr.build 104 #[]) w6 (fun t65_50 w50 =>
 DoV Try.prog (Instr.makeInterface 104 t65_50) w50 (fun t66_51 w51 =>
 DoV Try.prog (Instr.panic t66_51) w51 (fun _ w52 =>
 R (.returned (h5 2)) w52) (Pan R)) (Pan R)) (Pan R))) (Pan R))) (Pan R)) (Pan R)) (Pan R)) (Pan R))
theorem sh_codec_reader_next_eq (v0 : Value) (R : Ending → World → Prop) (w : World) : vc Try.prog [] [2, 3, 11] (Try.f54.body.getD .skip) (endE Try.prog Try.f54.results R) (argsE [v0]) [] w = sh_codec_reader_next v0 R w := by kernel_rfl
theorem sh_codec_reader_next_ok (v0 : Value) {R : Ending → World → Prop} {w : World} (h : sh_codec_reader_next v0 R w) : Calls Try.prog 54 #[v0] w R :=
  calls_of_vc (args := [v0]) [] [2, 3, 11] follows_mixed Try.func54 rfl (of_decide_eq_true (by kernel_rfl)) (by kernel_rfl) ((sh_codec_reader_next_eq v0 R w).symm ▸ h)
/- landfall/landfallref08.read -/
def sh_landfallref08_read (v0 : Value) (R : Ending → World → Prop) (w : World) : Prop := (
 LoopE [4, 5] [(Value.int IntKind.u64 0), (Value.int IntKind.i64 0)] w (fun h1 w1 K1 =>
 JoinE [] (fun K2 =>
 CallB Try.prog Builtin.len #[22] 3 #[false] #[v0] w1 (fun t8_3 w3 =>
 DoV Try.prog (binS BinOp.lss 3 (Operand.tmp 6) (Operand.tmp 8) (h1 5) t8_3) w3 (fun t9_4 w4 =>
 Gd t9_4 true (DoV Try.prog (binS BinOp.lss 3 (Operand.tmp 11) (Operand.const (Value.int IntKind.i64 10)) (h1 5) (Value.int IntKind.i64 10)) w4 (fun t12_5 w5 =>
 Br t12_5
(K2 [] w5)
(R (.returned (Value.tuple #[(Value.int IntKind.i64 0), (Value.int IntKind.i64 0)])) w5)) (Pan R))
(R (.returned (Value.tuple #[(Value.int IntKind.i64 0), (Value.int IntKind.i64 0)])) w4)) (Pan R)) (Pan R))
(fun _ w6 =>
 JoinE [] (fun K7 =>
 JoinE [24] (fun K8 =>
 DoV Try.prog (binS BinOp.eql 3 (Operand.tmp 16) (Operand.const (Value.int IntKind.i64 9)) (h1 5) (Value.int IntKind.i64 9)) w6 (fun t17_9 w9 =>
 Gd t17_9 true (DoV Try.prog (Instr.indexAt 22 v0 (h1 5)) w9 (fun t21_10 w10 =>
 DoV Try.prog (Instr.loadAt 5 t21_10) w10 (fun t22_11 w11 =>
 DoV Try.prog (binS BinOp.gtr 5 (Operand.tmp 22) (Operand.const (Value.int IntKind.u8 1)) t22_11 (Value.int IntKind.u8 1)) w11 (fun t23_12 w12 =>
 K8 [t23_12] w12) (Pan R)) (Pan R)) (Pan R))
(K8 [(Value.bool false)] w9)) (Pan R))
(fun h13 w13 =>
 Br (h13 24)
(R (.returned (Value.tuple #[(Value.int IntKind.i64 0), (Value.int IntKind.i64 0)])) w13)
(K7 [] w13)))
(fun _ w14 =>
 DoV Try.prog (Instr.indexAt 22 v0 (h1 5)) w14 (fun t28_15 w15 =>
 DoV Try.prog (Instr.loadAt 5 t28_15) w15 (fun t29_16 w16 =>
 DoV Try.prog (binS BinOp.rem 5 (Operand.tmp 29) (Operand.const (Value.int IntKind.u8 128)) t29_16 (Value.int IntKind.u8 128)) w16 (fun t30_17 w17 =>
 DoV Try.prog (convert 5 27 t30_17) w17 (fun t31_18 w18 =>
 DoV Try.prog (convert 3 66 (h1 5)) w18 (fun t33_19 w19 =>
 DoV Try.prog (binS BinOp.mul 66 (Operand.const (Value.int IntKind.u64 7)) (Operand.tmp 33) (Value.int IntKind.u64 7) t33_19) w19 (fun t34_20 w20 =>
 DoV Try.prog (binS BinOp.shl 27 (Operand.tmp 31) (Operand.tmp 34) t31_18 t34_20) w20 (fun t35_21 w21 =>
 DoV Try.prog (binS BinOp.or 27 (Operand.tmp 25) (Operand.tmp 35) (h1 4) t35_21) w21 (fun t36_22 w22 =>
 DoV Try.prog (Instr.indexAt 22 v0 (h1 5)) w22 (fun t39_23 w23 =>
 DoV Try.prog (Instr.loadAt 5 t39_23) w23 (fun t40_24 w24 =>
 DoV Try.prog (binS BinOp.geq 5 (Operand.tmp 40) (Operand.const (Value.int IntKind.u8 128)) t40_24 (Value.int IntKind.u8 128)) w24 (fun t41_25 w25 =>
 Br t41_25
(DoV Try.prog (binS BinOp.add 3 (Operand.tmp 14) (Operand.const (Value.int IntKind.i64 1)) (h1 5) (Value.int IntKind.i64 1)) w25 (fun t15_26 w26 =>
 K1 [t36_22, t15_26] w26) (Pan R))
(JoinE [] (fun K27 =>
 JoinE [50] (fun K28 =>
 DoV Try.prog (binS BinOp.gtr 3 (Operand.tmp 42) (Operand.const (Value.int IntKind.i64 0)) (h1 5) (Value.int IntKind.i64 0)) w25 (fun t43_29 w29 =>
 Gd t43_29 true (DoV Try.prog (Instr.indexAt 22 v0 (h1 5)) w29 (fun t47_30 w30 =>
 DoV Try.prog (Instr.loadAt 5 t47_30) w30 (fun t48_31 w31 =>
 DoV Try.prog (binS BinOp.eql 5 (Operand.tmp 48) (Operand.const (Value.int IntKind.u8 0)) t48_31 (Value.int IntKind.u8 0)) w31 (fun t49_32 w32 =>
 K28 [t49_32] w32) (Pan R)) (Pan R)) (Pan R))
(K28 [(Value.bool false)] w29)) (Pan R))
(fun h33 w33 =>
 Br (h33 50)
(R (.returned (Value.tuple #[(Value.int IntKind.i64 0), (Value.int IntKind.i64 0)])) w33)
(K27 [] w33)))
(fun _ w34 =>
 DoV Try.prog (binS BinOp.rem 27 (Operand.tmp 51) (Operand.const (Value.int IntKind.u64 2)) t36_22 (Value.int IntKind.u64 2)) w34 (fun t52_35 w35 =>
 DoV Try.prog (binS BinOp.eql 27 (Operand.tmp 52) (Operand.const (Value.int IntKind.u64 1)) t52_35 (Value.int IntKind.u64 1)) w35 (fun t53_36 w36 =>
 Br t53_36
(DoV Try.prog (binS BinOp.quo 27 (Operand.tmp 54) (Operand.const (Value.int IntKind.u64 2)) t36_22 (Value.int IntKind.u64 2)) w36 (fun t55_37 w37 =>
 DoV Try.prog (convert 27 3 t55_37) w37 (fun t56_38 w38 =>
 DoV Try.prog (Op.unary UnOp.neg t56_38) w38 (fun t57_39 w39 =>
 DoV Try.prog (binS BinOp.sub 3 (Operand.tmp 57) (Operand.const (Value.int IntKind.i64 1)) t57_39 (Value.int IntKind.i64 1)) w39 (fun t58_40 w40 =>
 DoV Try.prog (binS BinOp.add 3 (Operand.tmp 59) (Operand.const (Value.int IntKind.i64 1)) (h1 5) (Value.int IntKind.i64 1)) w40 (fun t60_41 w41 =>
 R (.returned (Value.tuple #[t58_40, t60_41])) w41) (Pan R)) (Pan R)) (Pan R)) (Pan R)) (Pan R))
(DoV Try.prog (binS BinOp.quo 27 (Operand.tmp 61) (Operand.const (Value.int IntKind.u64 2)) t36_22 (Value.int IntKind.u64 2)) w36 (fun t62_42 w42 =>
 DoV Try.prog (convert 27 3 t62_42) w42 (fun t63_43 w43 =>
 DoV Try.prog (binS BinOp.add 3 (Operand.tmp 64) (Operand.const (Value.int IntKind.i64 1)) (h1 5) (Value.int IntKind.i64 1)) w43 (fun t65_44 w44 =>
 R (.returned (Value.tuple #[t63_43, t65_44])) w44) (Pan R)) (Pan R)) (Pan R))) (Pan R)) (Pan R)))) (Pan R)) (Pan R)) (Pan R)) (Pan R)) (Pan R)) (Pan R)) (Pan R)) (Pan R)) (Pan R)) (Pan R)) (Pan R)))))
theorem sh_landfallref08_read_eq (v0 : Value) (R : Ending → World → Prop) (w : World) : vc Try.prog [] [4, 5] (Try.f55.body.getD .skip) (endE Try.prog Try.f55.results R) (argsE [v0]) [] w = sh_landfallref08_read v0 R w := by kernel_rfl
theorem sh_landfallref08_read_ok (v0 : Value) {R : Ending → World → Prop} {w : World} (h : sh_landfallref08_read v0 R w) : Calls Try.prog 55 #[v0] w R :=
  calls_of_vc (args := [v0]) [] [4, 5] follows_mixed Try.func55 rfl (of_decide_eq_true (by kernel_rfl)) (by kernel_rfl) ((sh_landfallref08_read_eq v0 R w).symm ▸ h)
/- landfall/digest.run$1 -/
def sh_digest_run_1 (v0 v1 : Value) (R : Ending → World → Prop) (w : World) : Prop := (
 CallB Try.prog Builtin.len #[22] 3 #[false] #[v0] w (fun t6_1 w1 =>
 LoopE [7] [(Value.int IntKind.i64 0)] w1 (fun h2 w2 K2 =>
 DoV Try.prog (binS BinOp.lss 3 (Operand.tmp 7) (Operand.tmp 6) (h2 7) t6_1) w2 (fun t8_3 w3 =>
 Br t8_3
(DoV Try.prog (Instr.indexAt 22 v0 (h2 7)) w3 (fun t9_4 w4 =>
 DoV Try.prog (Instr.loadAt 5 t9_4) w4 (fun t10_5 w5 =>
 DoV Try.prog (Instr.loadAt 27 v1) w5 (fun t11_6 w6 =>
 DoV Try.prog (convert 5 27 t10_5) w6 (fun t13_7 w7 =>
 DoV Try.prog (binS BinOp.xor 27 (Operand.tmp 11) (Operand.tmp 13) t11_6 t13_7) w7 (fun t14_8 w8 =>
 DoV Try.prog (binS BinOp.mul 27 (Operand.tmp 14) (Operand.const (Value.int IntKind.u64 1099511628211)) t14_8 (Value.int IntKind.u64 1099511628211)) w8 (fun t15_9 w9 =>
 DoU Try.prog (Instr.storeAt 27 v1 t15_9) w9 (fun _ w10 =>
 DoV Try.prog (binS BinOp.add 3 (Operand.tmp 7) (Operand.const (Value.int IntKind.i64 1)) (h2 7) (Value.int IntKind.i64 1)) w10 (fun t16_11 w11 =>
 K2 [t16_11] w11) (Pan R)) (Pan R)) (Pan R)) (Pan R)) (Pan R)) (Pan R)) (Pan R)) (Pan R))
(R (.returned (Value.tuple #[])) w3)) (Pan R))) (Pan R))
theorem sh_digest_run_1_eq (v0 v1 : Value) (R : Ending → World → Prop) (w : World) : vc Try.prog [] [7] (Try.f56.body.getD .skip) (endE Try.prog Try.f56.results R) (argsE [v0, v1]) [] w = sh_digest_run_1 v0 v1 R w := by kernel_rfl
theorem sh_digest_run_1_ok (v0 v1 : Value) {R : Ending → World → Prop} {w : World} (h : sh_digest_run_1 v0 v1 R w) : Calls Try.prog 56 #[v0, v1] w R :=
  calls_of_vc (args := [v0, v1]) [] [7] follows_mixed Try.func56 rfl (of_decide_eq_true (by kernel_rfl)) (by kernel_rfl) ((sh_digest_run_1_eq v0 v1 R w).symm ▸ h)
/- landfall/digest.run$2 -/
def sh_digest_run_2 (v0 : Value) (R : Ending → World → Prop) (w : World) : Prop := (
 DoV Try.prog (Instr.loadAt 27 v0) w (fun t2_1 w1 =>
 R (.returned t2_1) w1) (Pan R))
theorem sh_digest_run_2_eq (v0 : Value) (R : Ending → World → Prop) (w : World) : vc Try.prog [] [] (Try.f57.body.getD .skip) (endE Try.prog Try.f57.results R) (argsE [v0]) [] w = sh_digest_run_2 v0 R w := by kernel_rfl
theorem sh_digest_run_2_ok (v0 : Value) {R : Ending → World → Prop} {w : World} (h : sh_digest_run_2 v0 R w) : Calls Try.prog 57 #[v0] w R :=
  calls_of_vc (args := [v0]) [] [] follows_mixed Try.func57 rfl (of_decide_eq_true (by kernel_rfl)) (by kernel_rfl) ((sh_digest_run_2_eq v0 R w).symm ▸ h)
end Go.Proofs.Ytahplhcijlgelaa
