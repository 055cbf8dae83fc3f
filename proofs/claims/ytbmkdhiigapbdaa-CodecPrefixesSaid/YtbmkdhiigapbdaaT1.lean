/- WRITTEN BY gen.py: the chains of operations of some functions. -/
import Derived.Test.YtbmkdhiigapbdaaOps
import Derived.Test.YtbmkdhiigapbdaaRec
import Derived.Test.YtbmkdhiigapbdaaProg
import Derived.KernelRfl
namespace Go.Proofs.Ytbmkdhiigapbdaa
open Sh
set_option maxRecDepth 100000
theorem follows_mixed : Try.prog.follows .mixedOrders = true := by kernel_rfl
/- landfall/landfalllaw08.CodecMatchesReference -/
def sh_landfalllaw08_CodecMatchesReference (v0 v1 : Value) (R : Ending → World → Prop) (w : World) : Prop :=
 CallF Try.prog 9 #[] w (fun t18_1 w1 =>
 JoinE [] (fun K2 =>
 JoinE [36] (fun K3 =>
 CallB Try.prog Builtin.len #[22] 3 #[false] #[v0] w1 (fun t20_4 w4 =>
 DoV Try.prog (binS BinOp.gtr 3 (Operand.tmp 20) (Operand.const (Value.int IntKind.i64 300)) t20_4 (Value.int IntKind.i64 300)) w4 (fun t21_5 w5 =>
 Gd t21_5 true (CallB Try.prog Builtin.len #[22] 3 #[false] #[v0] w5 (fun t24_6 w6 =>
 DoV Try.prog (binS BinOp.leq 3 (Operand.tmp 24) (Operand.const (Value.int IntKind.i64 4000)) t24_6 (Value.int IntKind.i64 4000)) w6 (fun t25_7 w7 =>
 Gd t25_7 false (CallB Try.prog Builtin.len #[23] 3 #[false] #[v1] w7 (fun t29_8 w8 =>
 DoV Try.prog (binS BinOp.gtr 3 (Operand.tmp 29) (Operand.const (Value.int IntKind.i64 3000)) t29_8 (Value.int IntKind.i64 3000)) w8 (fun t30_9 w9 =>
 Gd t30_9 true (CallB Try.prog Builtin.len #[23] 3 #[false] #[v1] w9 (fun t33_10 w10 =>
 DoV Try.prog (binS BinOp.leq 3 (Operand.tmp 33) (Operand.const (Value.int IntKind.i64 200000)) t33_10 (Value.int IntKind.i64 200000)) w10 (fun t34_11 w11 =>
 K3 [t34_11] w11) (Pan R)) (Pan R))
(K3 [(Value.bool false)] w9)) (Pan R)) (Pan R))
(K3 [(Value.bool true)] w7)) (Pan R)) (Pan R))
(CallB Try.prog Builtin.len #[23] 3 #[false] #[v1] w5 (fun t29_12 w12 =>
 DoV Try.prog (binS BinOp.gtr 3 (Operand.tmp 29) (Operand.const (Value.int IntKind.i64 3000)) t29_12 (Value.int IntKind.i64 3000)) w12 (fun t30_13 w13 =>
 Gd t30_13 true (CallB Try.prog Builtin.len #[23] 3 #[false] #[v1] w13 (fun t33_14 w14 =>
 DoV Try.prog (binS BinOp.leq 3 (Operand.tmp 33) (Operand.const (Value.int IntKind.i64 200000)) t33_14 (Value.int IntKind.i64 200000)) w14 (fun t34_15 w15 =>
 K3 [t34_15] w15) (Pan R)) (Pan R))
(K3 [(Value.bool false)] w13)) (Pan R)) (Pan R))) (Pan R)) (Pan R))
(fun h16 w16 =>
 Br (h16 36)
(R (.returned t18_1) w16)
(K2 [] w16)))
(fun _ w17 =>
 CallF Try.prog 10 #[v0] w17 (fun t40_18 w18 =>
 DoV Try.prog (Instr.extract t40_18 0) w18 (fun t41_19 w19 =>
 DoV Try.prog (Instr.extract t40_18 1) w19 (fun t42_20 w20 =>
 CallF Try.prog 11 #[v0] w20 (fun t45_21 w21 =>
 DoV Try.prog (Instr.extract t45_21 0) w21 (fun t46_22 w22 =>
 DoV Try.prog (Instr.extract t45_21 1) w22 (fun t47_23 w23 =>
 JoinE [5] (fun K24 =>
 Gd t18_1 true (CallF Try.prog 12 #[t41_19, t46_22] w23 (fun t52_25 w25 =>
 Gd t52_25 true (DoV Try.prog (binS BinOp.eql 25 (Operand.tmp 55) (Operand.tmp 56) t42_20 t47_23) w25 (fun t57_26 w26 =>
 K24 [t57_26] w26) (Pan R))
(K24 [(Value.bool false)] w25)) (Pan R))
(K24 [(Value.bool false)] w23))
(fun h27 w27 =>
 CallF Try.prog 13 #[v0] w27 (fun t61_28 w28 =>
 DoV Try.prog (Instr.extract t61_28 0) w28 (fun t62_29 w29 =>
 DoV Try.prog (Instr.extract t61_28 1) w29 (fun t63_30 w30 =>
 CallF Try.prog 14 #[v0] w30 (fun t66_31 w31 =>
 DoV Try.prog (Instr.extract t66_31 0) w31 (fun t67_32 w32 =>
 DoV Try.prog (Instr.extract t66_31 1) w32 (fun t68_33 w33 =>
 JoinE [5] (fun K34 =>
 Gd (h27 5) true (CallF Try.prog 12 #[t62_29, t67_32] w33 (fun t73_35 w35 =>
 Gd t73_35 true (DoV Try.prog (binS BinOp.eql 25 (Operand.tmp 76) (Operand.tmp 77) t63_30 t68_33) w35 (fun t78_36 w36 =>
 K34 [t78_36] w36) (Pan R))
(K34 [(Value.bool false)] w35)) (Pan R))
(K34 [(Value.bool false)] w33))
(fun h37 w37 =>
 JoinE [5] (fun K38 =>
 CallB Try.prog Builtin.len #[23] 3 #[false] #[v1] w37 (fun t81_39 w39 =>
 DoV Try.prog (binS BinOp.leq 3 (Operand.tmp 81) (Operand.const (Value.int IntKind.i64 3000)) t81_39 (Value.int IntKind.i64 3000)) w39 (fun t82_40 w40 =>
 Br t82_40
(CallF Try.prog 15 #[v1] w40 (fun t85_41 w41 =>
 DoV Try.prog (Instr.extract t85_41 0) w41 (fun t86_42 w42 =>
 DoV Try.prog (Instr.extract t85_41 1) w42 (fun t87_43 w43 =>
 CallF Try.prog 16 #[v1] w43 (fun t90_44 w44 =>
 DoV Try.prog (Instr.extract t90_44 0) w44 (fun t91_45 w45 =>
 DoV Try.prog (Instr.extract t90_44 1) w45 (fun t92_46 w46 =>
 Gd (h37 5) true (CallF Try.prog 17 #[t86_42, t91_45] w46 (fun t97_47 w47 =>
 Gd t97_47 true (DoV Try.prog (binS BinOp.eql 25 (Operand.tmp 100) (Operand.tmp 101) t87_43 t92_46) w47 (fun t102_48 w48 =>
 K38 [t102_48] w48) (Pan R))
(K38 [(Value.bool false)] w47)) (Pan R))
(K38 [(Value.bool false)] w46)) (Pan R)) (Pan R)) (Pan R)) (Pan R)) (Pan R)) (Pan R))
(K38 [(h37 5)] w40)) (Pan R)) (Pan R))
(fun h49 w49 =>
 CallF Try.prog 18 #[v1] w49 (fun t106_50 w50 =>
 DoV Try.prog (Instr.extract t106_50 0) w50 (fun t107_51 w51 =>
 DoV Try.prog (Instr.extract t106_50 1) w51 (fun t108_52 w52 =>
 DoV Try.prog (Instr.extract t106_50 2) w52 (fun t109_53 w53 =>
 CallF Try.prog 19 #[v1] w53 (fun t112_54 w54 =>
 DoV Try.prog (Instr.extract t112_54 0) w54 (fun t113_55 w55 =>
 DoV Try.prog (Instr.extract t112_54 1) w55 (fun t114_56 w56 =>
 DoV Try.prog (Instr.extract t112_54 2) w56 (fun t115_57 w57 =>
 Gd (h49 5) true (CallF Try.prog 20 #[t107_51, t113_55] w57 (fun t120_58 w58 =>
 Gd t120_58 true (DoV Try.prog (binS BinOp.eql 3 (Operand.tmp 123) (Operand.tmp 124) t108_52 t114_56) w58 (fun t125_59 w59 =>
 Gd t125_59 true (DoV Try.prog (binS BinOp.eql 25 (Operand.tmp 128) (Operand.tmp 129) t109_53 t115_57) w59 (fun t130_60 w60 =>
 R (.returned t130_60) w60) (Pan R))
(R (.returned (Value.bool false)) w59)) (Pan R))
(R (.returned (Value.bool false)) w58)) (Pan R))
(R (.returned (Value.bool false)) w57)) (Pan R)) (Pan R)) (Pan R)) (Pan R)) (Pan R)) (Pan R)) (Pan R)) (Pan R)))) (Pan R)) (Pan R)) (Pan R)) (Pan R)) (Pan R)) (Pan R))) (Pan R)) (Pan R)) (Pan R)) (Pan R)) (Pan R)) (Pan R))) (Pan R)
theorem sh_landfalllaw08_CodecMatchesReference_eq (v0 v1 : Value) (R : Ending → World → Prop) (w : World) : vc Try.prog [] [5] (Try.f3.body.getD .skip) (endE Try.prog Try.f3.results R) (argsE [v0, v1]) [] w = sh_landfalllaw08_CodecMatchesReference v0 v1 R w := by kernel_rfl
theorem sh_landfalllaw08_CodecMatchesReference_ok (v0 v1 : Value) {R : Ending → World → Prop} {w : World} (h : sh_landfalllaw08_CodecMatchesReference v0 v1 R w) : Calls Try.prog 3 #[v0, v1] w R :=
  calls_of_vc (args := [v0, v1]) [] [5] follows_mixed Try.func3 rfl (of_decide_eq_true (by kernel_rfl)) (by kernel_rfl) ((sh_landfalllaw08_CodecMatchesReference_eq v0 v1 R w).symm ▸ h)
/- landfall/landfalllaw08.CodecBack -/
def sh_landfalllaw08_CodecBack (v0 v1 : Value) (R : Ending → World → Prop) (w : World) : Prop :=
 CallF Try.prog 9 #[] w (fun t14_1 w1 =>
 JoinE [] (fun K2 =>
 JoinE [22] (fun K3 =>
 CallB Try.prog Builtin.len #[22] 3 #[false] #[v0] w1 (fun t16_4 w4 =>
 DoV Try.prog (binS BinOp.gtr 3 (Operand.tmp 16) (Operand.const (Value.int IntKind.i64 300)) t16_4 (Value.int IntKind.i64 300)) w4 (fun t17_5 w5 =>
 Gd t17_5 false (CallB Try.prog Builtin.len #[23] 3 #[false] #[v1] w5 (fun t20_6 w6 =>
 DoV Try.prog (binS BinOp.gtr 3 (Operand.tmp 20) (Operand.const (Value.int IntKind.i64 3000)) t20_6 (Value.int IntKind.i64 3000)) w6 (fun t21_7 w7 =>
 K3 [t21_7] w7) (Pan R)) (Pan R))
(K3 [(Value.bool true)] w5)) (Pan R)) (Pan R))
(fun h8 w8 =>
 Br (h8 22)
(R (.returned t14_1) w8)
(K2 [] w8)))
(fun _ w9 =>
 CallF Try.prog 10 #[v0] w9 (fun t26_10 w10 =>
 DoV Try.prog (Instr.extract t26_10 0) w10 (fun t27_11 w11 =>
 DoV Try.prog (Instr.extract t26_10 1) w11 (fun t28_12 w12 =>
 CallF Try.prog 15 #[t27_11] w12 (fun t31_13 w13 =>
 DoV Try.prog (Instr.extract t31_13 0) w13 (fun t32_14 w14 =>
 DoV Try.prog (Instr.extract t31_13 1) w14 (fun t33_15 w15 =>
 JoinE [] (fun K16 =>
 JoinE [45] (fun K17 =>
 DoV Try.prog (binS BinOp.neq 25 (Operand.tmp 34) (Operand.const (Value.int IntKind.i64 0)) t28_12 (Value.int IntKind.i64 0)) w15 (fun t35_18 w18 =>
 Gd t35_18 false (DoV Try.prog (binS BinOp.neq 25 (Operand.tmp 37) (Operand.const (Value.int IntKind.i64 0)) t33_15 (Value.int IntKind.i64 0)) w18 (fun t38_19 w19 =>
 Gd t38_19 false (CallF Try.prog 17 #[v0, t32_14] w19 (fun t43_20 w20 =>
 DoV Try.prog (Op.unary UnOp.not t43_20) w20 (fun t44_21 w21 =>
 K17 [t44_21] w21) (Pan R)) (Pan R))
(K17 [(Value.bool true)] w19)) (Pan R))
(K17 [(Value.bool true)] w18)) (Pan R))
(fun h22 w22 =>
 Br (h22 45)
(R (.returned (Value.bool false)) w22)
(K16 [] w22)))
(fun _ w23 =>
 CallF Try.prog 15 #[v1] w23 (fun t48_24 w24 =>
 DoV Try.prog (Instr.extract t48_24 0) w24 (fun t49_25 w25 =>
 DoV Try.prog (Instr.extract t48_24 1) w25 (fun t50_26 w26 =>
 DoV Try.prog (binS BinOp.neq 25 (Operand.tmp 51) (Operand.const (Value.int IntKind.i64 0)) t50_26 (Value.int IntKind.i64 0)) w26 (fun t52_27 w27 =>
 Br t52_27
(Gd t14_1 true (DoV Try.prog (binS BinOp.eql 25 (Operand.tmp 55) (Operand.const (Value.int IntKind.i64 7)) t50_26 (Value.int IntKind.i64 7)) w27 (fun t56_28 w28 =>
 Gd t56_28 true (CallB Try.prog Builtin.len #[22] 3 #[false] #[t49_25] w28 (fun t60_29 w29 =>
 DoV Try.prog (binS BinOp.eql 3 (Operand.tmp 60) (Operand.const (Value.int IntKind.i64 0)) t60_29 (Value.int IntKind.i64 0)) w29 (fun t61_30 w30 =>
 R (.returned t61_30) w30) (Pan R)) (Pan R))
(R (.returned (Value.bool false)) w28)) (Pan R))
(R (.returned (Value.bool false)) w27))
(CallF Try.prog 10 #[t49_25] w27 (fun t65_31 w31 =>
 DoV Try.prog (Instr.extract t65_31 0) w31 (fun t66_32 w32 =>
 DoV Try.prog (Instr.extract t65_31 1) w32 (fun t67_33 w33 =>
 Gd t14_1 true (DoV Try.prog (binS BinOp.eql 25 (Operand.tmp 70) (Operand.const (Value.int IntKind.i64 0)) t67_33 (Value.int IntKind.i64 0)) w33 (fun t71_34 w34 =>
 Gd t71_34 true (CallF Try.prog 12 #[v1, t66_32] w34 (fun t76_35 w35 =>
 R (.returned t76_35) w35) (Pan R))
(R (.returned (Value.bool false)) w34)) (Pan R))
(R (.returned (Value.bool false)) w33)) (Pan R)) (Pan R)) (Pan R))) (Pan R)) (Pan R)) (Pan R)) (Pan R))) (Pan R)) (Pan R)) (Pan R)) (Pan R)) (Pan R)) (Pan R))) (Pan R)
theorem sh_landfalllaw08_CodecBack_eq (v0 v1 : Value) (R : Ending → World → Prop) (w : World) : vc Try.prog [] [] (Try.f4.body.getD .skip) (endE Try.prog Try.f4.results R) (argsE [v0, v1]) [] w = sh_landfalllaw08_CodecBack v0 v1 R w := by kernel_rfl
theorem sh_landfalllaw08_CodecBack_ok (v0 v1 : Value) {R : Ending → World → Prop} {w : World} (h : sh_landfalllaw08_CodecBack v0 v1 R w) : Calls Try.prog 4 #[v0, v1] w R :=
  calls_of_vc (args := [v0, v1]) [] [] follows_mixed Try.func4 rfl (of_decide_eq_true (by kernel_rfl)) (by kernel_rfl) ((sh_landfalllaw08_CodecBack_eq v0 v1 R w).symm ▸ h)
/- landfall/landfalllaw08.CodecTorn -/
def sh_landfalllaw08_CodecTorn (v0 v1 : Value) (R : Ending → World → Prop) (w : World) : Prop :=
 CallF Try.prog 9 #[] w (fun t16_1 w1 =>
 CallF Try.prog 21 #[v0] w1 (fun t18_2 w2 =>
 DoV Try.prog (Op.unary UnOp.not t18_2) w2 (fun t19_3 w3 =>
 Br t19_3
(R (.returned t16_1) w3)
(CallF Try.prog 22 #[v0] w3 (fun t23_4 w4 =>
 DoV Try.prog (Instr.extract t23_4 0) w4 (fun t24_5 w5 =>
 DoV Try.prog (Instr.extract t23_4 1) w5 (fun t25_6 w6 =>
 DoV Try.prog (Instr.extract t23_4 2) w6 (fun t26_7 w7 =>
 DoV Try.prog (Op.unary UnOp.not t26_7) w7 (fun t28_8 w8 =>
 Br t28_8
(R (.returned (Value.bool false)) w8)
(DoV Try.prog (convert 37 3 v1) w8 (fun t30_9 w9 =>
 CallB Try.prog Builtin.len #[23] 3 #[false] #[t24_5] w9 (fun t32_10 w10 =>
 DoV Try.prog (binS BinOp.add 3 (Operand.tmp 32) (Operand.const (Value.int IntKind.i64 1)) t32_10 (Value.int IntKind.i64 1)) w10 (fun t33_11 w11 =>
 DoV Try.prog (binS BinOp.rem 3 (Operand.tmp 30) (Operand.tmp 33) t30_9 t33_11) w11 (fun t34_12 w12 =>
 LoopE [10, 11, 12] [(Value.int IntKind.i64 0), (Value.int IntKind.i64 0), (Value.int IntKind.i64 0)] w12 (fun h13 w13 K13 =>
 CallB Try.prog Builtin.len #[22] 3 #[false] #[t25_6] w13 (fun t37_14 w14 =>
 DoV Try.prog (binS BinOp.lss 3 (Operand.tmp 35) (Operand.tmp 37) (h13 12) t37_14) w14 (fun t38_15 w15 =>
 Br t38_15
(JoinE [10, 11] (fun K16 =>
 DoV Try.prog (Instr.indexAt 22 t25_6 (h13 12)) w15 (fun t43_17 w17 =>
 DoV Try.prog (Instr.loadAt 3 t43_17) w17 (fun t44_18 w18 =>
 DoV Try.prog (binS BinOp.leq 3 (Operand.tmp 44) (Operand.tmp 45) t44_18 t34_12) w18 (fun t46_19 w19 =>
 Br t46_19
(DrawE w19 (fun Rs20 Rb20 w20 =>
 DetOp Rb20 Rs20 w20 (fun w21 K21 => DoV Try.prog (binS BinOp.add 3 (Operand.tmp 47) (Operand.const (Value.int IntKind.i64 1)) (h13 12) (Value.int IntKind.i64 1)) w21 K21 (Pan R)) (fun c48_21 ψ21 =>
 DetOp Rb20 Rs20 w20 (fun w22 K22 => DoV Try.prog (Instr.indexAt 22 t25_6 (h13 12)) w22 K22 (Pan R)) (fun c51_22 ψ22 =>
 DetOp Rb20 Rs20 w20 (fun w23 K23 => DoV Try.prog (Instr.loadAt 3 c51_22) w23 K23 (Pan R)) (fun c52_23 ψ23 =>
 ∀ w24, Rb20 w20 w24 → (((True ∧ ψ21 w24) ∧ ψ22 w24) ∧ ψ23 w24) →
 K16 [c48_21, c52_23] w24)))))
(K16 [(h13 10), (h13 11)] w19)) (Pan R)) (Pan R)) (Pan R))
(fun h25 w25 =>
 DoV Try.prog (binS BinOp.add 3 (Operand.tmp 39) (Operand.const (Value.int IntKind.i64 1)) (h13 12) (Value.int IntKind.i64 1)) w25 (fun t40_26 w26 =>
 K13 [(h25 10), (h25 11), t40_26] w26) (Pan R)))
(DoV Try.prog (Instr.sliceAt 23 t24_5 none (some t34_12) none) w15 (fun t56_27 w27 =>
 CallF Try.prog 18 #[t56_27] w27 (fun t57_28 w28 =>
 DoV Try.prog (Instr.extract t57_28 0) w28 (fun t58_29 w29 =>
 DoV Try.prog (Instr.extract t57_28 1) w29 (fun t59_30 w30 =>
 DoV Try.prog (Instr.extract t57_28 2) w30 (fun t60_31 w31 =>
 Gd t16_1 true (DoV Try.prog (binS BinOp.eql 25 (Operand.tmp 63) (Operand.const (Value.int IntKind.i64 0)) t60_31 (Value.int IntKind.i64 0)) w31 (fun t64_32 w32 =>
 Gd t64_32 true (DoV Try.prog (binS BinOp.eql 3 (Operand.tmp 67) (Operand.tmp 68) t59_30 (h13 11)) w32 (fun t69_33 w33 =>
 Gd t69_33 true (DoV Try.prog (Instr.sliceAt 32 v0 none (some (h13 10)) none) w33 (fun t75_34 w34 =>
 CallF Try.prog 20 #[t58_29, t75_34] w34 (fun t76_35 w35 =>
 R (.returned t76_35) w35) (Pan R)) (Pan R))
(R (.returned (Value.bool false)) w33)) (Pan R))
(R (.returned (Value.bool false)) w32)) (Pan R))
(R (.returned (Value.bool false)) w31)) (Pan R)) (Pan R)) (Pan R)) (Pan R)) (Pan R))) (Pan R)) (Pan R))) (Pan R)) (Pan R)) (Pan R)) (Pan R))) (Pan R)) (Pan R)) (Pan R)) (Pan R)) (Pan R))) (Pan R)) (Pan R)) (Pan R)
theorem sh_landfalllaw08_CodecTorn_eq (v0 v1 : Value) (R : Ending → World → Prop) (w : World) : vc Try.prog [(13, 7, false, 0)] [10, 11, 12] (Try.f5.body.getD .skip) (endE Try.prog Try.f5.results R) (argsE [v0, v1]) [] w = sh_landfalllaw08_CodecTorn v0 v1 R w := by kernel_rfl
theorem sh_landfalllaw08_CodecTorn_ok (v0 v1 : Value) {R : Ending → World → Prop} {w : World} (h : sh_landfalllaw08_CodecTorn v0 v1 R w) : Calls Try.prog 5 #[v0, v1] w R :=
  calls_of_vc (args := [v0, v1]) [(13, 7, false, 0)] [10, 11, 12] follows_mixed Try.func5 rfl (of_decide_eq_true (by kernel_rfl)) (by kernel_rfl) ((sh_landfalllaw08_CodecTorn_eq v0 v1 R w).symm ▸ h)
/- landfall/landfalllaw08.CodecFollows -/
def sh_landfalllaw08_CodecFollows (v0 v1 : Value) (R : Ending → World → Prop) (w : World) : Prop :=
 CallF Try.prog 9 #[] w (fun t15_1 w1 =>
 JoinE [] (fun K2 =>
 JoinE [23] (fun K3 =>
 CallF Try.prog 21 #[v0] w1 (fun t17_4 w4 =>
 DoV Try.prog (Op.unary UnOp.not t17_4) w4 (fun t18_5 w5 =>
 Gd t18_5 false (CallB Try.prog Builtin.len #[23] 3 #[false] #[v1] w5 (fun t21_6 w6 =>
 DoV Try.prog (binS BinOp.gtr 3 (Operand.tmp 21) (Operand.const (Value.int IntKind.i64 1000)) t21_6 (Value.int IntKind.i64 1000)) w6 (fun t22_7 w7 =>
 K3 [t22_7] w7) (Pan R)) (Pan R))
(K3 [(Value.bool true)] w5)) (Pan R)) (Pan R))
(fun h8 w8 =>
 Br (h8 23)
(R (.returned t15_1) w8)
(K2 [] w8)))
(fun _ w9 =>
 CallF Try.prog 22 #[v0] w9 (fun t27_10 w10 =>
 DoV Try.prog (Instr.extract t27_10 0) w10 (fun t28_11 w11 =>
 DoV Try.prog (Instr.extract t27_10 1) w11 (fun _ w12 =>
 DoV Try.prog (Instr.extract t27_10 2) w12 (fun t30_13 w13 =>
 DoV Try.prog (Op.unary UnOp.not t30_13) w13 (fun t32_14 w14 =>
 Br t32_14
(R (.returned (Value.bool false)) w14)
(DoV Try.prog (Instr.buildSlice 23 0 #[]) w14 (fun t34_15 w15 =>
 CallB Try.prog Builtin.append #[23, 23] 23 #[false, false] #[t34_15, t28_11] w15 (fun t36_16 w16 =>
 CallB Try.prog Builtin.append #[23, 23] 23 #[false, false] #[t36_16, v1] w16 (fun t38_17 w17 =>
 CallF Try.prog 18 #[t38_17] w17 (fun t39_18 w18 =>
 DoV Try.prog (Instr.extract t39_18 0) w18 (fun t40_19 w19 =>
 DoV Try.prog (Instr.extract t39_18 1) w19 (fun t41_20 w20 =>
 DoV Try.prog (Instr.extract t39_18 2) w20 (fun t42_21 w21 =>
 CallF Try.prog 18 #[v1] w21 (fun t45_22 w22 =>
 DoV Try.prog (Instr.extract t45_22 0) w22 (fun t46_23 w23 =>
 DoV Try.prog (Instr.extract t45_22 1) w23 (fun t47_24 w24 =>
 DoV Try.prog (Instr.extract t45_22 2) w24 (fun t48_25 w25 =>
 JoinE [] (fun K26 =>
 JoinE [72] (fun K27 =>
 DoV Try.prog (binS BinOp.neq 25 (Operand.tmp 49) (Operand.const (Value.int IntKind.i64 0)) t42_21 (Value.int IntKind.i64 0)) w25 (fun t50_28 w28 =>
 Gd t50_28 false (DoV Try.prog (binS BinOp.neq 25 (Operand.tmp 52) (Operand.const (Value.int IntKind.i64 0)) t48_25 (Value.int IntKind.i64 0)) w28 (fun t53_29 w29 =>
 Gd t53_29 false (CallB Try.prog Builtin.len #[32] 3 #[false] #[t40_19] w29 (fun t57_30 w30 =>
 CallB Try.prog Builtin.len #[32] 3 #[false] #[v0] w30 (fun t59_31 w31 =>
 CallB Try.prog Builtin.len #[32] 3 #[false] #[t46_23] w31 (fun t61_32 w32 =>
 DoV Try.prog (binS BinOp.add 3 (Operand.tmp 59) (Operand.tmp 61) t59_31 t61_32) w32 (fun t62_33 w33 =>
 DoV Try.prog (binS BinOp.neq 3 (Operand.tmp 57) (Operand.tmp 62) t57_30 t62_33) w33 (fun t63_34 w34 =>
 Gd t63_34 false (CallB Try.prog Builtin.len #[23] 3 #[false] #[t28_11] w34 (fun t68_35 w35 =>
 DoV Try.prog (binS BinOp.add 3 (Operand.tmp 68) (Operand.tmp 69) t68_35 t47_24) w35 (fun t70_36 w36 =>
 DoV Try.prog (binS BinOp.neq 3 (Operand.tmp 66) (Operand.tmp 70) t41_20 t70_36) w36 (fun t71_37 w37 =>
 K27 [t71_37] w37) (Pan R)) (Pan R)) (Pan R))
(K27 [(Value.bool true)] w34)) (Pan R)) (Pan R)) (Pan R)) (Pan R)) (Pan R))
(K27 [(Value.bool true)] w29)) (Pan R))
(K27 [(Value.bool true)] w28)) (Pan R))
(fun h38 w38 =>
 Br (h38 72)
(R (.returned (Value.bool false)) w38)
(K26 [] w38)))
(fun _ w39 =>
 Gd t15_1 true (CallB Try.prog Builtin.len #[32] 3 #[false] #[v0] w39 (fun t77_40 w40 =>
 DoV Try.prog (Instr.sliceAt 32 t40_19 none (some t77_40) none) w40 (fun t78_41 w41 =>
 CallF Try.prog 20 #[t78_41, v0] w41 (fun t80_42 w42 =>
 Gd t80_42 true (CallB Try.prog Builtin.len #[32] 3 #[false] #[v0] w42 (fun t85_43 w43 =>
 DoV Try.prog (Instr.sliceAt 32 t40_19 (some t85_43) none none) w43 (fun t86_44 w44 =>
 CallF Try.prog 20 #[t86_44, t46_23] w44 (fun t88_45 w45 =>
 R (.returned t88_45) w45) (Pan R)) (Pan R)) (Pan R))
(R (.returned (Value.bool false)) w42)) (Pan R)) (Pan R)) (Pan R))
(R (.returned (Value.bool false)) w39))) (Pan R)) (Pan R)) (Pan R)) (Pan R)) (Pan R)) (Pan R)) (Pan R)) (Pan R)) (Pan R)) (Pan R)) (Pan R))) (Pan R)) (Pan R)) (Pan R)) (Pan R)) (Pan R))) (Pan R)
theorem sh_landfalllaw08_CodecFollows_eq (v0 v1 : Value) (R : Ending → World → Prop) (w : World) : vc Try.prog [] [] (Try.f6.body.getD .skip) (endE Try.prog Try.f6.results R) (argsE [v0, v1]) [] w = sh_landfalllaw08_CodecFollows v0 v1 R w := by kernel_rfl
theorem sh_landfalllaw08_CodecFollows_ok (v0 v1 : Value) {R : Ending → World → Prop} {w : World} (h : sh_landfalllaw08_CodecFollows v0 v1 R w) : Calls Try.prog 6 #[v0, v1] w R :=
  calls_of_vc (args := [v0, v1]) [] [] follows_mixed Try.func6 rfl (of_decide_eq_true (by kernel_rfl)) (by kernel_rfl) ((sh_landfalllaw08_CodecFollows_eq v0 v1 R w).symm ▸ h)
/- landfall/landfalllaw08.CodecChanged -/
def sh_landfalllaw08_CodecChanged (v0 v1 v2 : Value) (R : Ending → World → Prop) (w : World) : Prop :=
 CallF Try.prog 9 #[] w (fun t16_1 w1 =>
 JoinE [] (fun K2 =>
 JoinE [28] (fun K3 =>
 CallF Try.prog 21 #[v0] w1 (fun t18_4 w4 =>
 DoV Try.prog (Op.unary UnOp.not t18_4) w4 (fun t19_5 w5 =>
 Gd t19_5 false (CallB Try.prog Builtin.len #[32] 3 #[false] #[v0] w5 (fun t22_6 w6 =>
 DoV Try.prog (binS BinOp.eql 3 (Operand.tmp 22) (Operand.const (Value.int IntKind.i64 0)) t22_6 (Value.int IntKind.i64 0)) w6 (fun t23_7 w7 =>
 Gd t23_7 false (DoV Try.prog (binS BinOp.eql 5 (Operand.tmp 26) (Operand.const (Value.int IntKind.u8 0)) v2 (Value.int IntKind.u8 0)) w7 (fun t27_8 w8 =>
 K3 [t27_8] w8) (Pan R))
(K3 [(Value.bool true)] w7)) (Pan R)) (Pan R))
(K3 [(Value.bool true)] w5)) (Pan R)) (Pan R))
(fun h9 w9 =>
 Br (h9 28)
(R (.returned t16_1) w9)
(K2 [] w9)))
(fun _ w10 =>
 CallF Try.prog 22 #[v0] w10 (fun t32_11 w11 =>
 DoV Try.prog (Instr.extract t32_11 0) w11 (fun t33_12 w12 =>
 DoV Try.prog (Instr.extract t32_11 1) w12 (fun t34_13 w13 =>
 DoV Try.prog (Instr.extract t32_11 2) w13 (fun t35_14 w14 =>
 JoinE [] (fun K15 =>
 JoinE [44] (fun K16 =>
 DoV Try.prog (Op.unary UnOp.not t35_14) w14 (fun t37_17 w17 =>
 Gd t37_17 false (CallB Try.prog Builtin.len #[22] 3 #[false] #[t34_13] w17 (fun t40_18 w18 =>
 CallB Try.prog Builtin.len #[32] 3 #[false] #[v0] w18 (fun t42_19 w19 =>
 DoV Try.prog (binS BinOp.neq 3 (Operand.tmp 40) (Operand.tmp 42) t40_18 t42_19) w19 (fun t43_20 w20 =>
 K16 [t43_20] w20) (Pan R)) (Pan R)) (Pan R))
(K16 [(Value.bool true)] w17)) (Pan R))
(fun h21 w21 =>
 Br (h21 44)
(R (.returned (Value.bool false)) w21)
(K15 [] w21)))
(fun _ w22 =>
 JoinE [11] (fun K23 =>
 CallB Try.prog Builtin.len #[22] 3 #[false] #[t34_13] w22 (fun t46_24 w24 =>
 DoV Try.prog (binS BinOp.gtr 3 (Operand.tmp 46) (Operand.const (Value.int IntKind.i64 1)) t46_24 (Value.int IntKind.i64 1)) w24 (fun t47_25 w25 =>
 Br t47_25
(CallB Try.prog Builtin.len #[22] 3 #[false] #[t34_13] w25 (fun t50_26 w26 =>
 DoV Try.prog (binS BinOp.sub 3 (Operand.tmp 50) (Operand.const (Value.int IntKind.i64 2)) t50_26 (Value.int IntKind.i64 2)) w26 (fun t51_27 w27 =>
 DoV Try.prog (Instr.indexAt 22 t34_13 t51_27) w27 (fun t52_28 w28 =>
 DoV Try.prog (Instr.loadAt 3 t52_28) w28 (fun t53_29 w29 =>
 K23 [t53_29] w29) (Pan R)) (Pan R)) (Pan R)) (Pan R))
(K23 [(Value.int IntKind.i64 0)] w25)) (Pan R)) (Pan R))
(fun h30 w30 =>
 DoV Try.prog (Instr.buildSlice 23 0 #[]) w30 (fun t54_31 w31 =>
 CallB Try.prog Builtin.append #[23, 23] 23 #[false, false] #[t54_31, t33_12] w31 (fun t56_32 w32 =>
 DoV Try.prog (binS BinOp.add 3 (Operand.tmp 58) (Operand.const (Value.int IntKind.i64 3)) (h30 11) (Value.int IntKind.i64 3)) w32 (fun t59_33 w33 =>
 DoV Try.prog (convert 37 3 v1) w33 (fun t61_34 w34 =>
 CallB Try.prog Builtin.len #[23] 3 #[false] #[t33_12] w34 (fun t63_35 w35 =>
 DoV Try.prog (binS BinOp.sub 3 (Operand.tmp 63) (Operand.tmp 64) t63_35 (h30 11)) w35 (fun t65_36 w36 =>
 DoV Try.prog (binS BinOp.sub 3 (Operand.tmp 65) (Operand.const (Value.int IntKind.i64 3)) t65_36 (Value.int IntKind.i64 3)) w36 (fun t66_37 w37 =>
 DoV Try.prog (binS BinOp.rem 3 (Operand.tmp 61) (Operand.tmp 66) t61_34 t66_37) w37 (fun t67_38 w38 =>
 DoV Try.prog (binS BinOp.add 3 (Operand.tmp 59) (Operand.tmp 67) t59_33 t67_38) w38 (fun t68_39 w39 =>
 DoV Try.prog (Instr.indexAt 23 t56_32 t68_39) w39 (fun t69_40 w40 =>
 DoV Try.prog (Instr.loadAt 5 t69_40) w40 (fun t70_41 w41 =>
 DoV Try.prog (binS BinOp.xor 5 (Operand.tmp 70) (Operand.tmp 71) t70_41 v2) w41 (fun t72_42 w42 =>
 DoV Try.prog (Instr.indexAt 23 t56_32 t68_39) w42 (fun t73_43 w43 =>
 DoU Try.prog (Instr.storeAt 5 t73_43 t72_42) w43 (fun _ w44 =>
 CallF Try.prog 18 #[t56_32] w44 (fun t76_45 w45 =>
 DoV Try.prog (Instr.extract t76_45 0) w45 (fun t77_46 w46 =>
 DoV Try.prog (Instr.extract t76_45 1) w46 (fun t78_47 w47 =>
 DoV Try.prog (Instr.extract t76_45 2) w47 (fun t79_48 w48 =>
 Gd t16_1 true (DoV Try.prog (binS BinOp.eql 25 (Operand.tmp 82) (Operand.const (Value.int IntKind.i64 0)) t79_48 (Value.int IntKind.i64 0)) w48 (fun t83_49 w49 =>
 Gd t83_49 true (DoV Try.prog (binS BinOp.eql 3 (Operand.tmp 86) (Operand.tmp 87) t78_47 (h30 11)) w49 (fun t88_50 w50 =>
 Gd t88_50 true (CallB Try.prog Builtin.len #[32] 3 #[false] #[v0] w50 (fun t94_51 w51 =>
 DoV Try.prog (binS BinOp.sub 3 (Operand.tmp 94) (Operand.const (Value.int IntKind.i64 1)) t94_51 (Value.int IntKind.i64 1)) w51 (fun t95_52 w52 =>
 DoV Try.prog (Instr.sliceAt 32 v0 none (some t95_52) none) w52 (fun t96_53 w53 =>
 CallF Try.prog 20 #[t77_46, t96_53] w53 (fun t97_54 w54 =>
 R (.returned t97_54) w54) (Pan R)) (Pan R)) (Pan R)) (Pan R))
(R (.returned (Value.bool false)) w50)) (Pan R))
(R (.returned (Value.bool false)) w49)) (Pan R))
(R (.returned (Value.bool false)) w48)) (Pan R)) (Pan R)) (Pan R)) (Pan R)) (Pan R)) (Pan R)) (Pan R)) (Pan R)) (Pan R)) (Pan R)) (Pan R)) (Pan R)) (Pan R)) (Pan R)) (Pan R)) (Pan R)) (Pan R)) (Pan R)))) (Pan R)) (Pan R)) (Pan R)) (Pan R))) (Pan R)
theorem sh_landfalllaw08_CodecChanged_eq (v0 v1 v2 : Value) (R : Ending → World → Prop) (w : World) : vc Try.prog [] [11] (Try.f7.body.getD .skip) (endE Try.prog Try.f7.results R) (argsE [v0, v1, v2]) [] w = sh_landfalllaw08_CodecChanged v0 v1 v2 R w := by kernel_rfl
theorem sh_landfalllaw08_CodecChanged_ok (v0 v1 v2 : Value) {R : Ending → World → Prop} {w : World} (h : sh_landfalllaw08_CodecChanged v0 v1 v2 R w) : Calls Try.prog 7 #[v0, v1, v2] w R :=
  calls_of_vc (args := [v0, v1, v2]) [] [11] follows_mixed Try.func7 rfl (of_decide_eq_true (by kernel_rfl)) (by kernel_rfl) ((sh_landfalllaw08_CodecChanged_eq v0 v1 v2 R w).symm ▸ h)
/- landfall/landfalllaw08.CodecPrefixes -/
def sh_landfalllaw08_CodecPrefixes (v0 v1 v2 : Value) (R : Ending → World → Prop) (w : World) : Prop :=
 CallF Try.prog 9 #[] w (fun t14_1 w1 =>
 JoinE [] (fun K2 =>
 JoinE [27] (fun K3 =>
 CallB Try.prog Builtin.len #[22] 3 #[false] #[v0] w1 (fun t16_4 w4 =>
 DoV Try.prog (binS BinOp.gtr 3 (Operand.tmp 16) (Operand.const (Value.int IntKind.i64 300)) t16_4 (Value.int IntKind.i64 300)) w4 (fun t17_5 w5 =>
 Gd t17_5 false (CallB Try.prog Builtin.len #[23] 3 #[false] #[v1] w5 (fun t20_6 w6 =>
 DoV Try.prog (binS BinOp.eql 3 (Operand.tmp 20) (Operand.const (Value.int IntKind.i64 0)) t20_6 (Value.int IntKind.i64 0)) w6 (fun t21_7 w7 =>
 Gd t21_7 false (CallB Try.prog Builtin.len #[23] 3 #[false] #[v1] w7 (fun t25_8 w8 =>
 DoV Try.prog (binS BinOp.gtr 3 (Operand.tmp 25) (Operand.const (Value.int IntKind.i64 300)) t25_8 (Value.int IntKind.i64 300)) w8 (fun t26_9 w9 =>
 K3 [t26_9] w9) (Pan R)) (Pan R))
(K3 [(Value.bool true)] w7)) (Pan R)) (Pan R))
(K3 [(Value.bool true)] w5)) (Pan R)) (Pan R))
(fun h10 w10 =>
 Br (h10 27)
(R (.returned t14_1) w10)
(K2 [] w10)))
(fun _ w11 =>
 CallF Try.prog 10 #[v0] w11 (fun t31_12 w12 =>
 DoV Try.prog (Instr.extract t31_12 0) w12 (fun t32_13 w13 =>
 DoV Try.prog (Instr.extract t31_12 1) w13 (fun t33_14 w14 =>
 JoinE [] (fun K15 =>
 JoinE [40] (fun K16 =>
 DoV Try.prog (binS BinOp.neq 25 (Operand.tmp 34) (Operand.const (Value.int IntKind.i64 0)) t33_14 (Value.int IntKind.i64 0)) w14 (fun t35_17 w17 =>
 Gd t35_17 false (CallB Try.prog Builtin.len #[23] 3 #[false] #[t32_13] w17 (fun t38_18 w18 =>
 DoV Try.prog (binS BinOp.eql 3 (Operand.tmp 38) (Operand.const (Value.int IntKind.i64 0)) t38_18 (Value.int IntKind.i64 0)) w18 (fun t39_19 w19 =>
 K16 [t39_19] w19) (Pan R)) (Pan R))
(K16 [(Value.bool true)] w17)) (Pan R))
(fun h20 w20 =>
 Br (h20 40)
(R (.returned (Value.bool false)) w20)
(K15 [] w20)))
(fun _ w21 =>
 DoV Try.prog (Instr.buildSlice 23 0 #[]) w21 (fun t42_22 w22 =>
 CallB Try.prog Builtin.append #[23, 23] 23 #[false, false] #[t42_22, t32_13] w22 (fun t44_23 w23 =>
 CallB Try.prog Builtin.append #[23, 23] 23 #[false, false] #[t44_23, v1] w23 (fun t46_24 w24 =>
 CallF Try.prog 15 #[t46_24] w24 (fun t47_25 w25 =>
 DoV Try.prog (Instr.extract t47_25 0) w25 (fun _ w26 =>
 DoV Try.prog (Instr.extract t47_25 1) w26 (fun t49_27 w27 =>
 DoV Try.prog (convert 37 3 v2) w27 (fun t53_28 w28 =>
 CallB Try.prog Builtin.len #[23] 3 #[false] #[t32_13] w28 (fun t55_29 w29 =>
 DoV Try.prog (binS BinOp.rem 3 (Operand.tmp 53) (Operand.tmp 55) t53_28 t55_29) w29 (fun t56_30 w30 =>
 DoV Try.prog (Instr.sliceAt 23 t32_13 none (some t56_30) none) w30 (fun t57_31 w31 =>
 CallF Try.prog 15 #[t57_31] w31 (fun t58_32 w32 =>
 DoV Try.prog (Instr.extract t58_32 0) w32 (fun _ w33 =>
 DoV Try.prog (Instr.extract t58_32 1) w33 (fun t60_34 w34 =>
 Gd t14_1 true (DoV Try.prog (binS BinOp.eql 25 (Operand.tmp 63) (Operand.const (Value.int IntKind.i64 7)) t49_27 (Value.int IntKind.i64 7)) w34 (fun t64_35 w35 =>
 Gd t64_35 true (DoV Try.prog (binS BinOp.eql 25 (Operand.tmp 67) (Operand.const (Value.int IntKind.i64 7)) t60_34 (Value.int IntKind.i64 7)) w35 (fun t68_36 w36 =>
 R (.returned t68_36) w36) (Pan R))
(R (.returned (Value.bool false)) w35)) (Pan R))
(R (.returned (Value.bool false)) w34)) (Pan R)) (Pan R)) (Pan R)) (Pan R)) (Pan R)) (Pan R)) (Pan R)) (Pan R)) (Pan R)) (Pan R)) (Pan R)) (Pan R)) (Pan R))) (Pan R)) (Pan R)) (Pan R))) (Pan R)
theorem sh_landfalllaw08_CodecPrefixes_eq (v0 v1 v2 : Value) (R : Ending → World → Prop) (w : World) : vc Try.prog [] [] (Try.f8.body.getD .skip) (endE Try.prog Try.f8.results R) (argsE [v0, v1, v2]) [] w = sh_landfalllaw08_CodecPrefixes v0 v1 v2 R w := by kernel_rfl
theorem sh_landfalllaw08_CodecPrefixes_ok (v0 v1 v2 : Value) {R : Ending → World → Prop} {w : World} (h : sh_landfalllaw08_CodecPrefixes v0 v1 v2 R w) : Calls Try.prog 8 #[v0, v1, v2] w R :=
  calls_of_vc (args := [v0, v1, v2]) [] [] follows_mixed Try.func8 rfl (of_decide_eq_true (by kernel_rfl)) (by kernel_rfl) ((sh_landfalllaw08_CodecPrefixes_eq v0 v1 v2 R w).symm ▸ h)
/- landfall/landfalllaw08.head -/
def sh_landfalllaw08_head (R : Ending → World → Prop) (w : World) : Prop :=
 DoV Try.prog (Instr.buildSlice 22 3 #[(0, (Value.int IntKind.i64 0)), (1, (Value.int IntKind.i64 (-1))), (2, (Value.int IntKind.i64 64))]) w (fun t12_1 w1 =>
 CallF Try.prog 10 #[t12_1] w1 (fun t13_2 w2 =>
 DoV Try.prog (Instr.extract t13_2 0) w2 (fun t14_3 w3 =>
 DoV Try.prog (Instr.extract t13_2 1) w3 (fun t15_4 w4 =>
 DoV Try.prog (Instr.buildSlice 23 3 #[(0, (Value.int IntKind.u8 2)), (1, (Value.int IntKind.u8 128)), (2, (Value.int IntKind.u8 0))]) w4 (fun t17_5 w5 =>
 CallF Try.prog 15 #[t17_5] w5 (fun t18_6 w6 =>
 DoV Try.prog (Instr.extract t18_6 0) w6 (fun _ w7 =>
 DoV Try.prog (Instr.extract t18_6 1) w7 (fun t20_8 w8 =>
 DoV Try.prog (Instr.buildSlice 22 1 #[(0, (Value.int IntKind.i64 5))]) w8 (fun t22_9 w9 =>
 CallF Try.prog 13 #[t22_9] w9 (fun t23_10 w10 =>
 DoV Try.prog (Instr.extract t23_10 0) w10 (fun t24_11 w11 =>
 DoV Try.prog (Instr.extract t23_10 1) w11 (fun t25_12 w12 =>
 DoV Try.prog (Instr.buildSlice 23 0 #[]) w12 (fun t27_13 w13 =>
 CallB Try.prog Builtin.append #[23, 23] 23 #[false, false] #[t27_13, t24_11] w13 (fun t29_14 w14 =>
 DoV Try.prog (Instr.buildSlice 23 2 #[(0, (Value.int IntKind.u8 0)), (1, (Value.int IntKind.u8 0))]) w14 (fun t30_15 w15 =>
 CallB Try.prog Builtin.append #[23, 23] 23 #[false, false] #[t29_14, t30_15] w15 (fun t31_16 w16 =>
 CallF Try.prog 18 #[t31_16] w16 (fun t32_17 w17 =>
 DoV Try.prog (Instr.extract t32_17 0) w17 (fun t33_18 w18 =>
 DoV Try.prog (Instr.extract t32_17 1) w18 (fun t34_19 w19 =>
 DoV Try.prog (Instr.extract t32_17 2) w19 (fun t35_20 w20 =>
 JoinE [10] (fun K21 =>
 DoV Try.prog (binS BinOp.eql 25 (Operand.tmp 36) (Operand.const (Value.int IntKind.i64 0)) t15_4 (Value.int IntKind.i64 0)) w20 (fun t37_22 w22 =>
 Gd t37_22 true (DoV Try.prog (binS BinOp.eql 25 (Operand.tmp 39) (Operand.const (Value.int IntKind.i64 7)) t20_8 (Value.int IntKind.i64 7)) w22 (fun t40_23 w23 =>
 Gd t40_23 true (DoV Try.prog (binS BinOp.eql 25 (Operand.tmp 43) (Operand.const (Value.int IntKind.i64 0)) t25_12 (Value.int IntKind.i64 0)) w23 (fun t44_24 w24 =>
 Gd t44_24 true (DoV Try.prog (binS BinOp.eql 25 (Operand.tmp 47) (Operand.const (Value.int IntKind.i64 0)) t35_20 (Value.int IntKind.i64 0)) w24 (fun t48_25 w25 =>
 K21 [t48_25] w25) (Pan R))
(K21 [(Value.bool false)] w24)) (Pan R))
(K21 [(Value.bool false)] w23)) (Pan R))
(K21 [(Value.bool false)] w22)) (Pan R))
(fun h26 w26 =>
 JoinE [10] (fun K27 =>
 Gd (h26 10) true (DoV Try.prog (Instr.buildSlice 23 5 #[(0, (Value.int IntKind.u8 6)), (1, (Value.int IntKind.u8 0)), (2, (Value.int IntKind.u8 1)), (3, (Value.int IntKind.u8 128)), (4, (Value.int IntKind.u8 1))]) w26 (fun t53_28 w28 =>
 CallF Try.prog 12 #[t14_3, t53_28] w28 (fun t54_29 w29 =>
 Gd t54_29 true (CallB Try.prog Builtin.len #[23] 3 #[false] #[t24_11] w29 (fun t58_30 w30 =>
 DoV Try.prog (binS BinOp.eql 3 (Operand.tmp 58) (Operand.const (Value.int IntKind.i64 13)) t58_30 (Value.int IntKind.i64 13)) w30 (fun t59_31 w31 =>
 K27 [t59_31] w31) (Pan R)) (Pan R))
(K27 [(Value.bool false)] w29)) (Pan R)) (Pan R))
(K27 [(Value.bool false)] w26))
(fun h32 w32 =>
 Gd (h32 10) true (DoV Try.prog (Instr.sliceAt 23 t24_11 none (some (Value.int IntKind.i64 5)) none) w32 (fun t64_33 w33 =>
 DoV Try.prog (Instr.buildSlice 23 5 #[(0, (Value.int IntKind.u8 0)), (1, (Value.int IntKind.u8 0)), (2, (Value.int IntKind.u8 2)), (3, (Value.int IntKind.u8 2)), (4, (Value.int IntKind.u8 10))]) w33 (fun t65_34 w34 =>
 CallF Try.prog 12 #[t64_33, t65_34] w34 (fun t66_35 w35 =>
 Gd t66_35 true (DoV Try.prog (binS BinOp.eql 3 (Operand.tmp 69) (Operand.const (Value.int IntKind.i64 13)) t34_19 (Value.int IntKind.i64 13)) w35 (fun t70_36 w36 =>
 Gd t70_36 true (DoV Try.prog (Instr.buildSlice 22 1 #[(0, (Value.int IntKind.i64 5))]) w36 (fun t74_37 w37 =>
 DoV Try.prog (Instr.buildSlice 32 1 #[(0, t74_37)]) w37 (fun t75_38 w38 =>
 CallF Try.prog 20 #[t33_18, t75_38] w38 (fun t76_39 w39 =>
 R (.returned t76_39) w39) (Pan R)) (Pan R)) (Pan R))
(R (.returned (Value.bool false)) w36)) (Pan R))
(R (.returned (Value.bool false)) w35)) (Pan R)) (Pan R)) (Pan R))
(R (.returned (Value.bool false)) w32)))) (Pan R)) (Pan R)) (Pan R)) (Pan R)) (Pan R)) (Pan R)) (Pan R)) (Pan R)) (Pan R)) (Pan R)) (Pan R)) (Pan R)) (Pan R)) (Pan R)) (Pan R)) (Pan R)) (Pan R)) (Pan R)) (Pan R)) (Pan R)
theorem sh_landfalllaw08_head_eq (R : Ending → World → Prop) (w : World) : vc Try.prog [] [10] (Try.f9.body.getD .skip) (endE Try.prog Try.f9.results R) (argsE []) [] w = sh_landfalllaw08_head  R w := by kernel_rfl
theorem sh_landfalllaw08_head_ok {R : Ending → World → Prop} {w : World} (h : sh_landfalllaw08_head  R w) : Calls Try.prog 9 #[] w R :=
  calls_of_vc (args := []) [] [10] follows_mixed Try.func9 rfl (of_decide_eq_true (by kernel_rfl)) (by kernel_rfl) ((sh_landfalllaw08_head_eq  R w).symm ▸ h)
/- landfall/codec.Put -/
def sh_codec_Put (v0 : Value) (R : Ending → World → Prop) (w : World) : Prop :=
 CallB Try.prog Builtin.len #[22] 3 #[false] #[v0] w (fun t8_1 w1 =>
 DoV Try.prog (binS BinOp.gtr 3 (Operand.tmp 8) (Operand.const (Value.int IntKind.i64 4000)) t8_1 (Value.int IntKind.i64 4000)) w1 (fun t9_2 w2 =>
 Br t9_2
(R (.returned (Value.tuple #[(Value.slice none 0 0), (Value.int IntKind.i64 2)])) w2)
(CallB Try.prog Builtin.len #[22] 3 #[false] #[v0] w2 (fun t11_3 w3 =>
 CallF Try.prog 23 #[(Value.slice none 0 0), t11_3] w3 (fun t12_4 w4 =>
 CallB Try.prog Builtin.len #[22] 3 #[false] #[v0] w4 (fun t14_5 w5 =>
 LoopE [4, 15] [t12_4, (Value.int IntKind.i64 0)] w5 (fun h6 w6 K6 =>
 DoV Try.prog (binS BinOp.lss 3 (Operand.tmp 15) (Operand.tmp 14) (h6 15) t14_5) w6 (fun t16_7 w7 =>
 Br t16_7
(DoV Try.prog (Instr.indexAt 22 v0 (h6 15)) w7 (fun t17_8 w8 =>
 DoV Try.prog (Instr.loadAt 3 t17_8) w8 (fun t18_9 w9 =>
 CallF Try.prog 23 #[(h6 4), t18_9] w9 (fun t21_10 w10 =>
 DoV Try.prog (binS BinOp.add 3 (Operand.tmp 15) (Operand.const (Value.int IntKind.i64 1)) (h6 15) (Value.int IntKind.i64 1)) w10 (fun t22_11 w11 =>
 K6 [t21_10, t22_11] w11) (Pan R)) (Pan R)) (Pan R)) (Pan R))
(R (.returned (Value.tuple #[(h6 4), (Value.int IntKind.i64 0)])) w7)) (Pan R))) (Pan R)) (Pan R)) (Pan R))) (Pan R)) (Pan R)
theorem sh_codec_Put_eq (v0 : Value) (R : Ending → World → Prop) (w : World) : vc Try.prog [] [4, 15] (Try.f10.body.getD .skip) (endE Try.prog Try.f10.results R) (argsE [v0]) [] w = sh_codec_Put v0 R w := by kernel_rfl
theorem sh_codec_Put_ok (v0 : Value) {R : Ending → World → Prop} {w : World} (h : sh_codec_Put v0 R w) : Calls Try.prog 10 #[v0] w R :=
  calls_of_vc (args := [v0]) [] [4, 15] follows_mixed Try.func10 rfl (of_decide_eq_true (by kernel_rfl)) (by kernel_rfl) ((sh_codec_Put_eq v0 R w).symm ▸ h)
/- landfall/landfallref08.Put -/
def sh_landfallref08_Put (v0 : Value) (R : Ending → World → Prop) (w : World) : Prop :=
 CallB Try.prog Builtin.len #[22] 3 #[false] #[v0] w (fun t7_1 w1 =>
 DoV Try.prog (binS BinOp.gtr 3 (Operand.tmp 7) (Operand.const (Value.int IntKind.i64 4000)) t7_1 (Value.int IntKind.i64 4000)) w1 (fun t8_2 w2 =>
 Br t8_2
(R (.returned (Value.tuple #[(Value.slice none 0 0), (Value.int IntKind.i64 2)])) w2)
(CallB Try.prog Builtin.len #[22] 3 #[false] #[v0] w2 (fun t10_3 w3 =>
 CallF Try.prog 24 #[t10_3] w3 (fun t11_4 w4 =>
 LoopE [4, 5] [t11_4, (Value.int IntKind.i64 0)] w4 (fun h5 w5 K5 =>
 CallB Try.prog Builtin.len #[22] 3 #[false] #[v0] w5 (fun t14_6 w6 =>
 DoV Try.prog (binS BinOp.lss 3 (Operand.tmp 12) (Operand.tmp 14) (h5 5) t14_6) w6 (fun t15_7 w7 =>
 Br t15_7
(DoV Try.prog (Instr.indexAt 22 v0 (h5 5)) w7 (fun t21_8 w8 =>
 DoV Try.prog (Instr.loadAt 3 t21_8) w8 (fun t22_9 w9 =>
 CallF Try.prog 24 #[t22_9] w9 (fun t23_10 w10 =>
 CallB Try.prog Builtin.append #[23, 23] 23 #[false, false] #[(h5 4), t23_10] w10 (fun t24_11 w11 =>
 DoV Try.prog (binS BinOp.add 3 (Operand.tmp 16) (Operand.const (Value.int IntKind.i64 1)) (h5 5) (Value.int IntKind.i64 1)) w11 (fun t17_12 w12 =>
 K5 [t24_11, t17_12] w12) (Pan R)) (Pan R)) (Pan R)) (Pan R)) (Pan R))
(R (.returned (Value.tuple #[(h5 4), (Value.int IntKind.i64 0)])) w7)) (Pan R)) (Pan R))) (Pan R)) (Pan R))) (Pan R)) (Pan R)
theorem sh_landfallref08_Put_eq (v0 : Value) (R : Ending → World → Prop) (w : World) : vc Try.prog [] [4, 5] (Try.f11.body.getD .skip) (endE Try.prog Try.f11.results R) (argsE [v0]) [] w = sh_landfallref08_Put v0 R w := by kernel_rfl
theorem sh_landfallref08_Put_ok (v0 : Value) {R : Ending → World → Prop} {w : World} (h : sh_landfallref08_Put v0 R w) : Calls Try.prog 11 #[v0] w R :=
  calls_of_vc (args := [v0]) [] [4, 5] follows_mixed Try.func11 rfl (of_decide_eq_true (by kernel_rfl)) (by kernel_rfl) ((sh_landfallref08_Put_eq v0 R w).symm ▸ h)
/- landfall/landfallref08.SameBytes -/
def sh_landfallref08_SameBytes (v0 v1 : Value) (R : Ending → World → Prop) (w : World) : Prop :=
 DoV Try.prog (convert 23 9 v0) w (fun t6_1 w1 =>
 DoV Try.prog (convert 23 9 v1) w1 (fun t8_2 w2 =>
 DoV Try.prog (binS BinOp.eql 9 (Operand.tmp 6) (Operand.tmp 8) t6_1 t8_2) w2 (fun t9_3 w3 =>
 R (.returned t9_3) w3) (Pan R)) (Pan R)) (Pan R)
theorem sh_landfallref08_SameBytes_eq (v0 v1 : Value) (R : Ending → World → Prop) (w : World) : vc Try.prog [] [] (Try.f12.body.getD .skip) (endE Try.prog Try.f12.results R) (argsE [v0, v1]) [] w = sh_landfallref08_SameBytes v0 v1 R w := by kernel_rfl
theorem sh_landfallref08_SameBytes_ok (v0 v1 : Value) {R : Ending → World → Prop} {w : World} (h : sh_landfallref08_SameBytes v0 v1 R w) : Calls Try.prog 12 #[v0, v1] w R :=
  calls_of_vc (args := [v0, v1]) [] [] follows_mixed Try.func12 rfl (of_decide_eq_true (by kernel_rfl)) (by kernel_rfl) ((sh_landfallref08_SameBytes_eq v0 v1 R w).symm ▸ h)
/- landfall/codec.Frame -/
def sh_codec_Frame (v0 : Value) (R : Ending → World → Prop) (w : World) : Prop :=
 CallF Try.prog 10 #[v0] w (fun t10_1 w1 =>
 DoV Try.prog (Instr.extract t10_1 0) w1 (fun t11_2 w2 =>
 DoV Try.prog (Instr.extract t10_1 1) w2 (fun t12_3 w3 =>
 DoV Try.prog (binS BinOp.neq 25 (Operand.tmp 13) (Operand.const (Value.int IntKind.i64 0)) t12_3 (Value.int IntKind.i64 0)) w3 (fun t14_4 w4 =>
 Br t14_4
(R (.returned (Value.tuple #[(Value.slice none 0 0), t12_3])) w4)
(CallB Try.prog Builtin.len #[23] 3 #[false] #[t11_2] w4 (fun t17_5 w5 =>
 DoV Try.prog (binS BinOp.shr 3 (Operand.tmp 18) (Operand.const (Value.int IntKind.u64 16)) t17_5 (Value.int IntKind.u64 16)) w5 (fun t19_6 w6 =>
 DoV Try.prog (convert 3 5 t19_6) w6 (fun t20_7 w7 =>
 DoV Try.prog (binS BinOp.shr 3 (Operand.tmp 21) (Operand.const (Value.int IntKind.u64 8)) t17_5 (Value.int IntKind.u64 8)) w7 (fun t22_8 w8 =>
 DoV Try.prog (convert 3 5 t22_8) w8 (fun t23_9 w9 =>
 DoV Try.prog (convert 3 5 t17_5) w9 (fun t25_10 w10 =>
 DoV Try.prog (Instr.buildSlice 23 3 #[(0, t20_7), (1, t23_9), (2, t25_10)]) w10 (fun t26_11 w11 =>
 CallB Try.prog Builtin.append #[23, 23] 23 #[false, false] #[t26_11, t11_2] w11 (fun t28_12 w12 =>
 CallF Try.prog 25 #[t28_12] w12 (fun t30_13 w13 =>
 DoV Try.prog (Instr.alloc 48 true (.tuple #[])) w13 (fun t7_14 w14 =>
 DoU Try.prog (Instr.storeAt 48 t7_14 t30_13) w14 (fun _ w15 =>
 DoV Try.prog (Instr.sliceAt 48 t7_14 none none none) w15 (fun t32_16 w16 =>
 CallB Try.prog Builtin.append #[23, 23] 23 #[false, false] #[t28_12, t32_16] w16 (fun t33_17 w17 =>
 R (.returned (Value.tuple #[t33_17, (Value.int IntKind.i64 0)])) w17) (Pan R)) (Pan R)) (Pan R)) (Pan R)) (Pan R)) (Pan R)) (Pan R)) (Pan R)) (Pan R)) (Pan R)) (Pan R)) (Pan R)) (Pan R))) (Pan R)) (Pan R)) (Pan R)) (Pan R)
theorem sh_codec_Frame_eq (v0 : Value) (R : Ending → World → Prop) (w : World) : vc Try.prog [] [] (Try.f13.body.getD .skip) (endE Try.prog Try.f13.results R) (argsE [v0]) [] w = sh_codec_Frame v0 R w := by kernel_rfl
theorem sh_codec_Frame_ok (v0 : Value) {R : Ending → World → Prop} {w : World} (h : sh_codec_Frame v0 R w) : Calls Try.prog 13 #[v0] w R :=
  calls_of_vc (args := [v0]) [] [] follows_mixed Try.func13 rfl (of_decide_eq_true (by kernel_rfl)) (by kernel_rfl) ((sh_codec_Frame_eq v0 R w).symm ▸ h)
/- landfall/landfallref08.Frame -/
def sh_landfallref08_Frame (v0 : Value) (R : Ending → World → Prop) (w : World) : Prop :=
 CallF Try.prog 11 #[v0] w (fun t9_1 w1 =>
 DoV Try.prog (Instr.extract t9_1 0) w1 (fun t10_2 w2 =>
 DoV Try.prog (Instr.extract t9_1 1) w2 (fun t11_3 w3 =>
 DoV Try.prog (binS BinOp.neq 25 (Operand.tmp 12) (Operand.const (Value.int IntKind.i64 0)) t11_3 (Value.int IntKind.i64 0)) w3 (fun t13_4 w4 =>
 Br t13_4
(R (.returned (Value.tuple #[(Value.slice none 0 0), t11_3])) w4)
(CallB Try.prog Builtin.len #[23] 3 #[false] #[t10_2] w4 (fun t16_5 w5 =>
 DoV Try.prog (binS BinOp.quo 3 (Operand.tmp 16) (Operand.const (Value.int IntKind.i64 65536)) t16_5 (Value.int IntKind.i64 65536)) w5 (fun t17_6 w6 =>
 DoV Try.prog (convert 3 5 t17_6) w6 (fun t18_7 w7 =>
 CallB Try.prog Builtin.len #[23] 3 #[false] #[t10_2] w7 (fun t20_8 w8 =>
 DoV Try.prog (binS BinOp.quo 3 (Operand.tmp 20) (Operand.const (Value.int IntKind.i64 256)) t20_8 (Value.int IntKind.i64 256)) w8 (fun t21_9 w9 =>
 DoV Try.prog (binS BinOp.rem 3 (Operand.tmp 21) (Operand.const (Value.int IntKind.i64 256)) t21_9 (Value.int IntKind.i64 256)) w9 (fun t22_10 w10 =>
 DoV Try.prog (convert 3 5 t22_10) w10 (fun t23_11 w11 =>
 CallB Try.prog Builtin.len #[23] 3 #[false] #[t10_2] w11 (fun t25_12 w12 =>
 DoV Try.prog (binS BinOp.rem 3 (Operand.tmp 25) (Operand.const (Value.int IntKind.i64 256)) t25_12 (Value.int IntKind.i64 256)) w12 (fun t26_13 w13 =>
 DoV Try.prog (convert 3 5 t26_13) w13 (fun t27_14 w14 =>
 DoV Try.prog (Instr.buildSlice 23 3 #[(0, t18_7), (1, t23_11), (2, t27_14)]) w14 (fun t28_15 w15 =>
 CallB Try.prog Builtin.append #[23, 23] 23 #[false, false] #[t28_15, t10_2] w15 (fun t31_16 w16 =>
 DoV Try.prog (convert 23 9 t31_16) w16 (fun t34_17 w17 =>
 CallF Try.prog 27 #[t34_17] w17 (fun t35_18 w18 =>
 CallF Try.prog 26 #[t35_18] w18 (fun t36_19 w19 =>
 CallB Try.prog Builtin.append #[23, 23] 23 #[false, false] #[t31_16, t36_19] w19 (fun t37_20 w20 =>
 R (.returned (Value.tuple #[t37_20, (Value.int IntKind.i64 0)])) w20) (Pan R)) (Pan R)) (Pan R)) (Pan R)) (Pan R)) (Pan R)) (Pan R)) (Pan R)) (Pan R)) (Pan R)) (Pan R)) (Pan R)) (Pan R)) (Pan R)) (Pan R)) (Pan R))) (Pan R)) (Pan R)) (Pan R)) (Pan R)
theorem sh_landfallref08_Frame_eq (v0 : Value) (R : Ending → World → Prop) (w : World) : vc Try.prog [] [] (Try.f14.body.getD .skip) (endE Try.prog Try.f14.results R) (argsE [v0]) [] w = sh_landfallref08_Frame v0 R w := by kernel_rfl
theorem sh_landfallref08_Frame_ok (v0 : Value) {R : Ending → World → Prop} {w : World} (h : sh_landfallref08_Frame v0 R w) : Calls Try.prog 14 #[v0] w R :=
  calls_of_vc (args := [v0]) [] [] follows_mixed Try.func14 rfl (of_decide_eq_true (by kernel_rfl)) (by kernel_rfl) ((sh_landfallref08_Frame_eq v0 R w).symm ▸ h)
/- landfall/codec.Get -/
def sh_codec_Get (v0 : Value) (R : Ending → World → Prop) (w : World) : Prop :=
 DoV Try.prog (Instr.alloc 22 true (.tuple #[])) w (fun t2_1 w1 =>
 DoV Try.prog (Instr.alloc 25 true (.tuple #[])) w1 (fun t3_2 w2 =>
 DoV Try.prog (Instr.build 57 #[(0, v0)]) w2 (fun t7_3 w3 =>
 DoV Try.prog (Instr.alloc 57 true (.tuple #[])) w3 (fun t4_4 w4 =>
 DoU Try.prog (Instr.storeAt 57 t4_4 t7_3) w4 (fun _ w5 =>
 CallF Try.prog 29 #[t4_4] w5 (fun t8_6 w6 =>
 JoinE [] (fun K7 =>
 JoinE [14] (fun K8 =>
 DoV Try.prog (binS BinOp.lss 3 (Operand.tmp 9) (Operand.const (Value.int IntKind.i64 0)) t8_6 (Value.int IntKind.i64 0)) w6 (fun t10_9 w9 =>
 Gd t10_9 false (DoV Try.prog (binS BinOp.gtr 3 (Operand.tmp 12) (Operand.const (Value.int IntKind.i64 4000)) t8_6 (Value.int IntKind.i64 4000)) w9 (fun t13_10 w10 =>
 K8 [t13_10] w10) (PanD Try.prog Try.f15 [(2, t2_1), (3, t3_2)] R [{ target := .fn (.func 28) #[], args := #[t2_1, t3_2] }]))
(K8 [(Value.bool true)] w9)) (PanD Try.prog Try.f15 [(2, t2_1), (3, t3_2)] R [{ target := .fn (.func 28) #[], args := #[t2_1, t3_2] }]))
(fun h11 w11 =>
 Br (h11 14)
(DoU Try.prog (Instr.storeAt 22 t2_1 (Value.slice none 0 0)) w11 (fun _ w12 =>
 DoU Try.prog (Instr.storeAt 25 t3_2 (Value.int IntKind.i64 7)) w12 (fun _ w13 =>
 LeavesE Try.prog Try.f15 [(2, t2_1), (3, t3_2)] R [{ target := .fn (.func 28) #[], args := #[t2_1, t3_2] }] .returning w13) (PanD Try.prog Try.f15 [(2, t2_1), (3, t3_2)] R [{ target := .fn (.func 28) #[], args := #[t2_1, t3_2] }])) (PanD Try.prog Try.f15 [(2, t2_1), (3, t3_2)] R [{ target := .fn (.func 28) #[], args := #[t2_1, t3_2] }]))
(K7 [] w11)))
(fun _ w14 =>
 LoopE [16] [(Value.int IntKind.i64 0)] w14 (fun h15 w15 K15 =>
 DoV Try.prog (binS BinOp.lss 3 (Operand.tmp 16) (Operand.tmp 15) (h15 16) t8_6) w15 (fun t17_16 w16 =>
 Br t17_16
(DrawE w16 (fun Rs17 Rb17 w17 =>
 DetOp Rb17 Rs17 w17 (fun w18 K18 => DoV Try.prog (Instr.loadAt 22 t2_1) w18 K18 (PanD Try.prog Try.f15 [(2, t2_1), (3, t3_2)] R [{ target := .fn (.func 28) #[], args := #[t2_1, t3_2] }])) (fun c18_18 ψ18 =>
 DetOp Rs17 Rb17 w17 (fun w19 K19 => CallF Try.prog 29 #[t4_4] w19 K19 (PanD Try.prog Try.f15 [(2, t2_1), (3, t3_2)] R [{ target := .fn (.func 28) #[], args := #[t2_1, t3_2] }])) (fun c19_19 ψ19 =>
 NdOp Rb17 Rs17 w17 (fun w20 K20 => DoV Try.prog (Instr.buildSlice 22 1 #[(0, c19_19)]) w20 K20 (PanD Try.prog Try.f15 [(2, t2_1), (3, t3_2)] R [{ target := .fn (.func 28) #[], args := #[t2_1, t3_2] }])) (fun v20_20 φ20 =>
 ∀ w21, Rb17 w17 w21 → ((True ∧ ψ18 w21) ∧ ψ19 w21) ∧ φ20 w21 →
 CallB Try.prog Builtin.append #[22, 22] 22 #[false, false] #[c18_18, v20_20] w21 (fun t21_22 w22 =>
 DoU Try.prog (Instr.storeAt 22 t2_1 t21_22) w22 (fun _ w23 =>
 DoV Try.prog (binS BinOp.add 3 (Operand.tmp 16) (Operand.const (Value.int IntKind.i64 1)) (h15 16) (Value.int IntKind.i64 1)) w23 (fun t22_24 w24 =>
 K15 [t22_24] w24) (PanD Try.prog Try.f15 [(2, t2_1), (3, t3_2)] R [{ target := .fn (.func 28) #[], args := #[t2_1, t3_2] }])) (PanD Try.prog Try.f15 [(2, t2_1), (3, t3_2)] R [{ target := .fn (.func 28) #[], args := #[t2_1, t3_2] }])) (PanD Try.prog Try.f15 [(2, t2_1), (3, t3_2)] R [{ target := .fn (.func 28) #[], args := #[t2_1, t3_2] }]))))))
(DoV Try.prog (Instr.fieldAt 57 t4_4 0) w16 (fun t23_25 w25 =>
 DoV Try.prog (Instr.loadAt 23 t23_25) w25 (fun t24_26 w26 =>
 CallB Try.prog Builtin.len #[23] 3 #[false] #[t24_26] w26 (fun t25_27 w27 =>
 DoV Try.prog (binS BinOp.gtr 3 (Operand.tmp 25) (Operand.const (Value.int IntKind.i64 0)) t25_27 (Value.int IntKind.i64 0)) w27 (fun t26_28 w28 =>
 Br t26_28
(DoU Try.prog (Instr.storeAt 22 t2_1 (Value.slice none 0 0)) w28 (fun _ w29 =>
 DoU Try.prog (Instr.storeAt 25 t3_2 (Value.int IntKind.i64 7)) w29 (fun _ w30 =>
 LeavesE Try.prog Try.f15 [(2, t2_1), (3, t3_2)] R [{ target := .fn (.func 28) #[], args := #[t2_1, t3_2] }] .returning w30) (PanD Try.prog Try.f15 [(2, t2_1), (3, t3_2)] R [{ target := .fn (.func 28) #[], args := #[t2_1, t3_2] }])) (PanD Try.prog Try.f15 [(2, t2_1), (3, t3_2)] R [{ target := .fn (.func 28) #[], args := #[t2_1, t3_2] }]))
(DoV Try.prog (Instr.loadAt 22 t2_1) w28 (fun t27_31 w31 =>
 DoU Try.prog (Instr.storeAt 22 t2_1 t27_31) w31 (fun _ w32 =>
 DoU Try.prog (Instr.storeAt 25 t3_2 (Value.int IntKind.i64 0)) w32 (fun _ w33 =>
 LeavesE Try.prog Try.f15 [(2, t2_1), (3, t3_2)] R [{ target := .fn (.func 28) #[], args := #[t2_1, t3_2] }] .returning w33) (PanD Try.prog Try.f15 [(2, t2_1), (3, t3_2)] R [{ target := .fn (.func 28) #[], args := #[t2_1, t3_2] }])) (PanD Try.prog Try.f15 [(2, t2_1), (3, t3_2)] R [{ target := .fn (.func 28) #[], args := #[t2_1, t3_2] }])) (PanD Try.prog Try.f15 [(2, t2_1), (3, t3_2)] R [{ target := .fn (.func 28) #[], args := #[t2_1, t3_2] }]))) (PanD Try.prog Try.f15 [(2, t2_1), (3, t3_2)] R [{ target := .fn (.func 28) #[], args := #[t2_1, t3_2] }])) (PanD Try.prog Try.f15 [(2, t2_1), (3, t3_2)] R [{ target := .fn (.func 28) #[], args := #[t2_1, t3_2] }])) (PanD Try.prog Try.f15 [(2, t2_1), (3, t3_2)] R [{ target := .fn (.func 28) #[], args := #[t2_1, t3_2] }])) (PanD Try.prog Try.f15 [(2, t2_1), (3, t3_2)] R [{ target := .fn (.func 28) #[], args := #[t2_1, t3_2] }]))) (PanD Try.prog Try.f15 [(2, t2_1), (3, t3_2)] R [{ target := .fn (.func 28) #[], args := #[t2_1, t3_2] }])))) (PanD Try.prog Try.f15 [(2, t2_1), (3, t3_2)] R [{ target := .fn (.func 28) #[], args := #[t2_1, t3_2] }])) (PanD Try.prog Try.f15 [(2, t2_1), (3, t3_2)] R [{ target := .fn (.func 28) #[], args := #[t2_1, t3_2] }])) (PanD Try.prog Try.f15 [(2, t2_1), (3, t3_2)] R [{ target := .fn (.func 28) #[], args := #[t2_1, t3_2] }])) (PanD Try.prog Try.f15 [(2, t2_1), (3, t3_2)] R [{ target := .fn (.func 28) #[], args := #[t2_1, t3_2] }])) (PanD Try.prog Try.f15 [(2, t2_1), (3, undef)] R [])) (PanD Try.prog Try.f15 [(2, undef), (3, undef)] R [])
theorem sh_codec_Get_eq (v0 : Value) (R : Ending → World → Prop) (w : World) : vc Try.prog [(8, 2, true, 2)] [16] (Try.f15.body.getD .skip) (endD Try.prog Try.f15 R) (argsE [v0]) [] w = sh_codec_Get v0 R w := by kernel_rfl
theorem sh_codec_Get_ok (v0 : Value) {R : Ending → World → Prop} {w : World} (h : sh_codec_Get v0 R w) : Calls Try.prog 15 #[v0] w R :=
  calls_of_vcD (args := [v0]) [(8, 2, true, 2)] [16] follows_mixed Try.func15 rfl (of_decide_eq_true (by kernel_rfl)) (by kernel_rfl) ((sh_codec_Get_eq v0 R w).symm ▸ h)
/- landfall/landfallref08.Get -/
def sh_landfallref08_Get (v0 : Value) (R : Ending → World → Prop) (w : World) : Prop :=
 CallF Try.prog 30 #[v0] w (fun t12_1 w1 =>
 DoV Try.prog (Instr.extract t12_1 0) w1 (fun t13_2 w2 =>
 DoV Try.prog (Instr.extract t12_1 1) w2 (fun t14_3 w3 =>
 JoinE [] (fun K4 =>
 JoinE [24] (fun K5 =>
 DoV Try.prog (binS BinOp.eql 3 (Operand.tmp 15) (Operand.const (Value.int IntKind.i64 0)) t14_3 (Value.int IntKind.i64 0)) w3 (fun t16_6 w6 =>
 Gd t16_6 false (DoV Try.prog (binS BinOp.lss 3 (Operand.tmp 18) (Operand.const (Value.int IntKind.i64 0)) t13_2 (Value.int IntKind.i64 0)) w6 (fun t19_7 w7 =>
 Gd t19_7 false (DoV Try.prog (binS BinOp.gtr 3 (Operand.tmp 22) (Operand.const (Value.int IntKind.i64 4000)) t13_2 (Value.int IntKind.i64 4000)) w7 (fun t23_8 w8 =>
 K5 [t23_8] w8) (Pan R))
(K5 [(Value.bool true)] w7)) (Pan R))
(K5 [(Value.bool true)] w6)) (Pan R))
(fun h9 w9 =>
 Br (h9 24)
(R (.returned (Value.tuple #[(Value.slice none 0 0), (Value.int IntKind.i64 7)])) w9)
(K4 [] w9)))
(fun _ w10 =>
 LoopE [5, 6, 7] [t14_3, (Value.slice none 0 0), (Value.int IntKind.i64 0)] w10 (fun h11 w11 K11 =>
 DoV Try.prog (binS BinOp.lss 3 (Operand.tmp 25) (Operand.tmp 26) (h11 7) t13_2) w11 (fun t27_12 w12 =>
 Br t27_12
(DoV Try.prog (Instr.sliceAt 23 v0 (some (h11 5)) none none) w12 (fun t33_13 w13 =>
 CallF Try.prog 30 #[t33_13] w13 (fun t34_14 w14 =>
 DoV Try.prog (Instr.extract t34_14 0) w14 (fun t35_15 w15 =>
 DoV Try.prog (Instr.extract t34_14 1) w15 (fun t36_16 w16 =>
 DoV Try.prog (binS BinOp.eql 3 (Operand.tmp 37) (Operand.const (Value.int IntKind.i64 0)) t36_16 (Value.int IntKind.i64 0)) w16 (fun t38_17 w17 =>
 Br t38_17
(R (.returned (Value.tuple #[(Value.slice none 0 0), (Value.int IntKind.i64 7)])) w17)
(DoV Try.prog (Instr.buildSlice 22 1 #[(0, t35_15)]) w17 (fun t41_18 w18 =>
 CallB Try.prog Builtin.append #[22, 22] 22 #[false, false] #[(h11 6), t41_18] w18 (fun t42_19 w19 =>
 DoV Try.prog (binS BinOp.add 3 (Operand.tmp 43) (Operand.tmp 44) (h11 5) t36_16) w19 (fun t45_20 w20 =>
 DoV Try.prog (binS BinOp.add 3 (Operand.tmp 28) (Operand.const (Value.int IntKind.i64 1)) (h11 7) (Value.int IntKind.i64 1)) w20 (fun t29_21 w21 =>
 K11 [t45_20, t42_19, t29_21] w21) (Pan R)) (Pan R)) (Pan R)) (Pan R))) (Pan R)) (Pan R)) (Pan R)) (Pan R)) (Pan R))
(CallB Try.prog Builtin.len #[23] 3 #[false] #[v0] w12 (fun t48_22 w22 =>
 DoV Try.prog (binS BinOp.neq 3 (Operand.tmp 46) (Operand.tmp 48) (h11 5) t48_22) w22 (fun t49_23 w23 =>
 Br t49_23
(R (.returned (Value.tuple #[(Value.slice none 0 0), (Value.int IntKind.i64 7)])) w23)
(R (.returned (Value.tuple #[(h11 6), (Value.int IntKind.i64 0)])) w23)) (Pan R)) (Pan R))) (Pan R)))) (Pan R)) (Pan R)) (Pan R)
theorem sh_landfallref08_Get_eq (v0 : Value) (R : Ending → World → Prop) (w : World) : vc Try.prog [] [5, 6, 7] (Try.f16.body.getD .skip) (endE Try.prog Try.f16.results R) (argsE [v0]) [] w = sh_landfallref08_Get v0 R w := by kernel_rfl
theorem sh_landfallref08_Get_ok (v0 : Value) {R : Ending → World → Prop} {w : World} (h : sh_landfallref08_Get v0 R w) : Calls Try.prog 16 #[v0] w R :=
  calls_of_vc (args := [v0]) [] [5, 6, 7] follows_mixed Try.func16 rfl (of_decide_eq_true (by kernel_rfl)) (by kernel_rfl) ((sh_landfallref08_Get_eq v0 R w).symm ▸ h)
/- landfall/landfallref08.SameInts -/
def sh_landfallref08_SameInts (v0 v1 : Value) (R : Ending → World → Prop) (w : World) : Prop :=
 CallB Try.prog Builtin.len #[22] 3 #[false] #[v0] w (fun t7_1 w1 =>
 CallB Try.prog Builtin.len #[22] 3 #[false] #[v1] w1 (fun t9_2 w2 =>
 DoV Try.prog (binS BinOp.neq 3 (Operand.tmp 7) (Operand.tmp 9) t7_1 t9_2) w2 (fun t10_3 w3 =>
 Br t10_3
(R (.returned (Value.bool false)) w3)
(LoopE [5] [(Value.int IntKind.i64 0)] w3 (fun h4 w4 K4 =>
 CallB Try.prog Builtin.len #[22] 3 #[false] #[v0] w4 (fun t13_5 w5 =>
 DoV Try.prog (binS BinOp.lss 3 (Operand.tmp 11) (Operand.tmp 13) (h4 5) t13_5) w5 (fun t14_6 w6 =>
 Br t14_6
(DrawE w6 (fun Rs7 Rb7 w7 =>
 DetOp Rb7 Rs7 w7 (fun w8 K8 => DoV Try.prog (Instr.indexAt 22 v0 (h4 5)) w8 K8 (Pan R)) (fun c19_8 ψ8 =>
 DetOp Rb7 Rs7 w7 (fun w9 K9 => DoV Try.prog (Instr.loadAt 3 c19_8) w9 K9 (Pan R)) (fun c20_9 ψ9 =>
 DetOp Rb7 Rs7 w7 (fun w10 K10 => DoV Try.prog (Instr.indexAt 22 v1 (h4 5)) w10 K10 (Pan R)) (fun c23_10 ψ10 =>
 DetOp Rb7 Rs7 w7 (fun w11 K11 => DoV Try.prog (Instr.loadAt 3 c23_10) w11 K11 (Pan R)) (fun c24_11 ψ11 =>
 ∀ w12, Rb7 w7 w12 → ((((True ∧ ψ8 w12) ∧ ψ9 w12) ∧ ψ10 w12) ∧ ψ11 w12) →
 DoV Try.prog (binS BinOp.neq 3 (Operand.tmp 20) (Operand.tmp 24) c20_9 c24_11) w12 (fun t25_13 w13 =>
 Br t25_13
(R (.returned (Value.bool false)) w13)
(DoV Try.prog (binS BinOp.add 3 (Operand.tmp 15) (Operand.const (Value.int IntKind.i64 1)) (h4 5) (Value.int IntKind.i64 1)) w13 (fun t16_14 w14 =>
 K4 [t16_14] w14) (Pan R))) (Pan R)))))))
(R (.returned (Value.bool true)) w6)) (Pan R)) (Pan R)))) (Pan R)) (Pan R)) (Pan R)
theorem sh_landfallref08_SameInts_eq (v0 v1 : Value) (R : Ending → World → Prop) (w : World) : vc Try.prog [(6, 8, false, 0)] [5] (Try.f17.body.getD .skip) (endE Try.prog Try.f17.results R) (argsE [v0, v1]) [] w = sh_landfallref08_SameInts v0 v1 R w := by kernel_rfl
theorem sh_landfallref08_SameInts_ok (v0 v1 : Value) {R : Ending → World → Prop} {w : World} (h : sh_landfallref08_SameInts v0 v1 R w) : Calls Try.prog 17 #[v0, v1] w R :=
  calls_of_vc (args := [v0, v1]) [(6, 8, false, 0)] [5] follows_mixed Try.func17 rfl (of_decide_eq_true (by kernel_rfl)) (by kernel_rfl) ((sh_landfallref08_SameInts_eq v0 v1 R w).symm ▸ h)
/- landfall/codec.Frames -/
def sh_codec_Frames (v0 : Value) (R : Ending → World → Prop) (w : World) : Prop :=
 CallB Try.prog Builtin.len #[23] 3 #[false] #[v0] w (fun t10_1 w1 =>
 DoV Try.prog (binS BinOp.gtr 3 (Operand.tmp 10) (Operand.const (Value.int IntKind.i64 200000)) t10_1 (Value.int IntKind.i64 200000)) w1 (fun t11_2 w2 =>
 Br t11_2
(R (.returned (Value.tuple #[(Value.slice none 0 0), (Value.int IntKind.i64 0), (Value.int IntKind.i64 2)])) w2)
(LoopE [5, 6] [(Value.slice none 0 0), (Value.int IntKind.i64 0)] w2 (fun h3 w3 K3 =>
 DoV Try.prog (Instr.sliceAt 23 v0 (some (h3 6)) none none) w3 (fun t15_4 w4 =>
 CallF Try.prog 31 #[t15_4] w4 (fun t16_5 w5 =>
 DoV Try.prog (Instr.extract t16_5 0) w5 (fun t17_6 w6 =>
 DoV Try.prog (Instr.extract t16_5 1) w6 (fun t18_7 w7 =>
 DoV Try.prog (binS BinOp.eql 3 (Operand.tmp 19) (Operand.const (Value.int IntKind.i64 0)) t18_7 (Value.int IntKind.i64 0)) w7 (fun t20_8 w8 =>
 Br t20_8
(R (.returned (Value.tuple #[(h3 5), (h3 6), (Value.int IntKind.i64 0)])) w8)
(DoV Try.prog (Instr.buildSlice 32 1 #[(0, t17_6)]) w8 (fun t25_9 w9 =>
 CallB Try.prog Builtin.append #[32, 32] 32 #[false, false] #[(h3 5), t25_9] w9 (fun t26_10 w10 =>
 DoV Try.prog (binS BinOp.add 3 (Operand.tmp 27) (Operand.tmp 28) (h3 6) t18_7) w10 (fun t29_11 w11 =>
 K3 [t26_10, t29_11] w11) (Pan R)) (Pan R)) (Pan R))) (Pan R)) (Pan R)) (Pan R)) (Pan R)) (Pan R)))) (Pan R)) (Pan R)
theorem sh_codec_Frames_eq (v0 : Value) (R : Ending → World → Prop) (w : World) : vc Try.prog [] [5, 6] (Try.f18.body.getD .skip) (endE Try.prog Try.f18.results R) (argsE [v0]) [] w = sh_codec_Frames v0 R w := by kernel_rfl
theorem sh_codec_Frames_ok (v0 : Value) {R : Ending → World → Prop} {w : World} (h : sh_codec_Frames v0 R w) : Calls Try.prog 18 #[v0] w R :=
  calls_of_vc (args := [v0]) [] [5, 6] follows_mixed Try.func18 rfl (of_decide_eq_true (by kernel_rfl)) (by kernel_rfl) ((sh_codec_Frames_eq v0 R w).symm ▸ h)
/- landfall/landfallref08.Frames -/
def sh_landfallref08_Frames (v0 : Value) (R : Ending → World → Prop) (w : World) : Prop :=
 CallB Try.prog Builtin.len #[23] 3 #[false] #[v0] w (fun t10_1 w1 =>
 DoV Try.prog (binS BinOp.gtr 3 (Operand.tmp 10) (Operand.const (Value.int IntKind.i64 200000)) t10_1 (Value.int IntKind.i64 200000)) w1 (fun t11_2 w2 =>
 Br t11_2
(R (.returned (Value.tuple #[(Value.slice none 0 0), (Value.int IntKind.i64 0), (Value.int IntKind.i64 2)])) w2)
(LoopE [5, 6] [(Value.slice none 0 0), (Value.int IntKind.i64 0)] w2 (fun h3 w3 K3 =>
 DoV Try.prog (Instr.sliceAt 23 v0 (some (h3 6)) none none) w3 (fun t15_4 w4 =>
 CallF Try.prog 32 #[t15_4] w4 (fun t16_5 w5 =>
 DoV Try.prog (Instr.extract t16_5 0) w5 (fun t17_6 w6 =>
 DoV Try.prog (Instr.extract t16_5 1) w6 (fun t18_7 w7 =>
 DoV Try.prog (binS BinOp.eql 3 (Operand.tmp 19) (Operand.const (Value.int IntKind.i64 0)) t18_7 (Value.int IntKind.i64 0)) w7 (fun t20_8 w8 =>
 Br t20_8
(R (.returned (Value.tuple #[(h3 5), (h3 6), (Value.int IntKind.i64 0)])) w8)
(DoV Try.prog (Instr.buildSlice 32 1 #[(0, t17_6)]) w8 (fun t25_9 w9 =>
 CallB Try.prog Builtin.append #[32, 32] 32 #[false, false] #[(h3 5), t25_9] w9 (fun t26_10 w10 =>
 DoV Try.prog (binS BinOp.add 3 (Operand.tmp 27) (Operand.tmp 28) (h3 6) t18_7) w10 (fun t29_11 w11 =>
 K3 [t26_10, t29_11] w11) (Pan R)) (Pan R)) (Pan R))) (Pan R)) (Pan R)) (Pan R)) (Pan R)) (Pan R)))) (Pan R)) (Pan R)
theorem sh_landfallref08_Frames_eq (v0 : Value) (R : Ending → World → Prop) (w : World) : vc Try.prog [] [5, 6] (Try.f19.body.getD .skip) (endE Try.prog Try.f19.results R) (argsE [v0]) [] w = sh_landfallref08_Frames v0 R w := by kernel_rfl
theorem sh_landfallref08_Frames_ok (v0 : Value) {R : Ending → World → Prop} {w : World} (h : sh_landfallref08_Frames v0 R w) : Calls Try.prog 19 #[v0] w R :=
  calls_of_vc (args := [v0]) [] [5, 6] follows_mixed Try.func19 rfl (of_decide_eq_true (by kernel_rfl)) (by kernel_rfl) ((sh_landfallref08_Frames_eq v0 R w).symm ▸ h)
/- landfall/landfallref08.SameLists -/
def sh_landfallref08_SameLists (v0 v1 : Value) (R : Ending → World → Prop) (w : World) : Prop :=
 CallB Try.prog Builtin.len #[32] 3 #[false] #[v0] w (fun t8_1 w1 =>
 CallB Try.prog Builtin.len #[32] 3 #[false] #[v1] w1 (fun t10_2 w2 =>
 DoV Try.prog (binS BinOp.neq 3 (Operand.tmp 8) (Operand.tmp 10) t8_1 t10_2) w2 (fun t11_3 w3 =>
 Br t11_3
(R (.returned (Value.bool false)) w3)
(LoopE [5] [(Value.int IntKind.i64 0)] w3 (fun h4 w4 K4 =>
 CallB Try.prog Builtin.len #[32] 3 #[false] #[v0] w4 (fun t14_5 w5 =>
 DoV Try.prog (binS BinOp.lss 3 (Operand.tmp 12) (Operand.tmp 14) (h4 5) t14_5) w5 (fun t15_6 w6 =>
 Br t15_6
(DrawE w6 (fun Rs7 Rb7 w7 =>
 DetOp Rb7 Rs7 w7 (fun w8 K8 => DoV Try.prog (Instr.indexAt 32 v0 (h4 5)) w8 K8 (Pan R)) (fun c20_8 ψ8 =>
 DetOp Rb7 Rs7 w7 (fun w9 K9 => DoV Try.prog (Instr.loadAt 22 c20_8) w9 K9 (Pan R)) (fun c21_9 ψ9 =>
 DetOp Rb7 Rs7 w7 (fun w10 K10 => DoV Try.prog (Instr.indexAt 32 v1 (h4 5)) w10 K10 (Pan R)) (fun c24_10 ψ10 =>
 DetOp Rb7 Rs7 w7 (fun w11 K11 => DoV Try.prog (Instr.loadAt 22 c24_10) w11 K11 (Pan R)) (fun c25_11 ψ11 =>
 ∀ w12, Rb7 w7 w12 → ((((True ∧ ψ8 w12) ∧ ψ9 w12) ∧ ψ10 w12) ∧ ψ11 w12) →
 CallF Try.prog 17 #[c21_9, c25_11] w12 (fun t26_13 w13 =>
 DoV Try.prog (Op.unary UnOp.not t26_13) w13 (fun t28_14 w14 =>
 Br t28_14
(R (.returned (Value.bool false)) w14)
(DoV Try.prog (binS BinOp.add 3 (Operand.tmp 16) (Operand.const (Value.int IntKind.i64 1)) (h4 5) (Value.int IntKind.i64 1)) w14 (fun t17_15 w15 =>
 K4 [t17_15] w15) (Pan R))) (Pan R)) (Pan R)))))))
(R (.returned (Value.bool true)) w6)) (Pan R)) (Pan R)))) (Pan R)) (Pan R)) (Pan R)
theorem sh_landfallref08_SameLists_eq (v0 v1 : Value) (R : Ending → World → Prop) (w : World) : vc Try.prog [(6, 8, false, 0)] [5] (Try.f20.body.getD .skip) (endE Try.prog Try.f20.results R) (argsE [v0, v1]) [] w = sh_landfallref08_SameLists v0 v1 R w := by kernel_rfl
theorem sh_landfallref08_SameLists_ok (v0 v1 : Value) {R : Ending → World → Prop} {w : World} (h : sh_landfallref08_SameLists v0 v1 R w) : Calls Try.prog 20 #[v0, v1] w R :=
  calls_of_vc (args := [v0, v1]) [(6, 8, false, 0)] [5] follows_mixed Try.func20 rfl (of_decide_eq_true (by kernel_rfl)) (by kernel_rfl) ((sh_landfallref08_SameLists_eq v0 v1 R w).symm ▸ h)
/- landfall/landfalllaw08.small -/
def sh_landfalllaw08_small (v0 : Value) (R : Ending → World → Prop) (w : World) : Prop :=
 LoopE [3] [(Value.int IntKind.i64 0)] w (fun h1 w1 K1 =>
 JoinE [] (fun K2 =>
 CallB Try.prog Builtin.len #[32] 3 #[false] #[v0] w1 (fun t6_3 w3 =>
 DoV Try.prog (binS BinOp.lss 3 (Operand.tmp 4) (Operand.tmp 6) (h1 3) t6_3) w3 (fun t7_4 w4 =>
 Gd t7_4 true (DoV Try.prog (binS BinOp.lss 3 (Operand.tmp 9) (Operand.const (Value.int IntKind.i64 20)) (h1 3) (Value.int IntKind.i64 20)) w4 (fun t10_5 w5 =>
 Br t10_5
(K2 [] w5)
(CallB Try.prog Builtin.len #[32] 3 #[false] #[v0] w5 (fun t21_6 w6 =>
 DoV Try.prog (binS BinOp.leq 3 (Operand.tmp 21) (Operand.const (Value.int IntKind.i64 10)) t21_6 (Value.int IntKind.i64 10)) w6 (fun t22_7 w7 =>
 R (.returned t22_7) w7) (Pan R)) (Pan R))) (Pan R))
(CallB Try.prog Builtin.len #[32] 3 #[false] #[v0] w4 (fun t21_8 w8 =>
 DoV Try.prog (binS BinOp.leq 3 (Operand.tmp 21) (Operand.const (Value.int IntKind.i64 10)) t21_8 (Value.int IntKind.i64 10)) w8 (fun t22_9 w9 =>
 R (.returned t22_9) w9) (Pan R)) (Pan R))) (Pan R)) (Pan R))
(fun _ w10 =>
 DoV Try.prog (Instr.indexAt 32 v0 (h1 3)) w10 (fun t16_11 w11 =>
 DoV Try.prog (Instr.loadAt 22 t16_11) w11 (fun t17_12 w12 =>
 CallB Try.prog Builtin.len #[22] 3 #[false] #[t17_12] w12 (fun t18_13 w13 =>
 DoV Try.prog (binS BinOp.gtr 3 (Operand.tmp 18) (Operand.const (Value.int IntKind.i64 30)) t18_13 (Value.int IntKind.i64 30)) w13 (fun t19_14 w14 =>
 Br t19_14
(R (.returned (Value.bool false)) w14)
(DoV Try.prog (binS BinOp.add 3 (Operand.tmp 12) (Operand.const (Value.int IntKind.i64 1)) (h1 3) (Value.int IntKind.i64 1)) w14 (fun t13_15 w15 =>
 K1 [t13_15] w15) (Pan R))) (Pan R)) (Pan R)) (Pan R)) (Pan R)))
theorem sh_landfalllaw08_small_eq (v0 : Value) (R : Ending → World → Prop) (w : World) : vc Try.prog [] [3] (Try.f21.body.getD .skip) (endE Try.prog Try.f21.results R) (argsE [v0]) [] w = sh_landfalllaw08_small v0 R w := by kernel_rfl
theorem sh_landfalllaw08_small_ok (v0 : Value) {R : Ending → World → Prop} {w : World} (h : sh_landfalllaw08_small v0 R w) : Calls Try.prog 21 #[v0] w R :=
  calls_of_vc (args := [v0]) [] [3] follows_mixed Try.func21 rfl (of_decide_eq_true (by kernel_rfl)) (by kernel_rfl) ((sh_landfalllaw08_small_eq v0 R w).symm ▸ h)
/- landfall/landfalllaw08.frames -/
def sh_landfalllaw08_frames (v0 : Value) (R : Ending → World → Prop) (w : World) : Prop :=
 LoopE [5, 6, 7] [(Value.slice none 0 0), (Value.slice none 0 0), (Value.int IntKind.i64 0)] w (fun h1 w1 K1 =>
 CallB Try.prog Builtin.len #[32] 3 #[false] #[v0] w1 (fun t12_2 w2 =>
 DoV Try.prog (binS BinOp.lss 3 (Operand.tmp 10) (Operand.tmp 12) (h1 7) t12_2) w2 (fun t13_3 w3 =>
 Br t13_3
(JoinE [5, 6] (fun K4 =>
 DoV Try.prog (Instr.indexAt 32 v0 (h1 7)) w3 (fun t19_5 w5 =>
 DoV Try.prog (Instr.loadAt 22 t19_5) w5 (fun t20_6 w6 =>
 CallF Try.prog 13 #[t20_6] w6 (fun t21_7 w7 =>
 DoV Try.prog (Instr.extract t21_7 0) w7 (fun t22_8 w8 =>
 DoV Try.prog (Instr.extract t21_7 1) w8 (fun t23_9 w9 =>
 JoinE [] (fun K10 =>
 JoinE [30] (fun K11 =>
 DoV Try.prog (binS BinOp.neq 25 (Operand.tmp 24) (Operand.const (Value.int IntKind.i64 0)) t23_9 (Value.int IntKind.i64 0)) w9 (fun t25_12 w12 =>
 Gd t25_12 false (CallB Try.prog Builtin.len #[23] 3 #[false] #[t22_8] w12 (fun t28_13 w13 =>
 DoV Try.prog (binS BinOp.lss 3 (Operand.tmp 28) (Operand.const (Value.int IntKind.i64 12)) t28_13 (Value.int IntKind.i64 12)) w13 (fun t29_14 w14 =>
 K11 [t29_14] w14) (Pan R)) (Pan R))
(K11 [(Value.bool true)] w12)) (Pan R))
(fun h15 w15 =>
 Br (h15 30)
(R (.returned (Value.tuple #[(Value.slice none 0 0), (Value.slice none 0 0), (Value.bool false)])) w15)
(K10 [] w15)))
(fun _ w16 =>
 CallB Try.prog Builtin.append #[23, 23] 23 #[false, false] #[(h1 5), t22_8] w16 (fun t33_17 w17 =>
 CallB Try.prog Builtin.len #[23] 3 #[false] #[t33_17] w17 (fun t36_18 w18 =>
 DoV Try.prog (Instr.buildSlice 22 1 #[(0, t36_18)]) w18 (fun t37_19 w19 =>
 CallB Try.prog Builtin.append #[22, 22] 22 #[false, false] #[(h1 6), t37_19] w19 (fun t38_20 w20 =>
 K4 [t33_17, t38_20] w20) (Pan R)) (Pan R)) (Pan R)) (Pan R))) (Pan R)) (Pan R)) (Pan R)) (Pan R)) (Pan R))
(fun h21 w21 =>
 DoV Try.prog (binS BinOp.add 3 (Operand.tmp 14) (Operand.const (Value.int IntKind.i64 1)) (h1 7) (Value.int IntKind.i64 1)) w21 (fun t15_22 w22 =>
 K1 [(h21 5), (h21 6), t15_22] w22) (Pan R)))
(R (.returned (Value.tuple #[(h1 5), (h1 6), (Value.bool true)])) w3)) (Pan R)) (Pan R))
theorem sh_landfalllaw08_frames_eq (v0 : Value) (R : Ending → World → Prop) (w : World) : vc Try.prog [] [5, 6, 7] (Try.f22.body.getD .skip) (endE Try.prog Try.f22.results R) (argsE [v0]) [] w = sh_landfalllaw08_frames v0 R w := by kernel_rfl
theorem sh_landfalllaw08_frames_ok (v0 : Value) {R : Ending → World → Prop} {w : World} (h : sh_landfalllaw08_frames v0 R w) : Calls Try.prog 22 #[v0] w R :=
  calls_of_vc (args := [v0]) [] [5, 6, 7] follows_mixed Try.func22 rfl (of_decide_eq_true (by kernel_rfl)) (by kernel_rfl) ((sh_landfalllaw08_frames_eq v0 R w).symm ▸ h)
/- landfall/codec.put -/
def sh_codec_put (v0 v1 : Value) (R : Ending → World → Prop) (w : World) : Prop :=
 CallF Try.prog 33 #[v1] w (fun t7_1 w1 =>
 LoopE [0, 5] [v0, t7_1] w1 (fun h2 w2 K2 =>
 DoV Try.prog (binS BinOp.gtr 51 (Operand.tmp 8) (Operand.const (Value.int IntKind.u64 127)) (h2 5) (Value.int IntKind.u64 127)) w2 (fun t9_3 w3 =>
 Br t9_3
(DoV Try.prog (convert 51 5 (h2 5)) w3 (fun t14_4 w4 =>
 DoV Try.prog (binS BinOp.or 5 (Operand.tmp 14) (Operand.const (Value.int IntKind.u8 128)) t14_4 (Value.int IntKind.u8 128)) w4 (fun t15_5 w5 =>
 DoV Try.prog (Instr.buildSlice 23 1 #[(0, t15_5)]) w5 (fun t16_6 w6 =>
 CallB Try.prog Builtin.append #[23, 23] 23 #[false, false] #[(h2 0), t16_6] w6 (fun t17_7 w7 =>
 DoV Try.prog (binS BinOp.shr 51 (Operand.tmp 10) (Operand.const (Value.int IntKind.u64 7)) (h2 5) (Value.int IntKind.u64 7)) w7 (fun t11_8 w8 =>
 K2 [t17_7, t11_8] w8) (Pan R)) (Pan R)) (Pan R)) (Pan R)) (Pan R))
(DoV Try.prog (convert 51 5 (h2 5)) w3 (fun t20_9 w9 =>
 DoV Try.prog (Instr.buildSlice 23 1 #[(0, t20_9)]) w9 (fun t21_10 w10 =>
 CallB Try.prog Builtin.append #[23, 23] 23 #[false, false] #[(h2 0), t21_10] w10 (fun t22_11 w11 =>
 R (.returned t22_11) w11) (Pan R)) (Pan R)) (Pan R))) (Pan R))) (Pan R)
theorem sh_codec_put_eq (v0 v1 : Value) (R : Ending → World → Prop) (w : World) : vc Try.prog [] [0, 5] (Try.f23.body.getD .skip) (endE Try.prog Try.f23.results R) (argsE [v0, v1]) [] w = sh_codec_put v0 v1 R w := by kernel_rfl
theorem sh_codec_put_ok (v0 v1 : Value) {R : Ending → World → Prop} {w : World} (h : sh_codec_put v0 v1 R w) : Calls Try.prog 23 #[v0, v1] w R :=
  calls_of_vc (args := [v0, v1]) [] [0, 5] follows_mixed Try.func23 rfl (of_decide_eq_true (by kernel_rfl)) (by kernel_rfl) ((sh_codec_put_eq v0 v1 R w).symm ▸ h)
/- landfall/landfallref08.one -/
def sh_landfallref08_one (v0 : Value) (R : Ending → World → Prop) (w : World) : Prop :=
 DoV Try.prog (convert 3 51 v0) w (fun t6_1 w1 =>
 DoV Try.prog (binS BinOp.mul 51 (Operand.const (Value.int IntKind.u64 2)) (Operand.tmp 6) (Value.int IntKind.u64 2) t6_1) w1 (fun t7_2 w2 =>
 JoinE [3] (fun K3 =>
 DoV Try.prog (binS BinOp.lss 3 (Operand.tmp 8) (Operand.const (Value.int IntKind.i64 0)) v0 (Value.int IntKind.i64 0)) w2 (fun t9_4 w4 =>
 Br t9_4
(DoV Try.prog (binS BinOp.add 3 (Operand.tmp 10) (Operand.const (Value.int IntKind.i64 1)) v0 (Value.int IntKind.i64 1)) w4 (fun t11_5 w5 =>
 DoV Try.prog (Op.unary UnOp.neg t11_5) w5 (fun t12_6 w6 =>
 DoV Try.prog (convert 3 51 t12_6) w6 (fun t13_7 w7 =>
 DoV Try.prog (binS BinOp.mul 51 (Operand.const (Value.int IntKind.u64 2)) (Operand.tmp 13) (Value.int IntKind.u64 2) t13_7) w7 (fun t14_8 w8 =>
 DoV Try.prog (binS BinOp.add 51 (Operand.tmp 14) (Operand.const (Value.int IntKind.u64 1)) t14_8 (Value.int IntKind.u64 1)) w8 (fun t15_9 w9 =>
 K3 [t15_9] w9) (Pan R)) (Pan R)) (Pan R)) (Pan R)) (Pan R))
(K3 [t7_2] w4)) (Pan R))
(fun h10 w10 =>
 LoopE [3, 4] [(h10 3), (Value.slice none 0 0)] w10 (fun h11 w11 K11 =>
 DoV Try.prog (binS BinOp.geq 51 (Operand.tmp 16) (Operand.const (Value.int IntKind.u64 128)) (h11 3) (Value.int IntKind.u64 128)) w11 (fun t17_12 w12 =>
 Br t17_12
(DoV Try.prog (binS BinOp.rem 51 (Operand.tmp 19) (Operand.const (Value.int IntKind.u64 128)) (h11 3) (Value.int IntKind.u64 128)) w12 (fun t20_13 w13 =>
 DoV Try.prog (convert 51 5 t20_13) w13 (fun t21_14 w14 =>
 DoV Try.prog (binS BinOp.add 5 (Operand.tmp 21) (Operand.const (Value.int IntKind.u8 128)) t21_14 (Value.int IntKind.u8 128)) w14 (fun t22_15 w15 =>
 DoV Try.prog (Instr.buildSlice 23 1 #[(0, t22_15)]) w15 (fun t23_16 w16 =>
 CallB Try.prog Builtin.append #[23, 23] 23 #[false, false] #[(h11 4), t23_16] w16 (fun t24_17 w17 =>
 DoV Try.prog (binS BinOp.quo 51 (Operand.tmp 25) (Operand.const (Value.int IntKind.u64 128)) (h11 3) (Value.int IntKind.u64 128)) w17 (fun t26_18 w18 =>
 K11 [t26_18, t24_17] w18) (Pan R)) (Pan R)) (Pan R)) (Pan R)) (Pan R)) (Pan R))
(DoV Try.prog (convert 51 5 (h11 3)) w12 (fun t29_19 w19 =>
 DoV Try.prog (Instr.buildSlice 23 1 #[(0, t29_19)]) w19 (fun t30_20 w20 =>
 CallB Try.prog Builtin.append #[23, 23] 23 #[false, false] #[(h11 4), t30_20] w20 (fun t31_21 w21 =>
 R (.returned t31_21) w21) (Pan R)) (Pan R)) (Pan R))) (Pan R)))) (Pan R)) (Pan R)
theorem sh_landfallref08_one_eq (v0 : Value) (R : Ending → World → Prop) (w : World) : vc Try.prog [] [3, 4] (Try.f24.body.getD .skip) (endE Try.prog Try.f24.results R) (argsE [v0]) [] w = sh_landfallref08_one v0 R w := by kernel_rfl
theorem sh_landfallref08_one_ok (v0 : Value) {R : Ending → World → Prop} {w : World} (h : sh_landfallref08_one v0 R w) : Calls Try.prog 24 #[v0] w R :=
  calls_of_vc (args := [v0]) [] [3, 4] follows_mixed Try.func24 rfl (of_decide_eq_true (by kernel_rfl)) (by kernel_rfl) ((sh_landfallref08_one_eq v0 R w).symm ▸ h)
/- landfall/codec.sum -/
def sh_codec_sum (v0 : Value) (R : Ending → World → Prop) (w : World) : Prop :=
 DoV Try.prog (Instr.alloc 48 true (.tuple #[])) w (fun t2_1 w1 =>
 DoV Try.prog (convert 23 9 v0) w1 (fun t7_2 w2 =>
 CallF Try.prog 34 #[t7_2] w2 (fun t8_3 w3 =>
 DoV Try.prog (Instr.alloc 48 true (.tuple #[])) w3 (fun t4_4 w4 =>
 LoopE [9] [(Value.int IntKind.i64 0)] w4 (fun h5 w5 K5 =>
 DoV Try.prog (binS BinOp.lss 3 (Operand.tmp 9) (Operand.const (Value.int IntKind.i64 8)) (h5 9) (Value.int IntKind.i64 8)) w5 (fun t10_6 w6 =>
 Br t10_6
(DoV Try.prog (binS BinOp.sub 3 (Operand.const (Value.int IntKind.i64 7)) (Operand.tmp 14) (Value.int IntKind.i64 7) (h5 9)) w6 (fun t15_7 w7 =>
 DoV Try.prog (binS BinOp.mul 3 (Operand.const (Value.int IntKind.i64 8)) (Operand.tmp 15) (Value.int IntKind.i64 8) t15_7) w7 (fun t16_8 w8 =>
 DoV Try.prog (binS BinOp.shr 51 (Operand.tmp 13) (Operand.tmp 16) t8_3 t16_8) w8 (fun t17_9 w9 =>
 DoV Try.prog (convert 51 5 t17_9) w9 (fun t18_10 w10 =>
 DoV Try.prog (Instr.indexAt 48 t4_4 (h5 9)) w10 (fun t19_11 w11 =>
 DoU Try.prog (Instr.storeAt 5 t19_11 t18_10) w11 (fun _ w12 =>
 DoV Try.prog (binS BinOp.add 3 (Operand.tmp 9) (Operand.const (Value.int IntKind.i64 1)) (h5 9) (Value.int IntKind.i64 1)) w12 (fun t20_13 w13 =>
 K5 [t20_13] w13) (Pan R)) (Pan R)) (Pan R)) (Pan R)) (Pan R)) (Pan R)) (Pan R))
(DoV Try.prog (Instr.loadAt 48 t4_4) w6 (fun t21_14 w14 =>
 DoU Try.prog (Instr.storeAt 48 t2_1 t21_14) w14 (fun _ w15 =>
 Res Try.prog [.cell t2_1 48] w15 R) (Pan R)) (Pan R))) (Pan R))) (Pan R)) (Pan R)) (Pan R)) (Pan R)
theorem sh_codec_sum_eq (v0 : Value) (R : Ending → World → Prop) (w : World) : vc Try.prog [] [9] (Try.f25.body.getD .skip) (endE Try.prog Try.f25.results R) (argsE [v0]) [] w = sh_codec_sum v0 R w := by kernel_rfl
theorem sh_codec_sum_ok (v0 : Value) {R : Ending → World → Prop} {w : World} (h : sh_codec_sum v0 R w) : Calls Try.prog 25 #[v0] w R :=
  calls_of_vc (args := [v0]) [] [9] follows_mixed Try.func25 rfl (of_decide_eq_true (by kernel_rfl)) (by kernel_rfl) ((sh_codec_sum_eq v0 R w).symm ▸ h)
/- landfall/landfallref08.bytes -/
def sh_landfallref08_bytes (v0 : Value) (R : Ending → World → Prop) (w : World) : Prop :=
 LoopE [3, 4] [(Value.slice none 0 0), (Value.int IntKind.i64 0)] w (fun h1 w1 K1 =>
 DoV Try.prog (binS BinOp.lss 3 (Operand.tmp 5) (Operand.const (Value.int IntKind.i64 8)) (h1 4) (Value.int IntKind.i64 8)) w1 (fun t6_2 w2 =>
 Br t6_2
(DoV Try.prog (binS BinOp.mul 3 (Operand.const (Value.int IntKind.i64 8)) (Operand.tmp 11) (Value.int IntKind.i64 8) (h1 4)) w2 (fun t12_3 w3 =>
 DoV Try.prog (binS BinOp.sub 3 (Operand.const (Value.int IntKind.i64 56)) (Operand.tmp 12) (Value.int IntKind.i64 56) t12_3) w3 (fun t13_4 w4 =>
 DoV Try.prog (binS BinOp.shr 51 (Operand.tmp 10) (Operand.tmp 13) v0 t13_4) w4 (fun t14_5 w5 =>
 DoV Try.prog (convert 51 5 t14_5) w5 (fun t15_6 w6 =>
 DoV Try.prog (Instr.buildSlice 23 1 #[(0, t15_6)]) w6 (fun t16_7 w7 =>
 CallB Try.prog Builtin.append #[23, 23] 23 #[false, false] #[(h1 3), t16_7] w7 (fun t17_8 w8 =>
 DoV Try.prog (binS BinOp.add 3 (Operand.tmp 7) (Operand.const (Value.int IntKind.i64 1)) (h1 4) (Value.int IntKind.i64 1)) w8 (fun t8_9 w9 =>
 K1 [t17_8, t8_9] w9) (Pan R)) (Pan R)) (Pan R)) (Pan R)) (Pan R)) (Pan R)) (Pan R))
(R (.returned (h1 3)) w2)) (Pan R))
theorem sh_landfallref08_bytes_eq (v0 : Value) (R : Ending → World → Prop) (w : World) : vc Try.prog [] [3, 4] (Try.f26.body.getD .skip) (endE Try.prog Try.f26.results R) (argsE [v0]) [] w = sh_landfallref08_bytes v0 R w := by kernel_rfl
theorem sh_landfallref08_bytes_ok (v0 : Value) {R : Ending → World → Prop} {w : World} (h : sh_landfallref08_bytes v0 R w) : Calls Try.prog 26 #[v0] w R :=
  calls_of_vc (args := [v0]) [] [3, 4] follows_mixed Try.func26 rfl (of_decide_eq_true (by kernel_rfl)) (by kernel_rfl) ((sh_landfallref08_bytes_eq v0 R w).symm ▸ h)
/- landfall/landfallref05.Text -/
def sh_landfallref05_Text (v0 : Value) (R : Ending → World → Prop) (w : World) : Prop :=
 LoopE [3, 4] [(Value.int IntKind.u64 14695981039346656037), (Value.int IntKind.i64 0)] w (fun h1 w1 K1 =>
 CallB Try.prog Builtin.len #[9] 3 #[false] #[v0] w1 (fun t7_2 w2 =>
 DoV Try.prog (binS BinOp.lss 3 (Operand.tmp 5) (Operand.tmp 7) (h1 4) t7_2) w2 (fun t8_3 w3 =>
 Br t8_3
(DoV Try.prog (Instr.index 9 v0 (h1 4)) w3 (fun t14_4 w4 =>
 DoV Try.prog (convert 5 51 t14_4) w4 (fun t15_5 w5 =>
 DoV Try.prog (binS BinOp.xor 51 (Operand.tmp 11) (Operand.tmp 15) (h1 3) t15_5) w5 (fun t16_6 w6 =>
 DoV Try.prog (binS BinOp.mul 51 (Operand.tmp 16) (Operand.const (Value.int IntKind.u64 1099511628211)) t16_6 (Value.int IntKind.u64 1099511628211)) w6 (fun t17_7 w7 =>
 DoV Try.prog (binS BinOp.add 3 (Operand.tmp 9) (Operand.const (Value.int IntKind.i64 1)) (h1 4) (Value.int IntKind.i64 1)) w7 (fun t10_8 w8 =>
 K1 [t17_7, t10_8] w8) (Pan R)) (Pan R)) (Pan R)) (Pan R)) (Pan R))
(R (.returned (h1 3)) w3)) (Pan R)) (Pan R))
theorem sh_landfallref05_Text_eq (v0 : Value) (R : Ending → World → Prop) (w : World) : vc Try.prog [] [3, 4] (Try.f27.body.getD .skip) (endE Try.prog Try.f27.results R) (argsE [v0]) [] w = sh_landfallref05_Text v0 R w := by kernel_rfl
theorem sh_landfallref05_Text_ok (v0 : Value) {R : Ending → World → Prop} {w : World} (h : sh_landfallref05_Text v0 R w) : Calls Try.prog 27 #[v0] w R :=
  calls_of_vc (args := [v0]) [] [3, 4] follows_mixed Try.func27 rfl (of_decide_eq_true (by kernel_rfl)) (by kernel_rfl) ((sh_landfallref05_Text_eq v0 R w).symm ▸ h)
/- landfall/codec.caught: behind its recover -/
def sh_codec_caught (v0 v1 : Value) (rv : Value) (R : Ending → World → Prop) (w : World) : Prop :=
 DoV Try.prog (binS BinOp.eql 20 (Operand.tmp 7) (Operand.const Value.nilIface) rv Value.nilIface) w (fun t9_1 w1 =>
 Br t9_1
(R (.returned (Value.tuple #[])) w1)
(DoV Try.prog (Instr.typeAssert rv 20 65 true) w1 (fun t10_2 w2 =>
 DoV Try.prog (Instr.extract t10_2 1) w2 (fun t11_3 w3 =>
 DoV Try.prog (Instr.extract t10_2 0) w3 (fun t12_4 w4 =>
 Br t11_3
(DoV Try.prog (Instr.alloc 65 true (.tuple #[])) w4 (fun t5_5 w5 =>
 DoU Try.prog (Instr.storeAt 65 t5_5 t12_4) w5 (fun _ w6 =>
 NilC Try.prog v0 w6 (fun t15_7 w7 =>
 DoU Try.prog (Instr.storeAt 22 t15_7 (Value.slice none 0 0)) w7 (fun _ w8 =>
 NilC Try.prog v1 w8 (fun t16_9 w9 =>
 DoU Try.prog (Instr.storeAt 25 t16_9 (Value.int IntKind.i64 7)) w9 (fun _ w10 =>
 R (.returned (Value.tuple #[])) w10) (Pan R)) (Pan R)) (Pan R)) (Pan R)) (Pan R)) (Pan R))
(DoV Try.prog (Instr.panic rv) w4 (fun _ w11 =>
 R (.returned (Value.tuple #[])) w11) (Pan R))) (Pan R)) (Pan R)) (Pan R))) (Pan R)
theorem sh_codec_caught_eq (v0 v1 : Value) (rv : Value) (R : Ending → World → Prop) (w : World) : vc Try.prog [] [] (match Try.f28.body with | some (.seq _ c) => c | _ => .skip) (endR R) ((7, some rv) :: argsE [v0, v1]) [] w = sh_codec_caught v0 v1 rv R w := by kernel_rfl
theorem sh_codec_caught_ok (v0 v1 : Value) {R : Ending → World → Prop} {u : FrameMode} {w : World} (h : sh_codec_caught v0 v1 (recV u) R w) : CallsD Try.prog 28 #[v0, v1] u w fun e u' w' => u' = recM u ∧ R e w' :=
  callsD_of_rec (args := [v0, v1]) [] [] follows_mixed Try.func28 rfl rfl (fun _ _ => rfl) rfl rfl (of_decide_eq_true (by kernel_rfl)) (of_decide_eq_true (by kernel_rfl)) (by kernel_rfl) ((sh_codec_caught_eq v0 v1 (recV u) R w).symm ▸ h)
/- (*landfall/codec.reader).next -/
def sh_codec_reader_next (v0 : Value) (R : Ending → World → Prop) (w : World) : Prop :=
 NilC Try.prog v0 w (fun t7_1 w1 =>
 DoV Try.prog (Instr.fieldAt 57 t7_1 0) w1 (fun t8_2 w2 =>
 DoV Try.prog (Instr.loadAt 23 t8_2) w2 (fun t9_3 w3 =>
 CallB Try.prog Builtin.len #[23] 3 #[false] #[t9_3] w3 (fun t10_4 w4 =>
 LoopE [2, 3, 11] [(Value.int IntKind.i64 0), (Value.int IntKind.u64 0), (Value.int IntKind.i64 0)] w4 (fun h5 w5 K5 =>
 DoV Try.prog (binS BinOp.lss 3 (Operand.tmp 11) (Operand.tmp 10) (h5 11) t10_4) w5 (fun t12_6 w6 =>
 Br t12_6
(DoV Try.prog (Instr.indexAt 23 t9_3 (h5 11)) w6 (fun t14_7 w7 =>
 DoV Try.prog (Instr.loadAt 5 t14_7) w7 (fun t15_8 w8 =>
 JoinE [] (fun K9 =>
 JoinE [25] (fun K10 =>
 DoV Try.prog (binS BinOp.eql 3 (Operand.tmp 16) (Operand.const (Value.int IntKind.i64 9)) (h5 11) (Value.int IntKind.i64 9)) w8 (fun t17_11 w11 =>
 Gd t17_11 true (DoV Try.prog (binS BinOp.gtr 5 (Operand.tmp 19) (Operand.const (Value.int IntKind.u8 1)) t15_8 (Value.int IntKind.u8 1)) w11 (fun t20_12 w12 =>
 Gd t20_12 false (DoV Try.prog (binS BinOp.gtr 3 (Operand.tmp 23) (Operand.const (Value.int IntKind.i64 9)) (h5 11) (Value.int IntKind.i64 9)) w12 (fun t24_13 w13 =>
 K10 [t24_13] w13) (Pan R))
(K10 [(Value.bool true)] w12)) (Pan R))
(DoV Try.prog (binS BinOp.gtr 3 (Operand.tmp 23) (Operand.const (Value.int IntKind.i64 9)) (h5 11) (Value.int IntKind.i64 9)) w11 (fun t24_14 w14 =>
 K10 [t24_14] w14) (Pan R))) (Pan R))
(fun h15 w15 =>
 Br (h15 25)
(DoV Try.prog (Instr.build 65 #[]) w15 (fun t26_16 w16 =>
 DoV Try.prog (Instr.makeInterface 65 t26_16) w16 (fun t27_17 w17 =>
 DoV Try.prog (Instr.panic t27_17) w17 (fun _ w18 =>
 K9 [] w18) (Pan R)) (Pan R)) (Pan R))
(K9 [] w15)))
(fun _ w19 =>
 DoV Try.prog (binS BinOp.and 5 (Operand.tmp 29) (Operand.const (Value.int IntKind.u8 127)) t15_8 (Value.int IntKind.u8 127)) w19 (fun t30_20 w20 =>
 DoV Try.prog (convert 5 51 t30_20) w20 (fun t31_21 w21 =>
 DoV Try.prog (binS BinOp.mul 3 (Operand.const (Value.int IntKind.i64 7)) (Operand.tmp 32) (Value.int IntKind.i64 7) (h5 11)) w21 (fun t33_22 w22 =>
 DoV Try.prog (binS BinOp.shl 51 (Operand.tmp 31) (Operand.tmp 33) t31_21 t33_22) w22 (fun t34_23 w23 =>
 DoV Try.prog (binS BinOp.or 51 (Operand.tmp 28) (Operand.tmp 34) (h5 3) t34_23) w23 (fun t35_24 w24 =>
 DoV Try.prog (binS BinOp.gtr 5 (Operand.tmp 36) (Operand.const (Value.int IntKind.u8 127)) t15_8 (Value.int IntKind.u8 127)) w24 (fun t37_25 w25 =>
 Br t37_25
(DoV Try.prog (binS BinOp.add 3 (Operand.tmp 11) (Operand.const (Value.int IntKind.i64 1)) (h5 11) (Value.int IntKind.i64 1)) w25 (fun t64_26 w26 =>
 K5 [(h5 2), t35_24, t64_26] w26) (Pan R))
(JoinE [] (fun K27 =>
 JoinE [43] (fun K28 =>
 DoV Try.prog (binS BinOp.eql 5 (Operand.tmp 38) (Operand.const (Value.int IntKind.u8 0)) t15_8 (Value.int IntKind.u8 0)) w25 (fun t39_29 w29 =>
 Gd t39_29 true (DoV Try.prog (binS BinOp.gtr 3 (Operand.tmp 41) (Operand.const (Value.int IntKind.i64 0)) (h5 11) (Value.int IntKind.i64 0)) w29 (fun t42_30 w30 =>
 K28 [t42_30] w30) (Pan R))
(K28 [(Value.bool false)] w29)) (Pan R))
(fun h31 w31 =>
 Br (h31 43)
(DoV Try.prog (Instr.build 65 #[]) w31 (fun t44_32 w32 =>
 DoV Try.prog (Instr.makeInterface 65 t44_32) w32 (fun t45_33 w33 =>
 DoV Try.prog (Instr.panic t45_33) w33 (fun _ w34 =>
 K27 [] w34) (Pan R)) (Pan R)) (Pan R))
(K27 [] w31)))
(fun _ w35 =>
 NilC Try.prog v0 w35 (fun t48_36 w36 =>
 DoV Try.prog (Instr.fieldAt 57 t48_36 0) w36 (fun t49_37 w37 =>
 DoV Try.prog (Instr.loadAt 23 t49_37) w37 (fun t50_38 w38 =>
 DoV Try.prog (binS BinOp.add 3 (Operand.tmp 51) (Operand.const (Value.int IntKind.i64 1)) (h5 11) (Value.int IntKind.i64 1)) w38 (fun t52_39 w39 =>
 DoV Try.prog (Instr.sliceAt 23 t50_38 (some t52_39) none none) w39 (fun t53_40 w40 =>
 NilC Try.prog v0 w40 (fun t54_41 w41 =>
 DoV Try.prog (Instr.fieldAt 57 t54_41 0) w41 (fun t55_42 w42 =>
 DoU Try.prog (Instr.storeAt 23 t55_42 t53_40) w42 (fun _ w43 =>
 DoV Try.prog (binS BinOp.shr 51 (Operand.tmp 56) (Operand.const (Value.int IntKind.u64 1)) t35_24 (Value.int IntKind.u64 1)) w43 (fun t57_44 w44 =>
 DoV Try.prog (convert 51 3 t57_44) w44 (fun t58_45 w45 =>
 DoV Try.prog (binS BinOp.and 51 (Operand.tmp 59) (Operand.const (Value.int IntKind.u64 1)) t35_24 (Value.int IntKind.u64 1)) w45 (fun t60_46 w46 =>
 DoV Try.prog (convert 51 3 t60_46) w46 (fun t61_47 w47 =>
 DoV Try.prog (Op.unary UnOp.neg t61_47) w47 (fun t62_48 w48 =>
 DoV Try.prog (binS BinOp.xor 3 (Operand.tmp 58) (Operand.tmp 62) t58_45 t62_48) w48 (fun t63_49 w49 =>
 R (.returned t63_49) w49) (Pan R)) (Pan R)) (Pan R)) (Pan R)) (Pan R)) (Pan R)) (Pan R)) (Pan R)) (Pan R)) (Pan R)) (Pan R)) (Pan R)) (Pan R)) (Pan R)))) (Pan R)) (Pan R)) (Pan R)) (Pan R)) (Pan R)) (Pan R))) (Pan R)) (Pan R))
(DoV Try.prog (Instr.build 65 #[]) w6 (fun t65_50 w50 =>
 DoV Try.prog (Instr.makeInterface 65 t65_50) w50 (fun t66_51 w51 =>
 DoV Try.prog (Instr.panic t66_51) w51 (fun _ w52 =>
 R (.returned (h5 2)) w52) (Pan R)) (Pan R)) (Pan R))) (Pan R))) (Pan R)) (Pan R)) (Pan R)) (Pan R)
theorem sh_codec_reader_next_eq (v0 : Value) (R : Ending → World → Prop) (w : World) : vc Try.prog [] [2, 3, 11] (Try.f29.body.getD .skip) (endE Try.prog Try.f29.results R) (argsE [v0]) [] w = sh_codec_reader_next v0 R w := by kernel_rfl
theorem sh_codec_reader_next_ok (v0 : Value) {R : Ending → World → Prop} {w : World} (h : sh_codec_reader_next v0 R w) : Calls Try.prog 29 #[v0] w R :=
  calls_of_vc (args := [v0]) [] [2, 3, 11] follows_mixed Try.func29 rfl (of_decide_eq_true (by kernel_rfl)) (by kernel_rfl) ((sh_codec_reader_next_eq v0 R w).symm ▸ h)
/- landfall/landfallref08.read -/
def sh_landfallref08_read (v0 : Value) (R : Ending → World → Prop) (w : World) : Prop :=
 LoopE [4, 5] [(Value.int IntKind.u64 0), (Value.int IntKind.i64 0)] w (fun h1 w1 K1 =>
 JoinE [] (fun K2 =>
 CallB Try.prog Builtin.len #[23] 3 #[false] #[v0] w1 (fun t8_3 w3 =>
 DoV Try.prog (binS BinOp.lss 3 (Operand.tmp 6) (Operand.tmp 8) (h1 5) t8_3) w3 (fun t9_4 w4 =>
 Gd t9_4 true (DoV Try.prog (binS BinOp.lss 3 (Operand.tmp 11) (Operand.const (Value.int IntKind.i64 10)) (h1 5) (Value.int IntKind.i64 10)) w4 (fun t12_5 w5 =>
 Br t12_5
(K2 [] w5)
(R (.returned (Value.tuple #[(Value.int IntKind.i64 0), (Value.int IntKind.i64 0)])) w5)) (Pan R))
(R (.returned (Value.tuple #[(Value.int IntKind.i64 0), (Value.int IntKind.i64 0)])) w4)) (Pan R)) (Pan R))
(fun _ w6 =>
 JoinE [] (fun K7 =>
 JoinE [24] (fun K8 =>
 DoV Try.prog (binS BinOp.eql 3 (Operand.tmp 16) (Operand.const (Value.int IntKind.i64 9)) (h1 5) (Value.int IntKind.i64 9)) w6 (fun t17_9 w9 =>
 Gd t17_9 true (DoV Try.prog (Instr.indexAt 23 v0 (h1 5)) w9 (fun t21_10 w10 =>
 DoV Try.prog (Instr.loadAt 5 t21_10) w10 (fun t22_11 w11 =>
 DoV Try.prog (binS BinOp.gtr 5 (Operand.tmp 22) (Operand.const (Value.int IntKind.u8 1)) t22_11 (Value.int IntKind.u8 1)) w11 (fun t23_12 w12 =>
 K8 [t23_12] w12) (Pan R)) (Pan R)) (Pan R))
(K8 [(Value.bool false)] w9)) (Pan R))
(fun h13 w13 =>
 Br (h13 24)
(R (.returned (Value.tuple #[(Value.int IntKind.i64 0), (Value.int IntKind.i64 0)])) w13)
(K7 [] w13)))
(fun _ w14 =>
 DoV Try.prog (Instr.indexAt 23 v0 (h1 5)) w14 (fun t28_15 w15 =>
 DoV Try.prog (Instr.loadAt 5 t28_15) w15 (fun t29_16 w16 =>
 DoV Try.prog (binS BinOp.rem 5 (Operand.tmp 29) (Operand.const (Value.int IntKind.u8 128)) t29_16 (Value.int IntKind.u8 128)) w16 (fun t30_17 w17 =>
 DoV Try.prog (convert 5 51 t30_17) w17 (fun t31_18 w18 =>
 DoV Try.prog (convert 3 47 (h1 5)) w18 (fun t33_19 w19 =>
 DoV Try.prog (binS BinOp.mul 47 (Operand.const (Value.int IntKind.u64 7)) (Operand.tmp 33) (Value.int IntKind.u64 7) t33_19) w19 (fun t34_20 w20 =>
 DoV Try.prog (binS BinOp.shl 51 (Operand.tmp 31) (Operand.tmp 34) t31_18 t34_20) w20 (fun t35_21 w21 =>
 DoV Try.prog (binS BinOp.or 51 (Operand.tmp 25) (Operand.tmp 35) (h1 4) t35_21) w21 (fun t36_22 w22 =>
 DoV Try.prog (Instr.indexAt 23 v0 (h1 5)) w22 (fun t39_23 w23 =>
 DoV Try.prog (Instr.loadAt 5 t39_23) w23 (fun t40_24 w24 =>
 DoV Try.prog (binS BinOp.geq 5 (Operand.tmp 40) (Operand.const (Value.int IntKind.u8 128)) t40_24 (Value.int IntKind.u8 128)) w24 (fun t41_25 w25 =>
 Br t41_25
(DoV Try.prog (binS BinOp.add 3 (Operand.tmp 14) (Operand.const (Value.int IntKind.i64 1)) (h1 5) (Value.int IntKind.i64 1)) w25 (fun t15_26 w26 =>
 K1 [t36_22, t15_26] w26) (Pan R))
(JoinE [] (fun K27 =>
 JoinE [50] (fun K28 =>
 DoV Try.prog (binS BinOp.gtr 3 (Operand.tmp 42) (Operand.const (Value.int IntKind.i64 0)) (h1 5) (Value.int IntKind.i64 0)) w25 (fun t43_29 w29 =>
 Gd t43_29 true (DoV Try.prog (Instr.indexAt 23 v0 (h1 5)) w29 (fun t47_30 w30 =>
 DoV Try.prog (Instr.loadAt 5 t47_30) w30 (fun t48_31 w31 =>
 DoV Try.prog (binS BinOp.eql 5 (Operand.tmp 48) (Operand.const (Value.int IntKind.u8 0)) t48_31 (Value.int IntKind.u8 0)) w31 (fun t49_32 w32 =>
 K28 [t49_32] w32) (Pan R)) (Pan R)) (Pan R))
(K28 [(Value.bool false)] w29)) (Pan R))
(fun h33 w33 =>
 Br (h33 50)
(R (.returned (Value.tuple #[(Value.int IntKind.i64 0), (Value.int IntKind.i64 0)])) w33)
(K27 [] w33)))
(fun _ w34 =>
 DoV Try.prog (binS BinOp.rem 51 (Operand.tmp 51) (Operand.const (Value.int IntKind.u64 2)) t36_22 (Value.int IntKind.u64 2)) w34 (fun t52_35 w35 =>
 DoV Try.prog (binS BinOp.eql 51 (Operand.tmp 52) (Operand.const (Value.int IntKind.u64 1)) t52_35 (Value.int IntKind.u64 1)) w35 (fun t53_36 w36 =>
 Br t53_36
(DoV Try.prog (binS BinOp.quo 51 (Operand.tmp 54) (Operand.const (Value.int IntKind.u64 2)) t36_22 (Value.int IntKind.u64 2)) w36 (fun t55_37 w37 =>
 DoV Try.prog (convert 51 3 t55_37) w37 (fun t56_38 w38 =>
 DoV Try.prog (Op.unary UnOp.neg t56_38) w38 (fun t57_39 w39 =>
 DoV Try.prog (binS BinOp.sub 3 (Operand.tmp 57) (Operand.const (Value.int IntKind.i64 1)) t57_39 (Value.int IntKind.i64 1)) w39 (fun t58_40 w40 =>
 DoV Try.prog (binS BinOp.add 3 (Operand.tmp 59) (Operand.const (Value.int IntKind.i64 1)) (h1 5) (Value.int IntKind.i64 1)) w40 (fun t60_41 w41 =>
 R (.returned (Value.tuple #[t58_40, t60_41])) w41) (Pan R)) (Pan R)) (Pan R)) (Pan R)) (Pan R))
(DoV Try.prog (binS BinOp.quo 51 (Operand.tmp 61) (Operand.const (Value.int IntKind.u64 2)) t36_22 (Value.int IntKind.u64 2)) w36 (fun t62_42 w42 =>
 DoV Try.prog (convert 51 3 t62_42) w42 (fun t63_43 w43 =>
 DoV Try.prog (binS BinOp.add 3 (Operand.tmp 64) (Operand.const (Value.int IntKind.i64 1)) (h1 5) (Value.int IntKind.i64 1)) w43 (fun t65_44 w44 =>
 R (.returned (Value.tuple #[t63_43, t65_44])) w44) (Pan R)) (Pan R)) (Pan R))) (Pan R)) (Pan R)))) (Pan R)) (Pan R)) (Pan R)) (Pan R)) (Pan R)) (Pan R)) (Pan R)) (Pan R)) (Pan R)) (Pan R)) (Pan R))))
theorem sh_landfallref08_read_eq (v0 : Value) (R : Ending → World → Prop) (w : World) : vc Try.prog [] [4, 5] (Try.f30.body.getD .skip) (endE Try.prog Try.f30.results R) (argsE [v0]) [] w = sh_landfallref08_read v0 R w := by kernel_rfl
theorem sh_landfallref08_read_ok (v0 : Value) {R : Ending → World → Prop} {w : World} (h : sh_landfallref08_read v0 R w) : Calls Try.prog 30 #[v0] w R :=
  calls_of_vc (args := [v0]) [] [4, 5] follows_mixed Try.func30 rfl (of_decide_eq_true (by kernel_rfl)) (by kernel_rfl) ((sh_landfallref08_read_eq v0 R w).symm ▸ h)
/- landfall/codec.whole -/
def sh_codec_whole (v0 : Value) (R : Ending → World → Prop) (w : World) : Prop :=
 CallB Try.prog Builtin.len #[23] 3 #[false] #[v0] w (fun t10_1 w1 =>
 DoV Try.prog (binS BinOp.lss 3 (Operand.tmp 10) (Operand.const (Value.int IntKind.i64 11)) t10_1 (Value.int IntKind.i64 11)) w1 (fun t11_2 w2 =>
 Br t11_2
(R (.returned (Value.tuple #[(Value.slice none 0 0), (Value.int IntKind.i64 0)])) w2)
(DrawE w2 (fun Rs3 Rb3 w3 =>
 DetOp Rb3 Rs3 w3 (fun w4 K4 => DoV Try.prog (Instr.indexAt 23 v0 (Value.int IntKind.i64 0)) w4 K4 (Pan R)) (fun c13_4 ψ4 =>
 DetOp Rb3 Rs3 w3 (fun w5 K5 => DoV Try.prog (Instr.loadAt 5 c13_4) w5 K5 (Pan R)) (fun c14_5 ψ5 =>
 DetOp Rb3 Rs3 w3 (fun w6 K6 => DoV Try.prog (convert 5 3 c14_5) w6 K6 (Pan R)) (fun c15_6 ψ6 =>
 DetOp Rb3 Rs3 w3 (fun w7 K7 => DoV Try.prog (binS BinOp.shl 3 (Operand.tmp 15) (Operand.const (Value.int IntKind.u64 16)) c15_6 (Value.int IntKind.u64 16)) w7 K7 (Pan R)) (fun c16_7 ψ7 =>
 DetOp Rb3 Rs3 w3 (fun w8 K8 => DoV Try.prog (Instr.indexAt 23 v0 (Value.int IntKind.i64 1)) w8 K8 (Pan R)) (fun c18_8 ψ8 =>
 DetOp Rb3 Rs3 w3 (fun w9 K9 => DoV Try.prog (Instr.loadAt 5 c18_8) w9 K9 (Pan R)) (fun c19_9 ψ9 =>
 DetOp Rb3 Rs3 w3 (fun w10 K10 => DoV Try.prog (convert 5 3 c19_9) w10 K10 (Pan R)) (fun c20_10 ψ10 =>
 DetOp Rb3 Rs3 w3 (fun w11 K11 => DoV Try.prog (binS BinOp.shl 3 (Operand.tmp 20) (Operand.const (Value.int IntKind.u64 8)) c20_10 (Value.int IntKind.u64 8)) w11 K11 (Pan R)) (fun c21_11 ψ11 =>
 DetOp Rb3 Rs3 w3 (fun w12 K12 => DoV Try.prog (binS BinOp.add 3 (Operand.tmp 16) (Operand.tmp 21) c16_7 c21_11) w12 K12 (Pan R)) (fun c22_12 ψ12 =>
 DetOp Rb3 Rs3 w3 (fun w13 K13 => DoV Try.prog (Instr.indexAt 23 v0 (Value.int IntKind.i64 2)) w13 K13 (Pan R)) (fun c24_13 ψ13 =>
 DetOp Rb3 Rs3 w3 (fun w14 K14 => DoV Try.prog (Instr.loadAt 5 c24_13) w14 K14 (Pan R)) (fun c25_14 ψ14 =>
 DetOp Rb3 Rs3 w3 (fun w15 K15 => DoV Try.prog (convert 5 3 c25_14) w15 K15 (Pan R)) (fun c26_15 ψ15 =>
 ∀ w16, Rb3 w3 w16 → ((((((((((((True ∧ ψ4 w16) ∧ ψ5 w16) ∧ ψ6 w16) ∧ ψ7 w16) ∧ ψ8 w16) ∧ ψ9 w16) ∧ ψ10 w16) ∧ ψ11 w16) ∧ ψ12 w16) ∧ ψ13 w16) ∧ ψ14 w16) ∧ ψ15 w16) →
 DoV Try.prog (binS BinOp.add 3 (Operand.tmp 22) (Operand.tmp 26) c22_12 c26_15) w16 (fun t27_17 w17 =>
 DoV Try.prog (binS BinOp.add 3 (Operand.const (Value.int IntKind.i64 3)) (Operand.tmp 28) (Value.int IntKind.i64 3) t27_17) w17 (fun t29_18 w18 =>
 CallB Try.prog Builtin.len #[23] 3 #[false] #[v0] w18 (fun t31_19 w19 =>
 DoV Try.prog (binS BinOp.add 3 (Operand.tmp 32) (Operand.const (Value.int IntKind.i64 8)) t29_18 (Value.int IntKind.i64 8)) w19 (fun t33_20 w20 =>
 DoV Try.prog (binS BinOp.lss 3 (Operand.tmp 31) (Operand.tmp 33) t31_19 t33_20) w20 (fun t34_21 w21 =>
 Br t34_21
(R (.returned (Value.tuple #[(Value.slice none 0 0), (Value.int IntKind.i64 0)])) w21)
(DoV Try.prog (Instr.sliceAt 23 v0 none (some t29_18) (some t29_18)) w21 (fun t38_22 w22 =>
 DrawE w22 (fun Rs23 Rb23 w23 =>
 DetOp Rs23 Rb23 w23 (fun w24 K24 => CallF Try.prog 25 #[t38_22] w24 K24 (Pan R)) (fun c40_24 ψ24 =>
 DetOp Rb23 Rs23 w23 (fun w25 K25 => DoV Try.prog (binS BinOp.add 3 (Operand.tmp 43) (Operand.const (Value.int IntKind.i64 8)) t29_18 (Value.int IntKind.i64 8)) w25 K25 (Pan R)) (fun c44_25 ψ25 =>
 DetOp Rb23 Rs23 w23 (fun w26 K26 => DoV Try.prog (Instr.sliceAt 23 v0 (some t29_18) (some c44_25) none) w26 K26 (Pan R)) (fun c45_26 ψ26 =>
 DetOp Rb23 Rs23 w23 (fun w27 K27 => DoV Try.prog (Instr.arrayAt 48 c45_26) w27 K27 (Pan R)) (fun c46_27 ψ27 =>
 DetOp Rb23 Rs23 w23 (fun w28 K28 => DoV Try.prog (Instr.loadAt 48 c46_27) w28 K28 (Pan R)) (fun c47_28 ψ28 =>
 ∀ w29, Rb23 w23 w29 → (((((True ∧ ψ24 w29) ∧ ψ25 w29) ∧ ψ26 w29) ∧ ψ27 w29) ∧ ψ28 w29) →
 DoV Try.prog (binS BinOp.neq 48 (Operand.tmp 40) (Operand.tmp 47) c40_24 c47_28) w29 (fun t48_30 w30 =>
 Br t48_30
(R (.returned (Value.tuple #[(Value.slice none 0 0), (Value.int IntKind.i64 0)])) w30)
(DoV Try.prog (Instr.sliceAt 23 t38_22 (some (Value.int IntKind.i64 3)) none none) w30 (fun t51_31 w31 =>
 CallF Try.prog 15 #[t51_31] w31 (fun t52_32 w32 =>
 DoV Try.prog (Instr.extract t52_32 0) w32 (fun t53_33 w33 =>
 DoV Try.prog (Instr.extract t52_32 1) w33 (fun t54_34 w34 =>
 DoV Try.prog (binS BinOp.neq 25 (Operand.tmp 55) (Operand.const (Value.int IntKind.i64 0)) t54_34 (Value.int IntKind.i64 0)) w34 (fun t56_35 w35 =>
 Br t56_35
(R (.returned (Value.tuple #[(Value.slice none 0 0), (Value.int IntKind.i64 0)])) w35)
(DoV Try.prog (binS BinOp.add 3 (Operand.tmp 58) (Operand.const (Value.int IntKind.i64 8)) t29_18 (Value.int IntKind.i64 8)) w35 (fun t59_36 w36 =>
 R (.returned (Value.tuple #[t53_33, t59_36])) w36) (Pan R))) (Pan R)) (Pan R)) (Pan R)) (Pan R)) (Pan R))) (Pan R)))))))) (Pan R))) (Pan R)) (Pan R)) (Pan R)) (Pan R)) (Pan R)))))))))))))))) (Pan R)) (Pan R)
theorem sh_codec_whole_eq (v0 : Value) (R : Ending → World → Prop) (w : World) : vc Try.prog [(3, 15, false, 0), (8, 9, false, 2)] [] (Try.f31.body.getD .skip) (endE Try.prog Try.f31.results R) (argsE [v0]) [] w = sh_codec_whole v0 R w := by kernel_rfl
theorem sh_codec_whole_ok (v0 : Value) {R : Ending → World → Prop} {w : World} (h : sh_codec_whole v0 R w) : Calls Try.prog 31 #[v0] w R :=
  calls_of_vc (args := [v0]) [(3, 15, false, 0), (8, 9, false, 2)] [] follows_mixed Try.func31 rfl (of_decide_eq_true (by kernel_rfl)) (by kernel_rfl) ((sh_codec_whole_eq v0 R w).symm ▸ h)
/- landfall/landfallref08.whole -/
def sh_landfallref08_whole (v0 : Value) (R : Ending → World → Prop) (w : World) : Prop :=
 CallB Try.prog Builtin.len #[23] 3 #[false] #[v0] w (fun t8_1 w1 =>
 DoV Try.prog (binS BinOp.lss 3 (Operand.tmp 8) (Operand.const (Value.int IntKind.i64 11)) t8_1 (Value.int IntKind.i64 11)) w1 (fun t9_2 w2 =>
 Br t9_2
(R (.returned (Value.tuple #[(Value.slice none 0 0), (Value.int IntKind.i64 0)])) w2)
(DrawE w2 (fun Rs3 Rb3 w3 =>
 DetOp Rb3 Rs3 w3 (fun w4 K4 => DoV Try.prog (Instr.indexAt 23 v0 (Value.int IntKind.i64 0)) w4 K4 (Pan R)) (fun c11_4 ψ4 =>
 DetOp Rb3 Rs3 w3 (fun w5 K5 => DoV Try.prog (Instr.loadAt 5 c11_4) w5 K5 (Pan R)) (fun c12_5 ψ5 =>
 DetOp Rb3 Rs3 w3 (fun w6 K6 => DoV Try.prog (convert 5 3 c12_5) w6 K6 (Pan R)) (fun c13_6 ψ6 =>
 DetOp Rb3 Rs3 w3 (fun w7 K7 => DoV Try.prog (binS BinOp.mul 3 (Operand.tmp 13) (Operand.const (Value.int IntKind.i64 65536)) c13_6 (Value.int IntKind.i64 65536)) w7 K7 (Pan R)) (fun c14_7 ψ7 =>
 DetOp Rb3 Rs3 w3 (fun w8 K8 => DoV Try.prog (Instr.indexAt 23 v0 (Value.int IntKind.i64 1)) w8 K8 (Pan R)) (fun c16_8 ψ8 =>
 DetOp Rb3 Rs3 w3 (fun w9 K9 => DoV Try.prog (Instr.loadAt 5 c16_8) w9 K9 (Pan R)) (fun c17_9 ψ9 =>
 DetOp Rb3 Rs3 w3 (fun w10 K10 => DoV Try.prog (convert 5 3 c17_9) w10 K10 (Pan R)) (fun c18_10 ψ10 =>
 DetOp Rb3 Rs3 w3 (fun w11 K11 => DoV Try.prog (binS BinOp.mul 3 (Operand.tmp 18) (Operand.const (Value.int IntKind.i64 256)) c18_10 (Value.int IntKind.i64 256)) w11 K11 (Pan R)) (fun c19_11 ψ11 =>
 DetOp Rb3 Rs3 w3 (fun w12 K12 => DoV Try.prog (binS BinOp.add 3 (Operand.tmp 14) (Operand.tmp 19) c14_7 c19_11) w12 K12 (Pan R)) (fun c20_12 ψ12 =>
 DetOp Rb3 Rs3 w3 (fun w13 K13 => DoV Try.prog (Instr.indexAt 23 v0 (Value.int IntKind.i64 2)) w13 K13 (Pan R)) (fun c22_13 ψ13 =>
 DetOp Rb3 Rs3 w3 (fun w14 K14 => DoV Try.prog (Instr.loadAt 5 c22_13) w14 K14 (Pan R)) (fun c23_14 ψ14 =>
 DetOp Rb3 Rs3 w3 (fun w15 K15 => DoV Try.prog (convert 5 3 c23_14) w15 K15 (Pan R)) (fun c24_15 ψ15 =>
 ∀ w16, Rb3 w3 w16 → ((((((((((((True ∧ ψ4 w16) ∧ ψ5 w16) ∧ ψ6 w16) ∧ ψ7 w16) ∧ ψ8 w16) ∧ ψ9 w16) ∧ ψ10 w16) ∧ ψ11 w16) ∧ ψ12 w16) ∧ ψ13 w16) ∧ ψ14 w16) ∧ ψ15 w16) →
 DoV Try.prog (binS BinOp.add 3 (Operand.tmp 20) (Operand.tmp 24) c20_12 c24_15) w16 (fun t25_17 w17 =>
 CallB Try.prog Builtin.len #[23] 3 #[false] #[v0] w17 (fun t27_18 w18 =>
 DoV Try.prog (binS BinOp.add 3 (Operand.tmp 28) (Operand.const (Value.int IntKind.i64 11)) t25_17 (Value.int IntKind.i64 11)) w18 (fun t29_19 w19 =>
 DoV Try.prog (binS BinOp.lss 3 (Operand.tmp 27) (Operand.tmp 29) t27_18 t29_19) w19 (fun t30_20 w20 =>
 Br t30_20
(R (.returned (Value.tuple #[(Value.slice none 0 0), (Value.int IntKind.i64 0)])) w20)
(DrawE w20 (fun Rs21 Rb21 w21 =>
 DetOp Rb21 Rs21 w21 (fun w22 K22 => DoV Try.prog (binS BinOp.add 3 (Operand.const (Value.int IntKind.i64 3)) (Operand.tmp 32) (Value.int IntKind.i64 3) t25_17) w22 K22 (Pan R)) (fun c33_22 ψ22 =>
 DetOp Rb21 Rs21 w21 (fun w23 K23 => DoV Try.prog (binS BinOp.add 3 (Operand.const (Value.int IntKind.i64 11)) (Operand.tmp 34) (Value.int IntKind.i64 11) t25_17) w23 K23 (Pan R)) (fun c35_23 ψ23 =>
 DetOp Rb21 Rs21 w21 (fun w24 K24 => DoV Try.prog (Instr.sliceAt 23 v0 (some c33_22) (some c35_23) none) w24 K24 (Pan R)) (fun c36_24 ψ24 =>
 DetOp Rb21 Rs21 w21 (fun w25 K25 => DoV Try.prog (binS BinOp.add 3 (Operand.const (Value.int IntKind.i64 3)) (Operand.tmp 38) (Value.int IntKind.i64 3) t25_17) w25 K25 (Pan R)) (fun c39_25 ψ25 =>
 DetOp Rb21 Rs21 w21 (fun w26 K26 => DoV Try.prog (Instr.sliceAt 23 v0 none (some c39_25) none) w26 K26 (Pan R)) (fun c40_26 ψ26 =>
 DetOp Rb21 Rs21 w21 (fun w27 K27 => DoV Try.prog (convert 23 9 c40_26) w27 K27 (Pan R)) (fun c41_27 ψ27 =>
 DetOp Rb21 Rs21 w21 (fun w28 K28 => CallF Try.prog 27 #[c41_27] w28 K28 (Pan R)) (fun c42_28 ψ28 =>
 NdOp Rs21 Rb21 w21 (fun w29 K29 => CallF Try.prog 26 #[c42_28] w29 K29 (Pan R)) (fun v43_29 φ29 =>
 ∀ w30, Rb21 w21 w30 → (((((((True ∧ ψ22 w30) ∧ ψ23 w30) ∧ ψ24 w30) ∧ ψ25 w30) ∧ ψ26 w30) ∧ ψ27 w30) ∧ ψ28 w30) ∧ φ29 w30 →
 CallF Try.prog 12 #[c36_24, v43_29] w30 (fun t44_31 w31 =>
 DoV Try.prog (Op.unary UnOp.not t44_31) w31 (fun t45_32 w32 =>
 Br t45_32
(R (.returned (Value.tuple #[(Value.slice none 0 0), (Value.int IntKind.i64 0)])) w32)
(DoV Try.prog (binS BinOp.add 3 (Operand.const (Value.int IntKind.i64 3)) (Operand.tmp 48) (Value.int IntKind.i64 3) t25_17) w32 (fun t49_33 w33 =>
 DoV Try.prog (Instr.sliceAt 23 v0 (some (Value.int IntKind.i64 3)) (some t49_33) none) w33 (fun t50_34 w34 =>
 CallF Try.prog 16 #[t50_34] w34 (fun t51_35 w35 =>
 DoV Try.prog (Instr.extract t51_35 0) w35 (fun t52_36 w36 =>
 DoV Try.prog (Instr.extract t51_35 1) w36 (fun t53_37 w37 =>
 DoV Try.prog (binS BinOp.neq 25 (Operand.tmp 54) (Operand.const (Value.int IntKind.i64 0)) t53_37 (Value.int IntKind.i64 0)) w37 (fun t55_38 w38 =>
 Br t55_38
(R (.returned (Value.tuple #[(Value.slice none 0 0), (Value.int IntKind.i64 0)])) w38)
(DoV Try.prog (binS BinOp.add 3 (Operand.tmp 57) (Operand.const (Value.int IntKind.i64 11)) t25_17 (Value.int IntKind.i64 11)) w38 (fun t58_39 w39 =>
 R (.returned (Value.tuple #[t52_36, t58_39])) w39) (Pan R))) (Pan R)) (Pan R)) (Pan R)) (Pan R)) (Pan R)) (Pan R))) (Pan R)) (Pan R)))))))))))) (Pan R)) (Pan R)) (Pan R)) (Pan R)))))))))))))))) (Pan R)) (Pan R)
theorem sh_landfallref08_whole_eq (v0 : Value) (R : Ending → World → Prop) (w : World) : vc Try.prog [(3, 15, false, 0), (6, 12, true, 13)] [] (Try.f32.body.getD .skip) (endE Try.prog Try.f32.results R) (argsE [v0]) [] w = sh_landfallref08_whole v0 R w := by kernel_rfl
theorem sh_landfallref08_whole_ok (v0 : Value) {R : Ending → World → Prop} {w : World} (h : sh_landfallref08_whole v0 R w) : Calls Try.prog 32 #[v0] w R :=
  calls_of_vc (args := [v0]) [(3, 15, false, 0), (6, 12, true, 13)] [] follows_mixed Try.func32 rfl (of_decide_eq_true (by kernel_rfl)) (by kernel_rfl) ((sh_landfallref08_whole_eq v0 R w).symm ▸ h)
/- landfall/codec.number -/
def sh_codec_number (v0 : Value) (R : Ending → World → Prop) (w : World) : Prop :=
 DoV Try.prog (convert 3 51 v0) w (fun t4_1 w1 =>
 DoV Try.prog (binS BinOp.shl 51 (Operand.tmp 4) (Operand.const (Value.int IntKind.u64 1)) t4_1 (Value.int IntKind.u64 1)) w1 (fun t5_2 w2 =>
 DoV Try.prog (binS BinOp.shr 3 (Operand.tmp 6) (Operand.const (Value.int IntKind.u64 63)) v0 (Value.int IntKind.u64 63)) w2 (fun t7_3 w3 =>
 DoV Try.prog (convert 3 51 t7_3) w3 (fun t8_4 w4 =>
 DoV Try.prog (binS BinOp.xor 51 (Operand.tmp 5) (Operand.tmp 8) t5_2 t8_4) w4 (fun t9_5 w5 =>
 R (.returned t9_5) w5) (Pan R)) (Pan R)) (Pan R)) (Pan R)) (Pan R)
theorem sh_codec_number_eq (v0 : Value) (R : Ending → World → Prop) (w : World) : vc Try.prog [] [] (Try.f33.body.getD .skip) (endE Try.prog Try.f33.results R) (argsE [v0]) [] w = sh_codec_number v0 R w := by kernel_rfl
theorem sh_codec_number_ok (v0 : Value) {R : Ending → World → Prop} {w : World} (h : sh_codec_number v0 R w) : Calls Try.prog 33 #[v0] w R :=
  calls_of_vc (args := [v0]) [] [] follows_mixed Try.func33 rfl (of_decide_eq_true (by kernel_rfl)) (by kernel_rfl) ((sh_codec_number_eq v0 R w).symm ▸ h)
/- landfall/digest.Text -/
def sh_digest_Text (v0 : Value) (R : Ending → World → Prop) (w : World) : Prop :=
 CallF Try.prog 35 #[] w (fun t6_1 w1 =>
 DoV Try.prog (Instr.extract t6_1 0) w1 (fun t7_2 w2 =>
 DoV Try.prog (Instr.extract t6_1 1) w2 (fun t8_3 w3 =>
 DoV Try.prog (convert 9 23 v0) w3 (fun t11_4 w4 =>
 CallV Try.prog t7_2 #[t11_4] w4 (fun _ w5 =>
 CallV Try.prog t8_3 #[] w5 (fun t14_6 w6 =>
 R (.returned t14_6) w6) (Pan R)) (Pan R)) (Pan R)) (Pan R)) (Pan R)) (Pan R)
theorem sh_digest_Text_eq (v0 : Value) (R : Ending → World → Prop) (w : World) : vc Try.prog [] [] (Try.f34.body.getD .skip) (endE Try.prog Try.f34.results R) (argsE [v0]) [] w = sh_digest_Text v0 R w := by kernel_rfl
theorem sh_digest_Text_ok (v0 : Value) {R : Ending → World → Prop} {w : World} (h : sh_digest_Text v0 R w) : Calls Try.prog 34 #[v0] w R :=
  calls_of_vc (args := [v0]) [] [] follows_mixed Try.func34 rfl (of_decide_eq_true (by kernel_rfl)) (by kernel_rfl) ((sh_digest_Text_eq v0 R w).symm ▸ h)
/- landfall/digest.run -/
def sh_digest_run (R : Ending → World → Prop) (w : World) : Prop :=
 DoV Try.prog (Instr.alloc 51 true (.tuple #[])) w (fun t2_1 w1 =>
 DoU Try.prog (Instr.storeAt 51 t2_1 (Value.int IntKind.u64 14695981039346656037)) w1 (fun _ w2 =>
 DoV Try.prog (Instr.makeFunc (Fn.func 36) #[] #[t2_1]) w2 (fun t4_3 w3 =>
 DoV Try.prog (Instr.makeFunc (Fn.func 37) #[] #[t2_1]) w3 (fun t6_4 w4 =>
 R (.returned (Value.tuple #[t4_3, t6_4])) w4) (Pan R)) (Pan R)) (Pan R)) (Pan R)
theorem sh_digest_run_eq (R : Ending → World → Prop) (w : World) : vc Try.prog [] [] (Try.f35.body.getD .skip) (endE Try.prog Try.f35.results R) (argsE []) [] w = sh_digest_run  R w := by kernel_rfl
theorem sh_digest_run_ok {R : Ending → World → Prop} {w : World} (h : sh_digest_run  R w) : Calls Try.prog 35 #[] w R :=
  calls_of_vc (args := []) [] [] follows_mixed Try.func35 rfl (of_decide_eq_true (by kernel_rfl)) (by kernel_rfl) ((sh_digest_run_eq  R w).symm ▸ h)
/- landfall/digest.run$1 -/
def sh_digest_run_1 (v0 v1 : Value) (R : Ending → World → Prop) (w : World) : Prop :=
 CallB Try.prog Builtin.len #[23] 3 #[false] #[v0] w (fun t6_1 w1 =>
 LoopE [7] [(Value.int IntKind.i64 0)] w1 (fun h2 w2 K2 =>
 DoV Try.prog (binS BinOp.lss 3 (Operand.tmp 7) (Operand.tmp 6) (h2 7) t6_1) w2 (fun t8_3 w3 =>
 Br t8_3
(DoV Try.prog (Instr.indexAt 23 v0 (h2 7)) w3 (fun t9_4 w4 =>
 DoV Try.prog (Instr.loadAt 5 t9_4) w4 (fun t10_5 w5 =>
 DoV Try.prog (Instr.loadAt 51 v1) w5 (fun t11_6 w6 =>
 DoV Try.prog (convert 5 51 t10_5) w6 (fun t13_7 w7 =>
 DoV Try.prog (binS BinOp.xor 51 (Operand.tmp 11) (Operand.tmp 13) t11_6 t13_7) w7 (fun t14_8 w8 =>
 DoV Try.prog (binS BinOp.mul 51 (Operand.tmp 14) (Operand.const (Value.int IntKind.u64 1099511628211)) t14_8 (Value.int IntKind.u64 1099511628211)) w8 (fun t15_9 w9 =>
 DoU Try.prog (Instr.storeAt 51 v1 t15_9) w9 (fun _ w10 =>
 DoV Try.prog (binS BinOp.add 3 (Operand.tmp 7) (Operand.const (Value.int IntKind.i64 1)) (h2 7) (Value.int IntKind.i64 1)) w10 (fun t16_11 w11 =>
 K2 [t16_11] w11) (Pan R)) (Pan R)) (Pan R)) (Pan R)) (Pan R)) (Pan R)) (Pan R)) (Pan R))
(R (.returned (Value.tuple #[])) w3)) (Pan R))) (Pan R)
theorem sh_digest_run_1_eq (v0 v1 : Value) (R : Ending → World → Prop) (w : World) : vc Try.prog [] [7] (Try.f36.body.getD .skip) (endE Try.prog Try.f36.results R) (argsE [v0, v1]) [] w = sh_digest_run_1 v0 v1 R w := by kernel_rfl
theorem sh_digest_run_1_ok (v0 v1 : Value) {R : Ending → World → Prop} {w : World} (h : sh_digest_run_1 v0 v1 R w) : Calls Try.prog 36 #[v0, v1] w R :=
  calls_of_vc (args := [v0, v1]) [] [7] follows_mixed Try.func36 rfl (of_decide_eq_true (by kernel_rfl)) (by kernel_rfl) ((sh_digest_run_1_eq v0 v1 R w).symm ▸ h)
/- landfall/digest.run$2 -/
def sh_digest_run_2 (v0 : Value) (R : Ending → World → Prop) (w : World) : Prop :=
 DoV Try.prog (Instr.loadAt 51 v0) w (fun t2_1 w1 =>
 R (.returned t2_1) w1) (Pan R)
theorem sh_digest_run_2_eq (v0 : Value) (R : Ending → World → Prop) (w : World) : vc Try.prog [] [] (Try.f37.body.getD .skip) (endE Try.prog Try.f37.results R) (argsE [v0]) [] w = sh_digest_run_2 v0 R w := by kernel_rfl
theorem sh_digest_run_2_ok (v0 : Value) {R : Ending → World → Prop} {w : World} (h : sh_digest_run_2 v0 R w) : Calls Try.prog 37 #[v0] w R :=
  calls_of_vc (args := [v0]) [] [] follows_mixed Try.func37 rfl (of_decide_eq_true (by kernel_rfl)) (by kernel_rfl) ((sh_digest_run_2_eq v0 R w).symm ▸ h)
end Go.Proofs.Ytbmkdhiigapbdaa
