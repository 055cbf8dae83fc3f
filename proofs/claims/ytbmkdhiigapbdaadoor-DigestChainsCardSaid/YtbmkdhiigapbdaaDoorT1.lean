/- WRITTEN BY gen.py: the chains of operations of some functions. -/
import Derived.Test.YtbmkdhiigapbdaaDoorOps
import Derived.Test.YtbmkdhiigapbdaaDoorRec
import Derived.Test.YtbmkdhiigapbdaaDoorProg
import Derived.KernelRfl
namespace Go.Proofs.YtbmkdhiigapbdaaDoor
open Sh
set_option maxRecDepth 100000
theorem follows_mixed : Tryd.prog.follows .mixedOrders = true := by kernel_rfl
/- landfall/landfalllaw05.DigestMatchesReference -/
def sh_landfalllaw05_DigestMatchesReference (v0 v1 v2 : Value) (R : Ending → World → Prop) (w : World) : Prop := (
 CallF Tryd.prog 9 #[] w (fun t8_1 w1 =>
 JoinE [] (fun K2 =>
 JoinE [16] (fun K3 =>
 CallB Tryd.prog Builtin.len #[9] 3 #[false] #[v0] w1 (fun t10_4 w4 =>
 DoV Tryd.prog (binS BinOp.gtr 3 (Operand.tmp 10) (Operand.const (Value.int IntKind.i64 500)) t10_4 (Value.int IntKind.i64 500)) w4 (fun t11_5 w5 =>
 Gd t11_5 false (CallB Tryd.prog Builtin.len #[23] 3 #[false] #[v2] w5 (fun t14_6 w6 =>
 DoV Tryd.prog (binS BinOp.gtr 3 (Operand.tmp 14) (Operand.const (Value.int IntKind.i64 100)) t14_6 (Value.int IntKind.i64 100)) w6 (fun t15_7 w7 =>
 K3 [t15_7] w7) (Pan R)) (Pan R))
(K3 [(Value.bool true)] w5)) (Pan R)) (Pan R))
(fun h8 w8 =>
 Br (h8 16)
(R (.returned t8_1) w8)
(K2 [] w8)))
(fun _ w9 =>
 Gd t8_1 true (CallF Tryd.prog 10 #[v0] w9 (fun t21_10 w10 =>
 CallF Tryd.prog 11 #[v0] w10 (fun t23_11 w11 =>
 DoV Tryd.prog (binS BinOp.eql 22 (Operand.tmp 21) (Operand.tmp 23) t21_10 t23_11) w11 (fun t24_12 w12 =>
 Gd t24_12 true (CallF Tryd.prog 12 #[v1, v2] w12 (fun t29_13 w13 =>
 CallF Tryd.prog 13 #[v1, v2] w13 (fun t32_14 w14 =>
 DoV Tryd.prog (binS BinOp.eql 22 (Operand.tmp 29) (Operand.tmp 32) t29_13 t32_14) w14 (fun t33_15 w15 =>
 Gd t33_15 true (CallF Tryd.prog 14 #[v2] w15 (fun t37_16 w16 =>
 CallF Tryd.prog 15 #[v2] w16 (fun t39_17 w17 =>
 DoV Tryd.prog (binS BinOp.eql 22 (Operand.tmp 37) (Operand.tmp 39) t37_16 t39_17) w17 (fun t40_18 w18 =>
 R (.returned t40_18) w18) (Pan R)) (Pan R)) (Pan R))
(R (.returned (Value.bool false)) w15)) (Pan R)) (Pan R)) (Pan R))
(R (.returned (Value.bool false)) w12)) (Pan R)) (Pan R)) (Pan R))
(R (.returned (Value.bool false)) w9))) (Pan R))
theorem sh_landfalllaw05_DigestMatchesReference_eq (v0 v1 v2 : Value) (R : Ending → World → Prop) (w : World) : vc Tryd.prog [] [] (Tryd.f3.body.getD .skip) (endE Tryd.prog Tryd.f3.results R) (argsE [v0, v1, v2]) [] w = sh_landfalllaw05_DigestMatchesReference v0 v1 v2 R w := by kernel_rfl
theorem sh_landfalllaw05_DigestMatchesReference_ok (v0 v1 v2 : Value) {R : Ending → World → Prop} {w : World} (h : sh_landfalllaw05_DigestMatchesReference v0 v1 v2 R w) : Calls Tryd.prog 3 #[v0, v1, v2] w R :=
  calls_of_vc (args := [v0, v1, v2]) [] [] follows_mixed Tryd.func3 rfl (of_decide_eq_true (by kernel_rfl)) (by kernel_rfl) ((sh_landfalllaw05_DigestMatchesReference_eq v0 v1 v2 R w).symm ▸ h)
/- landfall/landfalllaw05.DigestOneByte -/
def sh_landfalllaw05_DigestOneByte (v0 v1 v2 : Value) (R : Ending → World → Prop) (w : World) : Prop := (
 CallF Tryd.prog 9 #[] w (fun t9_1 w1 =>
 JoinE [] (fun K2 =>
 JoinE [17] (fun K3 =>
 CallB Tryd.prog Builtin.len #[9] 3 #[false] #[v0] w1 (fun t11_4 w4 =>
 DoV Tryd.prog (binS BinOp.eql 3 (Operand.tmp 11) (Operand.const (Value.int IntKind.i64 0)) t11_4 (Value.int IntKind.i64 0)) w4 (fun t12_5 w5 =>
 Gd t12_5 false (CallB Tryd.prog Builtin.len #[9] 3 #[false] #[v0] w5 (fun t15_6 w6 =>
 DoV Tryd.prog (binS BinOp.gtr 3 (Operand.tmp 15) (Operand.const (Value.int IntKind.i64 500)) t15_6 (Value.int IntKind.i64 500)) w6 (fun t16_7 w7 =>
 K3 [t16_7] w7) (Pan R)) (Pan R))
(K3 [(Value.bool true)] w5)) (Pan R)) (Pan R))
(fun h8 w8 =>
 Br (h8 17)
(R (.returned t9_1) w8)
(K2 [] w8)))
(fun _ w9 =>
 DoV Tryd.prog (convert 9 32 v0) w9 (fun t20_10 w10 =>
 DoV Tryd.prog (convert 31 3 v1) w10 (fun t23_11 w11 =>
 CallB Tryd.prog Builtin.len #[32] 3 #[false] #[t20_10] w11 (fun t25_12 w12 =>
 DoV Tryd.prog (binS BinOp.rem 3 (Operand.tmp 23) (Operand.tmp 25) t23_11 t25_12) w12 (fun t26_13 w13 =>
 DoV Tryd.prog (Instr.indexAt 32 t20_10 t26_13) w13 (fun t27_14 w14 =>
 DoV Tryd.prog (Instr.loadAt 5 t27_14) w14 (fun t28_15 w15 =>
 DoV Tryd.prog (binS BinOp.xor 5 (Operand.tmp 28) (Operand.tmp 29) t28_15 v2) w15 (fun t30_16 w16 =>
 DoV Tryd.prog (Instr.indexAt 32 t20_10 t26_13) w16 (fun t31_17 w17 =>
 DoU Tryd.prog (Instr.storeAt 5 t31_17 t30_16) w17 (fun _ w18 =>
 DrawE w18 (fun Rs19 Rb19 w19 =>
 Gd t9_1 true (DetOp Rb19 Rs19 w19 (fun w20 K20 => CallF Tryd.prog 10 #[v0] w20 K20 (Pan R)) (fun c35_20 ψ20 =>
 DetOp Rb19 Rs19 w19 (fun w21 K21 => DoV Tryd.prog (convert 32 9 t20_10) w21 K21 (Pan R)) (fun c37_21 ψ21 =>
 DetOp Rs19 Rb19 w19 (fun w22 K22 => CallF Tryd.prog 10 #[c37_21] w22 K22 (Pan R)) (fun c38_22 ψ22 =>
 DetOp Rb19 Rs19 w19 (fun w23 K23 => DoV Tryd.prog (binS BinOp.eql 22 (Operand.tmp 35) (Operand.tmp 38) c35_20 c38_22) w23 K23 (Pan R)) (fun c39_23 ψ23 =>
 DetOp Rb19 Rs19 w19 (fun w24 K24 => DoV Tryd.prog (binS BinOp.eql 5 (Operand.tmp 40) (Operand.const (Value.int IntKind.u8 0)) v2 (Value.int IntKind.u8 0)) w24 K24 (Pan R)) (fun c41_24 ψ24 =>
 ∀ w25, Rb19 w19 w25 → (((((True ∧ ψ20 w25) ∧ ψ21 w25) ∧ ψ22 w25) ∧ ψ23 w25) ∧ ψ24 w25) →
 DoV Tryd.prog (binS BinOp.eql 4 (Operand.tmp 39) (Operand.tmp 41) c39_23 c41_24) w25 (fun t42_26 w26 =>
 R (.returned t42_26) w26) (Pan R)))))))
(∀ w27, Rb19 w19 w27 → True →
 R (.returned (Value.bool false)) w27))) (Pan R)) (Pan R)) (Pan R)) (Pan R)) (Pan R)) (Pan R)) (Pan R)) (Pan R)) (Pan R))) (Pan R))
theorem sh_landfalllaw05_DigestOneByte_eq (v0 v1 v2 : Value) (R : Ending → World → Prop) (w : World) : vc Tryd.prog [(6, 10, false, 7)] [] (Tryd.f4.body.getD .skip) (endE Tryd.prog Tryd.f4.results R) (argsE [v0, v1, v2]) [] w = sh_landfalllaw05_DigestOneByte v0 v1 v2 R w := by kernel_rfl
theorem sh_landfalllaw05_DigestOneByte_ok (v0 v1 v2 : Value) {R : Ending → World → Prop} {w : World} (h : sh_landfalllaw05_DigestOneByte v0 v1 v2 R w) : Calls Tryd.prog 4 #[v0, v1, v2] w R :=
  calls_of_vc (args := [v0, v1, v2]) [(6, 10, false, 7)] [] follows_mixed Tryd.func4 rfl (of_decide_eq_true (by kernel_rfl)) (by kernel_rfl) ((sh_landfalllaw05_DigestOneByte_eq v0 v1 v2 R w).symm ▸ h)
/- landfall/landfalllaw05.DigestFollows -/
def sh_landfalllaw05_DigestFollows (v0 v1 v2 : Value) (R : Ending → World → Prop) (w : World) : Prop := (
 CallF Tryd.prog 9 #[] w (fun t8_1 w1 =>
 JoinE [] (fun K2 =>
 JoinE [21] (fun K3 =>
 CallB Tryd.prog Builtin.len #[9] 3 #[false] #[v0] w1 (fun t10_4 w4 =>
 DoV Tryd.prog (binS BinOp.gtr 3 (Operand.tmp 10) (Operand.const (Value.int IntKind.i64 200)) t10_4 (Value.int IntKind.i64 200)) w4 (fun t11_5 w5 =>
 Gd t11_5 false (CallB Tryd.prog Builtin.len #[9] 3 #[false] #[v1] w5 (fun t14_6 w6 =>
 DoV Tryd.prog (binS BinOp.gtr 3 (Operand.tmp 14) (Operand.const (Value.int IntKind.i64 200)) t14_6 (Value.int IntKind.i64 200)) w6 (fun t15_7 w7 =>
 Gd t15_7 false (CallB Tryd.prog Builtin.len #[9] 3 #[false] #[v2] w7 (fun t19_8 w8 =>
 DoV Tryd.prog (binS BinOp.gtr 3 (Operand.tmp 19) (Operand.const (Value.int IntKind.i64 200)) t19_8 (Value.int IntKind.i64 200)) w8 (fun t20_9 w9 =>
 K3 [t20_9] w9) (Pan R)) (Pan R))
(K3 [(Value.bool true)] w7)) (Pan R)) (Pan R))
(K3 [(Value.bool true)] w5)) (Pan R)) (Pan R))
(fun h10 w10 =>
 Br (h10 21)
(R (.returned t8_1) w10)
(K2 [] w10)))
(fun _ w11 =>
 Gd t8_1 true (CallF Tryd.prog 10 #[v0] w11 (fun t26_12 w12 =>
 CallF Tryd.prog 10 #[v1] w12 (fun t28_13 w13 =>
 DoV Tryd.prog (binS BinOp.eql 22 (Operand.tmp 26) (Operand.tmp 28) t26_12 t28_13) w13 (fun t29_14 w14 =>
 DoV Tryd.prog (binS BinOp.add 9 (Operand.tmp 30) (Operand.tmp 31) v0 v2) w14 (fun t32_15 w15 =>
 CallF Tryd.prog 10 #[t32_15] w15 (fun t33_16 w16 =>
 DoV Tryd.prog (binS BinOp.add 9 (Operand.tmp 34) (Operand.tmp 35) v1 v2) w16 (fun t36_17 w17 =>
 CallF Tryd.prog 10 #[t36_17] w17 (fun t37_18 w18 =>
 DoV Tryd.prog (binS BinOp.eql 22 (Operand.tmp 33) (Operand.tmp 37) t33_16 t37_18) w18 (fun t38_19 w19 =>
 DoV Tryd.prog (binS BinOp.eql 4 (Operand.tmp 29) (Operand.tmp 38) t29_14 t38_19) w19 (fun t39_20 w20 =>
 R (.returned t39_20) w20) (Pan R)) (Pan R)) (Pan R)) (Pan R)) (Pan R)) (Pan R)) (Pan R)) (Pan R)) (Pan R))
(R (.returned (Value.bool false)) w11))) (Pan R))
theorem sh_landfalllaw05_DigestFollows_eq (v0 v1 v2 : Value) (R : Ending → World → Prop) (w : World) : vc Tryd.prog [] [] (Tryd.f5.body.getD .skip) (endE Tryd.prog Tryd.f5.results R) (argsE [v0, v1, v2]) [] w = sh_landfalllaw05_DigestFollows v0 v1 v2 R w := by kernel_rfl
theorem sh_landfalllaw05_DigestFollows_ok (v0 v1 v2 : Value) {R : Ending → World → Prop} {w : World} (h : sh_landfalllaw05_DigestFollows v0 v1 v2 R w) : Calls Tryd.prog 5 #[v0, v1, v2] w R :=
  calls_of_vc (args := [v0, v1, v2]) [] [] follows_mixed Tryd.func5 rfl (of_decide_eq_true (by kernel_rfl)) (by kernel_rfl) ((sh_landfalllaw05_DigestFollows_eq v0 v1 v2 R w).symm ▸ h)
/- landfall/landfalllaw05.DigestTexts -/
def sh_landfalllaw05_DigestTexts (v0 v1 : Value) (R : Ending → World → Prop) (w : World) : Prop := (
 CallF Tryd.prog 9 #[] w (fun t7_1 w1 =>
 CallB Tryd.prog Builtin.len #[23] 3 #[false] #[v1] w1 (fun t9_2 w2 =>
 DoV Tryd.prog (binS BinOp.gtr 3 (Operand.tmp 9) (Operand.const (Value.int IntKind.i64 100)) t9_2 (Value.int IntKind.i64 100)) w2 (fun t10_3 w3 =>
 Br t10_3
(R (.returned t7_1) w3)
(CallF Tryd.prog 10 #[(Value.string { data := #[] })] w3 (fun t12_4 w4 =>
 Gd t7_1 true (CallF Tryd.prog 12 #[v0, v1] w4 (fun t17_5 w5 =>
 CallF Tryd.prog 16 #[v0, v1] w5 (fun t20_6 w6 =>
 DoV Tryd.prog (convert 32 9 t20_6) w6 (fun t21_7 w7 =>
 CallF Tryd.prog 10 #[t21_7] w7 (fun t22_8 w8 =>
 DoV Tryd.prog (binS BinOp.eql 22 (Operand.tmp 17) (Operand.tmp 22) t17_5 t22_8) w8 (fun t23_9 w9 =>
 Gd t23_9 true (CallF Tryd.prog 14 #[v1] w9 (fun t27_10 w10 =>
 CallF Tryd.prog 16 #[t12_4, v1] w10 (fun t30_11 w11 =>
 DoV Tryd.prog (convert 32 9 t30_11) w11 (fun t31_12 w12 =>
 CallF Tryd.prog 10 #[t31_12] w12 (fun t32_13 w13 =>
 DoV Tryd.prog (binS BinOp.eql 22 (Operand.tmp 27) (Operand.tmp 32) t27_10 t32_13) w13 (fun t33_14 w14 =>
 R (.returned t33_14) w14) (Pan R)) (Pan R)) (Pan R)) (Pan R)) (Pan R))
(R (.returned (Value.bool false)) w9)) (Pan R)) (Pan R)) (Pan R)) (Pan R)) (Pan R))
(R (.returned (Value.bool false)) w4)) (Pan R))) (Pan R)) (Pan R)) (Pan R))
theorem sh_landfalllaw05_DigestTexts_eq (v0 v1 : Value) (R : Ending → World → Prop) (w : World) : vc Tryd.prog [] [] (Tryd.f6.body.getD .skip) (endE Tryd.prog Tryd.f6.results R) (argsE [v0, v1]) [] w = sh_landfalllaw05_DigestTexts v0 v1 R w := by kernel_rfl
theorem sh_landfalllaw05_DigestTexts_ok (v0 v1 : Value) {R : Ending → World → Prop} {w : World} (h : sh_landfalllaw05_DigestTexts v0 v1 R w) : Calls Tryd.prog 6 #[v0, v1] w R :=
  calls_of_vc (args := [v0, v1]) [] [] follows_mixed Tryd.func6 rfl (of_decide_eq_true (by kernel_rfl)) (by kernel_rfl) ((sh_landfalllaw05_DigestTexts_eq v0 v1 R w).symm ▸ h)
/- landfall/landfalllaw05.DigestDigits -/
def sh_landfalllaw05_DigestDigits (v0 v1 v2 v3 : Value) (R : Ending → World → Prop) (w : World) : Prop := (
 CallF Tryd.prog 9 #[] w (fun t13_1 w1 =>
 JoinE [] (fun K2 =>
 JoinE [21] (fun K3 =>
 CallB Tryd.prog Builtin.len #[23] 3 #[false] #[v1] w1 (fun t15_4 w4 =>
 DoV Tryd.prog (binS BinOp.eql 3 (Operand.tmp 15) (Operand.const (Value.int IntKind.i64 0)) t15_4 (Value.int IntKind.i64 0)) w4 (fun t16_5 w5 =>
 Gd t16_5 false (CallB Tryd.prog Builtin.len #[23] 3 #[false] #[v1] w5 (fun t19_6 w6 =>
 DoV Tryd.prog (binS BinOp.gtr 3 (Operand.tmp 19) (Operand.const (Value.int IntKind.i64 100)) t19_6 (Value.int IntKind.i64 100)) w6 (fun t20_7 w7 =>
 K3 [t20_7] w7) (Pan R)) (Pan R))
(K3 [(Value.bool true)] w5)) (Pan R)) (Pan R))
(fun h8 w8 =>
 Br (h8 21)
(R (.returned t13_1) w8)
(K2 [] w8)))
(fun _ w9 =>
 DoV Tryd.prog (Instr.buildSlice 23 0 #[]) w9 (fun t23_10 w10 =>
 CallB Tryd.prog Builtin.append #[23, 23] 23 #[false, false] #[t23_10, v1] w10 (fun t25_11 w11 =>
 DoV Tryd.prog (convert 31 3 v2) w11 (fun t27_12 w12 =>
 CallB Tryd.prog Builtin.len #[23] 3 #[false] #[t25_11] w12 (fun t29_13 w13 =>
 DoV Tryd.prog (binS BinOp.rem 3 (Operand.tmp 27) (Operand.tmp 29) t27_12 t29_13) w13 (fun t30_14 w14 =>
 DoV Tryd.prog (Instr.indexAt 23 t25_11 t30_14) w14 (fun t33_15 w15 =>
 DoV Tryd.prog (Instr.loadAt 3 t33_15) w15 (fun t34_16 w16 =>
 JoinE [] (fun K17 =>
 JoinE [40] (fun K18 =>
 DoV Tryd.prog (binS BinOp.lss 3 (Operand.tmp 35) (Operand.const (Value.int IntKind.i64 0)) t34_16 (Value.int IntKind.i64 0)) w16 (fun t36_19 w19 =>
 Gd t36_19 false (DoV Tryd.prog (binS BinOp.gtr 3 (Operand.tmp 38) (Operand.const (Value.int IntKind.i64 1000000000000)) t34_16 (Value.int IntKind.i64 1000000000000)) w19 (fun t39_20 w20 =>
 K18 [t39_20] w20) (Pan R))
(K18 [(Value.bool true)] w19)) (Pan R))
(fun h21 w21 =>
 Br (h21 40)
(R (.returned t13_1) w21)
(K17 [] w21)))
(fun _ w22 =>
 DoV Tryd.prog (binS BinOp.rem 3 (Operand.tmp 45) (Operand.const (Value.int IntKind.i64 10)) t34_16 (Value.int IntKind.i64 10)) w22 (fun t46_23 w23 =>
 DoV Tryd.prog (binS BinOp.sub 3 (Operand.tmp 44) (Operand.tmp 46) t34_16 t46_23) w23 (fun t47_24 w24 =>
 DoV Tryd.prog (binS BinOp.rem 3 (Operand.tmp 48) (Operand.const (Value.int IntKind.i64 10)) t34_16 (Value.int IntKind.i64 10)) w24 (fun t49_25 w25 =>
 DoV Tryd.prog (binS BinOp.add 3 (Operand.tmp 49) (Operand.const (Value.int IntKind.i64 1)) t49_25 (Value.int IntKind.i64 1)) w25 (fun t50_26 w26 =>
 DoV Tryd.prog (convert 5 3 v3) w26 (fun t52_27 w27 =>
 DoV Tryd.prog (binS BinOp.rem 3 (Operand.tmp 52) (Operand.const (Value.int IntKind.i64 9)) t52_27 (Value.int IntKind.i64 9)) w27 (fun t53_28 w28 =>
 DoV Tryd.prog (binS BinOp.add 3 (Operand.tmp 50) (Operand.tmp 53) t50_26 t53_28) w28 (fun t54_29 w29 =>
 DoV Tryd.prog (binS BinOp.rem 3 (Operand.tmp 54) (Operand.const (Value.int IntKind.i64 10)) t54_29 (Value.int IntKind.i64 10)) w29 (fun t55_30 w30 =>
 DoV Tryd.prog (binS BinOp.add 3 (Operand.tmp 47) (Operand.tmp 55) t47_24 t55_30) w30 (fun t56_31 w31 =>
 DoV Tryd.prog (Instr.indexAt 23 t25_11 t30_14) w31 (fun t57_32 w32 =>
 DoU Tryd.prog (Instr.storeAt 3 t57_32 t56_31) w32 (fun _ w33 =>
 Gd t13_1 true (CallF Tryd.prog 12 #[v0, v1] w33 (fun t62_34 w34 =>
 CallF Tryd.prog 12 #[v0, t25_11] w34 (fun t65_35 w35 =>
 DoV Tryd.prog (binS BinOp.neq 22 (Operand.tmp 62) (Operand.tmp 65) t62_34 t65_35) w35 (fun t66_36 w36 =>
 Gd t66_36 true (CallF Tryd.prog 14 #[v1] w36 (fun t70_37 w37 =>
 CallF Tryd.prog 14 #[t25_11] w37 (fun t72_38 w38 =>
 DoV Tryd.prog (binS BinOp.neq 22 (Operand.tmp 70) (Operand.tmp 72) t70_37 t72_38) w38 (fun t73_39 w39 =>
 R (.returned t73_39) w39) (Pan R)) (Pan R)) (Pan R))
(R (.returned (Value.bool false)) w36)) (Pan R)) (Pan R)) (Pan R))
(R (.returned (Value.bool false)) w33)) (Pan R)) (Pan R)) (Pan R)) (Pan R)) (Pan R)) (Pan R)) (Pan R)) (Pan R)) (Pan R)) (Pan R)) (Pan R))) (Pan R)) (Pan R)) (Pan R)) (Pan R)) (Pan R)) (Pan R)) (Pan R))) (Pan R))
theorem sh_landfalllaw05_DigestDigits_eq (v0 v1 v2 v3 : Value) (R : Ending → World → Prop) (w : World) : vc Tryd.prog [] [] (Tryd.f7.body.getD .skip) (endE Tryd.prog Tryd.f7.results R) (argsE [v0, v1, v2, v3]) [] w = sh_landfalllaw05_DigestDigits v0 v1 v2 v3 R w := by kernel_rfl
theorem sh_landfalllaw05_DigestDigits_ok (v0 v1 v2 v3 : Value) {R : Ending → World → Prop} {w : World} (h : sh_landfalllaw05_DigestDigits v0 v1 v2 v3 R w) : Calls Tryd.prog 7 #[v0, v1, v2, v3] w R :=
  calls_of_vc (args := [v0, v1, v2, v3]) [] [] follows_mixed Tryd.func7 rfl (of_decide_eq_true (by kernel_rfl)) (by kernel_rfl) ((sh_landfalllaw05_DigestDigits_eq v0 v1 v2 v3 R w).symm ▸ h)
/- landfall/landfalllaw05.DigestChains -/
def sh_landfalllaw05_DigestChains (v0 v1 v2 v3 : Value) (R : Ending → World → Prop) (w : World) : Prop := (
 CallF Tryd.prog 9 #[] w (fun t11_1 w1 =>
 CallB Tryd.prog Builtin.len #[23] 3 #[false] #[v3] w1 (fun t13_2 w2 =>
 DoV Tryd.prog (binS BinOp.gtr 3 (Operand.tmp 13) (Operand.const (Value.int IntKind.i64 100)) t13_2 (Value.int IntKind.i64 100)) w2 (fun t14_3 w3 =>
 Br t14_3
(R (.returned t11_1) w3)
(DoV Tryd.prog (convert 5 22 v2) w3 (fun t18_4 w4 =>
 DoV Tryd.prog (binS BinOp.rem 5 (Operand.tmp 19) (Operand.const (Value.int IntKind.u8 8)) v1 (Value.int IntKind.u8 8)) w4 (fun t20_5 w5 =>
 DoV Tryd.prog (binS BinOp.mul 5 (Operand.tmp 20) (Operand.const (Value.int IntKind.u8 8)) t20_5 (Value.int IntKind.u8 8)) w5 (fun t21_6 w6 =>
 DoV Tryd.prog (binS BinOp.shl 22 (Operand.tmp 18) (Operand.tmp 21) t18_4 t21_6) w6 (fun t22_7 w7 =>
 DoV Tryd.prog (binS BinOp.xor 22 (Operand.tmp 16) (Operand.tmp 22) v0 t22_7) w7 (fun t23_8 w8 =>
 Gd t11_1 true (CallF Tryd.prog 12 #[t23_8, v3] w8 (fun t28_9 w9 =>
 CallF Tryd.prog 12 #[v0, v3] w9 (fun t31_10 w10 =>
 DoV Tryd.prog (binS BinOp.eql 22 (Operand.tmp 28) (Operand.tmp 31) t28_9 t31_10) w10 (fun t32_11 w11 =>
 DoV Tryd.prog (binS BinOp.eql 5 (Operand.tmp 33) (Operand.const (Value.int IntKind.u8 0)) v2 (Value.int IntKind.u8 0)) w11 (fun t34_12 w12 =>
 DoV Tryd.prog (binS BinOp.eql 4 (Operand.tmp 32) (Operand.tmp 34) t32_11 t34_12) w12 (fun t35_13 w13 =>
 R (.returned t35_13) w13) (Pan R)) (Pan R)) (Pan R)) (Pan R)) (Pan R))
(R (.returned (Value.bool false)) w8)) (Pan R)) (Pan R)) (Pan R)) (Pan R)) (Pan R))) (Pan R)) (Pan R)) (Pan R))
theorem sh_landfalllaw05_DigestChains_eq (v0 v1 v2 v3 : Value) (R : Ending → World → Prop) (w : World) : vc Tryd.prog [] [] (Tryd.f8.body.getD .skip) (endE Tryd.prog Tryd.f8.results R) (argsE [v0, v1, v2, v3]) [] w = sh_landfalllaw05_DigestChains v0 v1 v2 v3 R w := by kernel_rfl
theorem sh_landfalllaw05_DigestChains_ok (v0 v1 v2 v3 : Value) {R : Ending → World → Prop} {w : World} (h : sh_landfalllaw05_DigestChains v0 v1 v2 v3 R w) : Calls Tryd.prog 8 #[v0, v1, v2, v3] w R :=
  calls_of_vc (args := [v0, v1, v2, v3]) [] [] follows_mixed Tryd.func8 rfl (of_decide_eq_true (by kernel_rfl)) (by kernel_rfl) ((sh_landfalllaw05_DigestChains_eq v0 v1 v2 v3 R w).symm ▸ h)
/- landfall/landfalllaw05.head -/
def sh_landfalllaw05_head (R : Ending → World → Prop) (w : World) : Prop := (
 JoinE [1] (fun K1 =>
 CallF Tryd.prog 10 #[(Value.string { data := #[] })] w (fun t2_2 w2 =>
 DoV Tryd.prog (binS BinOp.eql 22 (Operand.tmp 2) (Operand.const (Value.int IntKind.u64 14695981039346656037)) t2_2 (Value.int IntKind.u64 14695981039346656037)) w2 (fun t3_3 w3 =>
 Gd t3_3 true (CallF Tryd.prog 10 #[(Value.string { data := #[97] })] w3 (fun t5_4 w4 =>
 DoV Tryd.prog (binS BinOp.eql 22 (Operand.tmp 5) (Operand.const (Value.int IntKind.u64 12638187200555641996)) t5_4 (Value.int IntKind.u64 12638187200555641996)) w4 (fun t6_5 w5 =>
 Gd t6_5 true (CallF Tryd.prog 10 #[(Value.string { data := #[102, 111, 111, 98, 97, 114] })] w5 (fun t9_6 w6 =>
 DoV Tryd.prog (binS BinOp.eql 22 (Operand.tmp 9) (Operand.const (Value.int IntKind.u64 9625390261332436968)) t9_6 (Value.int IntKind.u64 9625390261332436968)) w6 (fun t10_7 w7 =>
 K1 [t10_7] w7) (Pan R)) (Pan R))
(K1 [(Value.bool false)] w5)) (Pan R)) (Pan R))
(K1 [(Value.bool false)] w3)) (Pan R)) (Pan R))
(fun h8 w8 =>
 Gd (h8 1) true (DoV Tryd.prog (Instr.buildSlice 23 2 #[(0, (Value.int IntKind.i64 5)), (1, (Value.int IntKind.i64 (-1)))]) w8 (fun t14_9 w9 =>
 CallF Tryd.prog 12 #[(Value.int IntKind.u64 97), t14_9] w9 (fun t15_10 w10 =>
 CallF Tryd.prog 10 #[(Value.string { data := #[0, 0, 0, 0, 0, 0, 0, 97, 53, 32, 45, 49, 32] })] w10 (fun t16_11 w11 =>
 DoV Tryd.prog (binS BinOp.eql 22 (Operand.tmp 15) (Operand.tmp 16) t15_10 t16_11) w11 (fun t17_12 w12 =>
 Gd t17_12 true (DoV Tryd.prog (Instr.buildSlice 23 1 #[(0, (Value.int IntKind.i64 7))]) w12 (fun t20_13 w13 =>
 CallF Tryd.prog 14 #[t20_13] w13 (fun t21_14 w14 =>
 DoV Tryd.prog (Instr.buildSlice 23 1 #[(0, (Value.int IntKind.i64 7))]) w14 (fun t22_15 w15 =>
 CallF Tryd.prog 12 #[(Value.int IntKind.u64 14695981039346656037), t22_15] w15 (fun t23_16 w16 =>
 DoV Tryd.prog (binS BinOp.eql 22 (Operand.tmp 21) (Operand.tmp 23) t21_14 t23_16) w16 (fun t24_17 w17 =>
 R (.returned t24_17) w17) (Pan R)) (Pan R)) (Pan R)) (Pan R)) (Pan R))
(R (.returned (Value.bool false)) w12)) (Pan R)) (Pan R)) (Pan R)) (Pan R))
(R (.returned (Value.bool false)) w8)))
theorem sh_landfalllaw05_head_eq (R : Ending → World → Prop) (w : World) : vc Tryd.prog [] [1] (Tryd.f9.body.getD .skip) (endE Tryd.prog Tryd.f9.results R) (argsE []) [] w = sh_landfalllaw05_head  R w := by kernel_rfl
theorem sh_landfalllaw05_head_ok {R : Ending → World → Prop} {w : World} (h : sh_landfalllaw05_head  R w) : Calls Tryd.prog 9 #[] w R :=
  calls_of_vc (args := []) [] [1] follows_mixed Tryd.func9 rfl (of_decide_eq_true (by kernel_rfl)) (by kernel_rfl) ((sh_landfalllaw05_head_eq  R w).symm ▸ h)
/- landfall/digest.Text -/
def sh_digest_Text (v0 : Value) (R : Ending → World → Prop) (w : World) : Prop := (
 CallF Tryd.prog 17 #[] w (fun t6_1 w1 =>
 DoV Tryd.prog (Instr.extract t6_1 0) w1 (fun t7_2 w2 =>
 DoV Tryd.prog (Instr.extract t6_1 1) w2 (fun t8_3 w3 =>
 DoV Tryd.prog (convert 9 32 v0) w3 (fun t11_4 w4 =>
 CallV Tryd.prog t7_2 #[t11_4] w4 (fun _ w5 =>
 CallV Tryd.prog t8_3 #[] w5 (fun t14_6 w6 =>
 R (.returned t14_6) w6) (Pan R)) (Pan R)) (Pan R)) (Pan R)) (Pan R)) (Pan R))
theorem sh_digest_Text_eq (v0 : Value) (R : Ending → World → Prop) (w : World) : vc Tryd.prog [] [] (Tryd.f10.body.getD .skip) (endE Tryd.prog Tryd.f10.results R) (argsE [v0]) [] w = sh_digest_Text v0 R w := by kernel_rfl
theorem sh_digest_Text_ok (v0 : Value) {R : Ending → World → Prop} {w : World} (h : sh_digest_Text v0 R w) : Calls Tryd.prog 10 #[v0] w R :=
  calls_of_vc (args := [v0]) [] [] follows_mixed Tryd.func10 rfl (of_decide_eq_true (by kernel_rfl)) (by kernel_rfl) ((sh_digest_Text_eq v0 R w).symm ▸ h)
/- landfall/landfallref05.Text -/
def sh_landfallref05_Text (v0 : Value) (R : Ending → World → Prop) (w : World) : Prop := (
 LoopE [3, 4] [(Value.int IntKind.u64 14695981039346656037), (Value.int IntKind.i64 0)] w (fun h1 w1 K1 =>
 CallB Tryd.prog Builtin.len #[9] 3 #[false] #[v0] w1 (fun t7_2 w2 =>
 DoV Tryd.prog (binS BinOp.lss 3 (Operand.tmp 5) (Operand.tmp 7) (h1 4) t7_2) w2 (fun t8_3 w3 =>
 Br t8_3
(DoV Tryd.prog (Instr.index 9 v0 (h1 4)) w3 (fun t14_4 w4 =>
 DoV Tryd.prog (convert 5 22 t14_4) w4 (fun t15_5 w5 =>
 DoV Tryd.prog (binS BinOp.xor 22 (Operand.tmp 11) (Operand.tmp 15) (h1 3) t15_5) w5 (fun t16_6 w6 =>
 DoV Tryd.prog (binS BinOp.mul 22 (Operand.tmp 16) (Operand.const (Value.int IntKind.u64 1099511628211)) t16_6 (Value.int IntKind.u64 1099511628211)) w6 (fun t17_7 w7 =>
 DoV Tryd.prog (binS BinOp.add 3 (Operand.tmp 9) (Operand.const (Value.int IntKind.i64 1)) (h1 4) (Value.int IntKind.i64 1)) w7 (fun t10_8 w8 =>
 K1 [t17_7, t10_8] w8) (Pan R)) (Pan R)) (Pan R)) (Pan R)) (Pan R))
(R (.returned (h1 3)) w3)) (Pan R)) (Pan R)))
theorem sh_landfallref05_Text_eq (v0 : Value) (R : Ending → World → Prop) (w : World) : vc Tryd.prog [] [3, 4] (Tryd.f11.body.getD .skip) (endE Tryd.prog Tryd.f11.results R) (argsE [v0]) [] w = sh_landfallref05_Text v0 R w := by kernel_rfl
theorem sh_landfallref05_Text_ok (v0 : Value) {R : Ending → World → Prop} {w : World} (h : sh_landfallref05_Text v0 R w) : Calls Tryd.prog 11 #[v0] w R :=
  calls_of_vc (args := [v0]) [] [3, 4] follows_mixed Tryd.func11 rfl (of_decide_eq_true (by kernel_rfl)) (by kernel_rfl) ((sh_landfallref05_Text_eq v0 R w).symm ▸ h)
/- landfall/digest.Next -/
def sh_digest_Next (v0 v1 : Value) (R : Ending → World → Prop) (w : World) : Prop := (
 CallF Tryd.prog 17 #[] w (fun t13_1 w1 =>
 DoV Tryd.prog (Instr.extract t13_1 0) w1 (fun t14_2 w2 =>
 DoV Tryd.prog (Instr.extract t13_1 1) w2 (fun t15_3 w3 =>
 LoopE [7] [(Value.int IntKind.i64 56)] w3 (fun h4 w4 K4 =>
 DoV Tryd.prog (binS BinOp.geq 3 (Operand.tmp 16) (Operand.const (Value.int IntKind.i64 0)) (h4 7) (Value.int IntKind.i64 0)) w4 (fun t17_5 w5 =>
 Br t17_5
(DoV Tryd.prog (binS BinOp.shr 22 (Operand.tmp 21) (Operand.tmp 22) v0 (h4 7)) w5 (fun t23_6 w6 =>
 DoV Tryd.prog (convert 22 5 t23_6) w6 (fun t24_7 w7 =>
 DoV Tryd.prog (Instr.buildSlice 32 1 #[(0, t24_7)]) w7 (fun t25_8 w8 =>
 CallV Tryd.prog t14_2 #[t25_8] w8 (fun _ w9 =>
 DoV Tryd.prog (binS BinOp.sub 3 (Operand.tmp 18) (Operand.const (Value.int IntKind.i64 8)) (h4 7) (Value.int IntKind.i64 8)) w9 (fun t19_10 w10 =>
 K4 [t19_10] w10) (Pan R)) (Pan R)) (Pan R)) (Pan R)) (Pan R))
(CallB Tryd.prog Builtin.len #[23] 3 #[false] #[v1] w5 (fun t28_11 w11 =>
 LoopE [29] [(Value.int IntKind.i64 0)] w11 (fun h12 w12 K12 =>
 DoV Tryd.prog (binS BinOp.lss 3 (Operand.tmp 29) (Operand.tmp 28) (h12 29) t28_11) w12 (fun t30_13 w13 =>
 Br t30_13
(DoV Tryd.prog (Instr.indexAt 23 v1 (h12 29)) w13 (fun t31_14 w14 =>
 DoV Tryd.prog (Instr.loadAt 3 t31_14) w14 (fun t32_15 w15 =>
 CallF Tryd.prog 18 #[t32_15] w15 (fun t34_16 w16 =>
 DoV Tryd.prog (Instr.range 9 t34_16) w16 (fun t35_17 w17 =>
 LoopE [] [] w17 (fun h18 w18 K18 =>
 DoV Tryd.prog (Instr.next t35_17 true 0) w18 (fun t36_19 w19 =>
 DoV Tryd.prog (Instr.extract t36_19 0) w19 (fun t37_20 w20 =>
 Br t37_20
(DoV Tryd.prog (Instr.extract t36_19 2) w20 (fun t38_21 w21 =>
 DoV Tryd.prog (convert 21 5 t38_21) w21 (fun t41_22 w22 =>
 DoV Tryd.prog (Instr.buildSlice 32 1 #[(0, t41_22)]) w22 (fun t42_23 w23 =>
 CallV Tryd.prog t14_2 #[t42_23] w23 (fun _ w24 =>
 K18 [] w24) (Pan R)) (Pan R)) (Pan R)) (Pan R))
(DoV Tryd.prog (Instr.buildSlice 32 1 #[(0, (Value.int IntKind.u8 32))]) w20 (fun t45_25 w25 =>
 CallV Tryd.prog t14_2 #[t45_25] w25 (fun _ w26 =>
 DoV Tryd.prog (binS BinOp.add 3 (Operand.tmp 29) (Operand.const (Value.int IntKind.i64 1)) (h12 29) (Value.int IntKind.i64 1)) w26 (fun t47_27 w27 =>
 K12 [t47_27] w27) (Pan R)) (Pan R)) (Pan R))) (Pan R)) (Pan R))) (Pan R)) (Pan R)) (Pan R)) (Pan R))
(CallV Tryd.prog t15_3 #[] w13 (fun t49_28 w28 =>
 R (.returned t49_28) w28) (Pan R))) (Pan R))) (Pan R))) (Pan R))) (Pan R)) (Pan R)) (Pan R))
theorem sh_digest_Next_eq (v0 v1 : Value) (R : Ending → World → Prop) (w : World) : vc Tryd.prog [] [7, 29] (Tryd.f12.body.getD .skip) (endE Tryd.prog Tryd.f12.results R) (argsE [v0, v1]) [] w = sh_digest_Next v0 v1 R w := by kernel_rfl
theorem sh_digest_Next_ok (v0 v1 : Value) {R : Ending → World → Prop} {w : World} (h : sh_digest_Next v0 v1 R w) : Calls Tryd.prog 12 #[v0, v1] w R :=
  calls_of_vc (args := [v0, v1]) [] [7, 29] follows_mixed Tryd.func12 rfl (of_decide_eq_true (by kernel_rfl)) (by kernel_rfl) ((sh_digest_Next_eq v0 v1 R w).symm ▸ h)
/- landfall/landfallref05.Next -/
def sh_landfallref05_Next (v0 v1 : Value) (R : Ending → World → Prop) (w : World) : Prop := (
 CallF Tryd.prog 16 #[v0, v1] w (fun t7_1 w1 =>
 DoV Tryd.prog (convert 32 9 t7_1) w1 (fun t8_2 w2 =>
 CallF Tryd.prog 11 #[t8_2] w2 (fun t9_3 w3 =>
 R (.returned t9_3) w3) (Pan R)) (Pan R)) (Pan R))
theorem sh_landfallref05_Next_eq (v0 v1 : Value) (R : Ending → World → Prop) (w : World) : vc Tryd.prog [] [] (Tryd.f13.body.getD .skip) (endE Tryd.prog Tryd.f13.results R) (argsE [v0, v1]) [] w = sh_landfallref05_Next v0 v1 R w := by kernel_rfl
theorem sh_landfallref05_Next_ok (v0 v1 : Value) {R : Ending → World → Prop} {w : World} (h : sh_landfallref05_Next v0 v1 R w) : Calls Tryd.prog 13 #[v0, v1] w R :=
  calls_of_vc (args := [v0, v1]) [] [] follows_mixed Tryd.func13 rfl (of_decide_eq_true (by kernel_rfl)) (by kernel_rfl) ((sh_landfallref05_Next_eq v0 v1 R w).symm ▸ h)
/- landfall/digest.Sum -/
def sh_digest_Sum (v0 : Value) (R : Ending → World → Prop) (w : World) : Prop := (
 CallF Tryd.prog 12 #[(Value.int IntKind.u64 14695981039346656037), v0] w (fun t4_1 w1 =>
 R (.returned t4_1) w1) (Pan R))
theorem sh_digest_Sum_eq (v0 : Value) (R : Ending → World → Prop) (w : World) : vc Tryd.prog [] [] (Tryd.f14.body.getD .skip) (endE Tryd.prog Tryd.f14.results R) (argsE [v0]) [] w = sh_digest_Sum v0 R w := by kernel_rfl
theorem sh_digest_Sum_ok (v0 : Value) {R : Ending → World → Prop} {w : World} (h : sh_digest_Sum v0 R w) : Calls Tryd.prog 14 #[v0] w R :=
  calls_of_vc (args := [v0]) [] [] follows_mixed Tryd.func14 rfl (of_decide_eq_true (by kernel_rfl)) (by kernel_rfl) ((sh_digest_Sum_eq v0 R w).symm ▸ h)
/- landfall/landfallref05.Sum -/
def sh_landfallref05_Sum (v0 : Value) (R : Ending → World → Prop) (w : World) : Prop := (
 CallF Tryd.prog 11 #[(Value.string { data := #[] })] w (fun t3_1 w1 =>
 CallF Tryd.prog 13 #[t3_1, v0] w1 (fun t5_2 w2 =>
 R (.returned t5_2) w2) (Pan R)) (Pan R))
theorem sh_landfallref05_Sum_eq (v0 : Value) (R : Ending → World → Prop) (w : World) : vc Tryd.prog [] [] (Tryd.f15.body.getD .skip) (endE Tryd.prog Tryd.f15.results R) (argsE [v0]) [] w = sh_landfallref05_Sum v0 R w := by kernel_rfl
theorem sh_landfallref05_Sum_ok (v0 : Value) {R : Ending → World → Prop} {w : World} (h : sh_landfallref05_Sum v0 R w) : Calls Tryd.prog 15 #[v0] w R :=
  calls_of_vc (args := [v0]) [] [] follows_mixed Tryd.func15 rfl (of_decide_eq_true (by kernel_rfl)) (by kernel_rfl) ((sh_landfallref05_Sum_eq v0 R w).symm ▸ h)
/- landfall/landfallref05.Bytes -/
def sh_landfallref05_Bytes (v0 v1 : Value) (R : Ending → World → Prop) (w : World) : Prop := (
 LoopE [5, 6] [(Value.slice none 0 0), (Value.int IntKind.i64 0)] w (fun h1 w1 K1 =>
 DoV Tryd.prog (binS BinOp.lss 3 (Operand.tmp 8) (Operand.const (Value.int IntKind.i64 8)) (h1 6) (Value.int IntKind.i64 8)) w1 (fun t9_2 w2 =>
 Br t9_2
(DoV Tryd.prog (binS BinOp.mul 3 (Operand.const (Value.int IntKind.i64 8)) (Operand.tmp 14) (Value.int IntKind.i64 8) (h1 6)) w2 (fun t15_3 w3 =>
 DoV Tryd.prog (binS BinOp.sub 3 (Operand.const (Value.int IntKind.i64 56)) (Operand.tmp 15) (Value.int IntKind.i64 56) t15_3) w3 (fun t16_4 w4 =>
 DoV Tryd.prog (binS BinOp.shr 22 (Operand.tmp 13) (Operand.tmp 16) v0 t16_4) w4 (fun t17_5 w5 =>
 DoV Tryd.prog (convert 22 5 t17_5) w5 (fun t18_6 w6 =>
 DoV Tryd.prog (Instr.buildSlice 32 1 #[(0, t18_6)]) w6 (fun t19_7 w7 =>
 CallB Tryd.prog Builtin.append #[32, 32] 32 #[false, false] #[(h1 5), t19_7] w7 (fun t20_8 w8 =>
 DoV Tryd.prog (binS BinOp.add 3 (Operand.tmp 10) (Operand.const (Value.int IntKind.i64 1)) (h1 6) (Value.int IntKind.i64 1)) w8 (fun t11_9 w9 =>
 K1 [t20_8, t11_9] w9) (Pan R)) (Pan R)) (Pan R)) (Pan R)) (Pan R)) (Pan R)) (Pan R))
(LoopE [5, 7] [(h1 5), (Value.int IntKind.i64 0)] w2 (fun h10 w10 K10 =>
 CallB Tryd.prog Builtin.len #[23] 3 #[false] #[v1] w10 (fun t23_11 w11 =>
 DoV Tryd.prog (binS BinOp.lss 3 (Operand.tmp 21) (Operand.tmp 23) (h10 7) t23_11) w11 (fun t24_12 w12 =>
 Br t24_12
(DoV Tryd.prog (Instr.indexAt 23 v1 (h10 7)) w12 (fun t30_13 w13 =>
 DoV Tryd.prog (Instr.loadAt 3 t30_13) w13 (fun t31_14 w14 =>
 CallF Tryd.prog 19 #[t31_14] w14 (fun t32_15 w15 =>
 CallB Tryd.prog Builtin.append #[32, 9] 32 #[false, false] #[(h10 5), t32_15] w15 (fun t33_16 w16 =>
 DoV Tryd.prog (Instr.buildSlice 32 1 #[(0, (Value.int IntKind.u8 32))]) w16 (fun t35_17 w17 =>
 CallB Tryd.prog Builtin.append #[32, 32] 32 #[false, false] #[t33_16, t35_17] w17 (fun t36_18 w18 =>
 DoV Tryd.prog (binS BinOp.add 3 (Operand.tmp 25) (Operand.const (Value.int IntKind.i64 1)) (h10 7) (Value.int IntKind.i64 1)) w18 (fun t26_19 w19 =>
 K10 [t36_18, t26_19] w19) (Pan R)) (Pan R)) (Pan R)) (Pan R)) (Pan R)) (Pan R)) (Pan R))
(R (.returned (h10 5)) w12)) (Pan R)) (Pan R)))) (Pan R)))
theorem sh_landfallref05_Bytes_eq (v0 v1 : Value) (R : Ending → World → Prop) (w : World) : vc Tryd.prog [] [5, 6, 7] (Tryd.f16.body.getD .skip) (endE Tryd.prog Tryd.f16.results R) (argsE [v0, v1]) [] w = sh_landfallref05_Bytes v0 v1 R w := by kernel_rfl
theorem sh_landfallref05_Bytes_ok (v0 v1 : Value) {R : Ending → World → Prop} {w : World} (h : sh_landfallref05_Bytes v0 v1 R w) : Calls Tryd.prog 16 #[v0, v1] w R :=
  calls_of_vc (args := [v0, v1]) [] [5, 6, 7] follows_mixed Tryd.func16 rfl (of_decide_eq_true (by kernel_rfl)) (by kernel_rfl) ((sh_landfallref05_Bytes_eq v0 v1 R w).symm ▸ h)
/- landfall/digest.run -/
def sh_digest_run (R : Ending → World → Prop) (w : World) : Prop := (
 DoV Tryd.prog (Instr.alloc 22 true (.tuple #[])) w (fun t2_1 w1 =>
 DoU Tryd.prog (Instr.storeAt 22 t2_1 (Value.int IntKind.u64 14695981039346656037)) w1 (fun _ w2 =>
 DoV Tryd.prog (Instr.makeFunc (Fn.func 20) #[] #[t2_1]) w2 (fun t4_3 w3 =>
 DoV Tryd.prog (Instr.makeFunc (Fn.func 21) #[] #[t2_1]) w3 (fun t6_4 w4 =>
 R (.returned (Value.tuple #[t4_3, t6_4])) w4) (Pan R)) (Pan R)) (Pan R)) (Pan R))
theorem sh_digest_run_eq (R : Ending → World → Prop) (w : World) : vc Tryd.prog [] [] (Tryd.f17.body.getD .skip) (endE Tryd.prog Tryd.f17.results R) (argsE []) [] w = sh_digest_run  R w := by kernel_rfl
theorem sh_digest_run_ok {R : Ending → World → Prop} {w : World} (h : sh_digest_run  R w) : Calls Tryd.prog 17 #[] w R :=
  calls_of_vc (args := []) [] [] follows_mixed Tryd.func17 rfl (of_decide_eq_true (by kernel_rfl)) (by kernel_rfl) ((sh_digest_run_eq  R w).symm ▸ h)
/- strconv.Itoa -/
def sh_strconv_Itoa (v0 : Value) (R : Ending → World → Prop) (w : World) : Prop := (
 CallF Tryd.prog 22 #[v0] w (fun t4_1 w1 =>
 R (.returned t4_1) w1) (Pan R))
theorem sh_strconv_Itoa_eq (v0 : Value) (R : Ending → World → Prop) (w : World) : vc Tryd.prog [] [] (Tryd.f18.body.getD .skip) (endE Tryd.prog Tryd.f18.results R) (argsE [v0]) [] w = sh_strconv_Itoa v0 R w := by kernel_rfl
theorem sh_strconv_Itoa_ok (v0 : Value) {R : Ending → World → Prop} {w : World} (h : sh_strconv_Itoa v0 R w) : Calls Tryd.prog 18 #[v0] w R :=
  calls_of_vc (args := [v0]) [] [] follows_mixed Tryd.func18 rfl (of_decide_eq_true (by kernel_rfl)) (by kernel_rfl) ((sh_strconv_Itoa_eq v0 R w).symm ▸ h)
/- landfall/landfallref05.Decimal -/
def sh_landfallref05_Decimal (v0 : Value) (R : Ending → World → Prop) (w : World) : Prop := (
 DoV Tryd.prog (binS BinOp.eql 3 (Operand.tmp 8) (Operand.const (Value.int IntKind.i64 0)) v0 (Value.int IntKind.i64 0)) w (fun t9_1 w1 =>
 Br t9_1
(R (.returned (Value.string { data := #[48] })) w1)
(LoopE [3, 4, 5] [(Value.slice none 0 0), v0, undef] w1 (fun h2 w2 K2 =>
 DoV Tryd.prog (binS BinOp.neq 3 (Operand.tmp 11) (Operand.const (Value.int IntKind.i64 0)) (h2 4) (Value.int IntKind.i64 0)) w2 (fun t12_3 w3 =>
 Br t12_3
(JoinE [3, 5] (fun K4 =>
 DoV Tryd.prog (binS BinOp.rem 3 (Operand.tmp 15) (Operand.const (Value.int IntKind.i64 10)) (h2 4) (Value.int IntKind.i64 10)) w3 (fun t16_5 w5 =>
 JoinE [5] (fun K6 =>
 DoV Tryd.prog (binS BinOp.lss 3 (Operand.tmp 17) (Operand.const (Value.int IntKind.i64 0)) t16_5 (Value.int IntKind.i64 0)) w5 (fun t18_7 w7 =>
 Br t18_7
(DoV Tryd.prog (Op.unary UnOp.neg t16_5) w7 (fun t20_8 w8 =>
 K6 [t20_8] w8) (Pan R))
(K6 [t16_5] w7)) (Pan R))
(fun h9 w9 =>
 DoV Tryd.prog (binS BinOp.add 3 (Operand.const (Value.int IntKind.i64 48)) (Operand.tmp 22) (Value.int IntKind.i64 48) (h9 5)) w9 (fun t23_10 w10 =>
 DoV Tryd.prog (convert 3 5 t23_10) w10 (fun t24_11 w11 =>
 DoV Tryd.prog (Instr.buildSlice 32 1 #[(0, t24_11)]) w11 (fun t25_12 w12 =>
 CallB Tryd.prog Builtin.append #[32, 32] 32 #[false, false] #[(h2 3), t25_12] w12 (fun t26_13 w13 =>
 K4 [t26_13, (h9 5)] w13) (Pan R)) (Pan R)) (Pan R)) (Pan R))) (Pan R))
(fun h14 w14 =>
 DoV Tryd.prog (binS BinOp.quo 3 (Operand.tmp 13) (Operand.const (Value.int IntKind.i64 10)) (h2 4) (Value.int IntKind.i64 10)) w14 (fun t14_15 w15 =>
 K2 [(h14 3), t14_15, (h14 5)] w15) (Pan R)))
(JoinE [3] (fun K16 =>
 DoV Tryd.prog (binS BinOp.lss 3 (Operand.tmp 27) (Operand.const (Value.int IntKind.i64 0)) v0 (Value.int IntKind.i64 0)) w3 (fun t28_17 w17 =>
 Br t28_17
(DoV Tryd.prog (Instr.buildSlice 32 1 #[(0, (Value.int IntKind.u8 45))]) w17 (fun t30_18 w18 =>
 CallB Tryd.prog Builtin.append #[32, 32] 32 #[false, false] #[(h2 3), t30_18] w18 (fun t31_19 w19 =>
 K16 [t31_19] w19) (Pan R)) (Pan R))
(K16 [(h2 3)] w17)) (Pan R))
(fun h20 w20 =>
 CallB Tryd.prog Builtin.len #[32] 3 #[false] #[(h20 3)] w20 (fun t33_21 w21 =>
 DoV Tryd.prog (binS BinOp.sub 3 (Operand.tmp 33) (Operand.const (Value.int IntKind.i64 1)) t33_21 (Value.int IntKind.i64 1)) w21 (fun t34_22 w22 =>
 LoopE [6, 7] [(Value.slice none 0 0), t34_22] w22 (fun h23 w23 K23 =>
 DoV Tryd.prog (binS BinOp.geq 3 (Operand.tmp 35) (Operand.const (Value.int IntKind.i64 0)) (h23 7) (Value.int IntKind.i64 0)) w23 (fun t36_24 w24 =>
 Br t36_24
(DoV Tryd.prog (Instr.indexAt 32 (h20 3) (h23 7)) w24 (fun t42_25 w25 =>
 DoV Tryd.prog (Instr.loadAt 5 t42_25) w25 (fun t43_26 w26 =>
 DoV Tryd.prog (Instr.buildSlice 32 1 #[(0, t43_26)]) w26 (fun t44_27 w27 =>
 CallB Tryd.prog Builtin.append #[32, 32] 32 #[false, false] #[(h23 6), t44_27] w27 (fun t45_28 w28 =>
 DoV Tryd.prog (binS BinOp.sub 3 (Operand.tmp 37) (Operand.const (Value.int IntKind.i64 1)) (h23 7) (Value.int IntKind.i64 1)) w28 (fun t38_29 w29 =>
 K23 [t45_28, t38_29] w29) (Pan R)) (Pan R)) (Pan R)) (Pan R)) (Pan R))
(DoV Tryd.prog (convert 32 9 (h23 6)) w24 (fun t47_30 w30 =>
 R (.returned t47_30) w30) (Pan R))) (Pan R))) (Pan R)) (Pan R)))) (Pan R)))) (Pan R))
theorem sh_landfallref05_Decimal_eq (v0 : Value) (R : Ending → World → Prop) (w : World) : vc Tryd.prog [] [3, 4, 5, 6, 7] (Tryd.f19.body.getD .skip) (endE Tryd.prog Tryd.f19.results R) (argsE [v0]) [] w = sh_landfallref05_Decimal v0 R w := by kernel_rfl
theorem sh_landfallref05_Decimal_ok (v0 : Value) {R : Ending → World → Prop} {w : World} (h : sh_landfallref05_Decimal v0 R w) : Calls Tryd.prog 19 #[v0] w R :=
  calls_of_vc (args := [v0]) [] [3, 4, 5, 6, 7] follows_mixed Tryd.func19 rfl (of_decide_eq_true (by kernel_rfl)) (by kernel_rfl) ((sh_landfallref05_Decimal_eq v0 R w).symm ▸ h)
/- landfall/digest.run$1 -/
def sh_digest_run_1 (v0 v1 : Value) (R : Ending → World → Prop) (w : World) : Prop := (
 CallB Tryd.prog Builtin.len #[32] 3 #[false] #[v0] w (fun t6_1 w1 =>
 LoopE [7] [(Value.int IntKind.i64 0)] w1 (fun h2 w2 K2 =>
 DoV Tryd.prog (binS BinOp.lss 3 (Operand.tmp 7) (Operand.tmp 6) (h2 7) t6_1) w2 (fun t8_3 w3 =>
 Br t8_3
(DoV Tryd.prog (Instr.indexAt 32 v0 (h2 7)) w3 (fun t9_4 w4 =>
 DoV Tryd.prog (Instr.loadAt 5 t9_4) w4 (fun t10_5 w5 =>
 DoV Tryd.prog (Instr.loadAt 22 v1) w5 (fun t11_6 w6 =>
 DoV Tryd.prog (convert 5 22 t10_5) w6 (fun t13_7 w7 =>
 DoV Tryd.prog (binS BinOp.xor 22 (Operand.tmp 11) (Operand.tmp 13) t11_6 t13_7) w7 (fun t14_8 w8 =>
 DoV Tryd.prog (binS BinOp.mul 22 (Operand.tmp 14) (Operand.const (Value.int IntKind.u64 1099511628211)) t14_8 (Value.int IntKind.u64 1099511628211)) w8 (fun t15_9 w9 =>
 DoU Tryd.prog (Instr.storeAt 22 v1 t15_9) w9 (fun _ w10 =>
 DoV Tryd.prog (binS BinOp.add 3 (Operand.tmp 7) (Operand.const (Value.int IntKind.i64 1)) (h2 7) (Value.int IntKind.i64 1)) w10 (fun t16_11 w11 =>
 K2 [t16_11] w11) (Pan R)) (Pan R)) (Pan R)) (Pan R)) (Pan R)) (Pan R)) (Pan R)) (Pan R))
(R (.returned (Value.tuple #[])) w3)) (Pan R))) (Pan R))
theorem sh_digest_run_1_eq (v0 v1 : Value) (R : Ending → World → Prop) (w : World) : vc Tryd.prog [] [7] (Tryd.f20.body.getD .skip) (endE Tryd.prog Tryd.f20.results R) (argsE [v0, v1]) [] w = sh_digest_run_1 v0 v1 R w := by kernel_rfl
theorem sh_digest_run_1_ok (v0 v1 : Value) {R : Ending → World → Prop} {w : World} (h : sh_digest_run_1 v0 v1 R w) : Calls Tryd.prog 20 #[v0, v1] w R :=
  calls_of_vc (args := [v0, v1]) [] [7] follows_mixed Tryd.func20 rfl (of_decide_eq_true (by kernel_rfl)) (by kernel_rfl) ((sh_digest_run_1_eq v0 v1 R w).symm ▸ h)
/- landfall/digest.run$2 -/
def sh_digest_run_2 (v0 : Value) (R : Ending → World → Prop) (w : World) : Prop := (
 DoV Tryd.prog (Instr.loadAt 22 v0) w (fun t2_1 w1 =>
 R (.returned t2_1) w1) (Pan R))
theorem sh_digest_run_2_eq (v0 : Value) (R : Ending → World → Prop) (w : World) : vc Tryd.prog [] [] (Tryd.f21.body.getD .skip) (endE Tryd.prog Tryd.f21.results R) (argsE [v0]) [] w = sh_digest_run_2 v0 R w := by kernel_rfl
theorem sh_digest_run_2_ok (v0 : Value) {R : Ending → World → Prop} {w : World} (h : sh_digest_run_2 v0 R w) : Calls Tryd.prog 21 #[v0] w R :=
  calls_of_vc (args := [v0]) [] [] follows_mixed Tryd.func21 rfl (of_decide_eq_true (by kernel_rfl)) (by kernel_rfl) ((sh_digest_run_2_eq v0 R w).symm ▸ h)
end Go.Proofs.YtbmkdhiigapbdaaDoor
