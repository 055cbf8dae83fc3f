/- The chains of operations of some functions of the program. -/
import Derived.Test.YtnbcdaonkdffkaaGreatDoorET2
import Derived.Test.YtnbcdaonkdffkaaGreatDoorEBaseA
import Derived.Test.YtnbcdaonkdffkaaGreatDoorProg
import Derived.KernelRfl
set_option linter.unusedVariables false
set_option linter.unusedSimpArgs false
namespace Go.Proofs.YtnbcdaonkdffkaaGreatDoor
open Sh
variable {R : Ending → World → Prop} {w : World}
set_option maxRecDepth 100000
def sh_landfalllaw29_EditionMatchesReference (v0 v1 v2 v3 v4 v5 : Value) (R : Ending → World → Prop) (w : World) : Prop := 
 letI X := Pan R
 letI D := DoV Tryz.prog
 letI U := DoU Tryz.prog
 letI Q := CallF Tryz.prog
 letI B := CallB Tryz.prog
 letI I := Value.int IntKind.i64
 letI T := Operand.tmp
 letI L := Instr.loadAt
 letI S := Instr.storeAt
 letI E := Instr.extract
 letI N := Instr.alloc
 letI V := Value.bool
 letI J := BinOp.eql
(D (Instr.box 26 v0) w (fun t1 w1 =>
 D (Instr.box 55 v4) w1 (fun t2 w2 =>
 Q 29 #[] w2 (fun t3 w3 =>
 JoinE [] (fun K4 =>
 JoinE [36] (fun K5 =>
 D (L 26 t1) w3 (fun t6 w6 =>
 Q 12 #[t6] w6 (fun t7 w7 =>
 D (Op.unary UnOp.not t7) w7 (fun t8 w8 =>
 Gd t8 false (B Builtin.len #[36] 3 #[false] #[v1] w8 (fun t9 w9 =>
 D (binS BinOp.gtr 3 (T 28) (Operand.const (I 60)) t9 (I 60)) w9 (fun t10 w10 =>
 Gd t10 false (D (Instr.fieldAt 55 t2 3) w10 (fun t11 w11 =>
 D (L 36 t11) w11 (fun t12 w12 =>
 B Builtin.len #[36] 3 #[false] #[t12] w12 (fun t13 w13 =>
 D (binS BinOp.gtr 3 (T 34) (Operand.const (I 60)) t13 (I 60)) w13 (fun t14 w14 =>
 K5 [t14] w14) X) X) X) X)
(K5 [(V true)] w10)) X) X)
(K5 [(V true)] w8)) X) X) X)
(fun h15 w15 =>
 Br (h15 36)
(R (.returned t3) w15)
(K4 [] w15)))
(fun _ w16 =>
 D (L 26 t1) w16 (fun t17 w17 =>
 Q 30 #[t17, v1, v2, v3] w17 (fun t18 w18 =>
 D (E t18 0) w18 (fun t19 w19 =>
 D (E t18 1) w19 (fun t20 w20 =>
 D (E t18 2) w20 (fun t21 w21 =>
 D (N 55 true (.tuple #[])) w21 (fun t22 w22 =>
 D (N 26 true (.tuple #[])) w22 (fun t23 w23 =>
 U (S 55 t22 t19) w23 (fun _ w24 =>
 U (S 26 t23 t20) w24 (fun _ w25 =>
 D (L 26 t1) w25 (fun t26 w26 =>
 Q 31 #[t26, v1, v2, v3] w26 (fun t27 w27 =>
 D (E t27 0) w27 (fun t28 w28 =>
 D (E t27 1) w28 (fun t29 w29 =>
 D (E t27 2) w29 (fun t30 w30 =>
 D (N 55 true (.tuple #[])) w30 (fun t31 w31 =>
 D (N 26 true (.tuple #[])) w31 (fun t32 w32 =>
 U (S 55 t31 t28) w32 (fun _ w33 =>
 U (S 26 t32 t29) w33 (fun _ w34 =>
 JoinE [13] (fun K35 =>
 Gd t3 true (D (L 55 t22) w34 (fun t36 w36 =>
 D (L 55 t31) w36 (fun t37 w37 =>
 Q 32 #[t36, t37] w37 (fun t38 w38 =>
 Gd t38 true (D (L 26 t23) w38 (fun t39 w39 =>
 D (L 26 t32) w39 (fun t40 w40 =>
 Q 33 #[t39, t40] w40 (fun t41 w41 =>
 Gd t41 true (D (binS J 31 (T 68) (T 69) t21 t30) w41 (fun t42 w42 =>
 K35 [t42] w42) X)
(K35 [(V false)] w41)) X) X) X)
(K35 [(V false)] w38)) X) X) X)
(K35 [(V false)] w34))
(fun h43 w43 =>
 D (L 26 t1) w43 (fun t44 w44 =>
 D (L 55 t2) w44 (fun t45 w45 =>
 Q 34 #[t44, t45, v5] w45 (fun t46 w46 =>
 D (E t46 0) w46 (fun t47 w47 =>
 D (E t46 1) w47 (fun t48 w48 =>
 D (L 26 t1) w48 (fun t49 w49 =>
 D (L 55 t2) w49 (fun t50 w50 =>
 Q 35 #[t49, t50, v5] w50 (fun t51 w51 =>
 D (E t51 0) w51 (fun t52 w52 =>
 D (E t51 1) w52 (fun t53 w53 =>
 JoinE [13] (fun K54 =>
 Gd (h43 13) true (D (binS J 4 (T 88) (T 89) t47 t52) w53 (fun t55 w55 =>
 Gd t55 true (D (binS J 31 (T 93) (T 94) t48 t53) w55 (fun t56 w56 =>
 K54 [t56] w56) X)
(K54 [(V false)] w55)) X)
(K54 [(V false)] w53))
(fun h57 w57 =>
 D (L 26 t1) w57 (fun t58 w58 =>
 D (L 55 t2) w58 (fun t59 w59 =>
 Q 36 #[t58, t59, v5] w59 (fun t60 w60 =>
 D (E t60 0) w60 (fun t61 w61 =>
 D (E t60 1) w61 (fun t62 w62 =>
 U (S 26 t23 t61) w62 (fun _ w63 =>
 D (L 26 t1) w63 (fun t64 w64 =>
 D (L 55 t2) w64 (fun t65 w65 =>
 Q 37 #[t64, t65, v5] w65 (fun t66 w66 =>
 D (E t66 0) w66 (fun t67 w67 =>
 D (E t66 1) w67 (fun t68 w68 =>
 U (S 26 t32 t67) w68 (fun _ w69 =>
 Gd (h57 13) true (D (L 26 t23) w69 (fun t70 w70 =>
 D (L 26 t32) w70 (fun t71 w71 =>
 Q 33 #[t70, t71] w71 (fun t72 w72 =>
 Gd t72 true (D (binS J 31 (T 118) (T 119) t62 t68) w72 (fun t73 w73 =>
 R (.returned t73) w73) X)
(R (.returned (V false)) w72)) X) X) X)
(R (.returned (V false)) w69)) X) X) X) X) X) X) X) X) X) X) X) X)) X) X) X) X) X) X) X) X) X) X)) X) X) X) X) X) X) X) X) X) X) X) X) X) X) X) X) X) X)) X) X) X)
theorem sh_landfalllaw29_EditionMatchesReference_ok (v0 v1 v2 v3 v4 v5 : Value) (h : sh_landfalllaw29_EditionMatchesReference v0 v1 v2 v3 v4 v5 R w) : Calls Tryz.prog 4 #[v0, v1, v2, v3, v4, v5] w R :=
  calls_of_vc (c := Tryz.f4.body.getD .skip) (args := [v0, v1, v2, v3, v4, v5]) [] [13] follows_mixed Tryz.func4 rfl (of_decide_eq_true (by kernel_rfl)) (by kernel_rfl) (Eq.mp (by kernel_rfl) h)
def sh_landfalllaw29_EditionMakes (v0 v1 v2 v3 : Value) (R : Ending → World → Prop) (w : World) : Prop := 
 letI X := Pan R
 letI D := DoV Tryz.prog
 letI U := DoU Tryz.prog
 letI Q := CallF Tryz.prog
 letI I := Value.int IntKind.i64
 letI T := Operand.tmp
 letI C := Operand.const
 letI L := Instr.loadAt
 letI F := Instr.fieldAt
 letI S := Instr.storeAt
 letI E := Instr.extract
 letI N := Instr.alloc
 letI V := Value.bool
 letI J := BinOp.eql
(D (Instr.box 26 v0) w (fun t1 w1 =>
 Q 29 #[] w1 (fun t2 w2 =>
 JoinE [] (fun K3 =>
 JoinE [31] (fun K4 =>
 D (L 26 t1) w2 (fun t5 w5 =>
 Q 12 #[t5] w5 (fun t6 w6 =>
 D (Op.unary UnOp.not t6) w6 (fun t7 w7 =>
 Gd t7 false (CallB Tryz.prog Builtin.len #[36] 3 #[false] #[v1] w7 (fun t8 w8 =>
 D (binS BinOp.gtr 3 (T 29) (C (I 60)) t8 (I 60)) w8 (fun t9 w9 =>
 K4 [t9] w9) X) X)
(K4 [(V true)] w7)) X) X) X)
(fun h10 w10 =>
 Br (h10 31)
(R (.returned t2) w10)
(K3 [] w10)))
(fun _ w11 =>
 D (L 26 t1) w11 (fun t12 w12 =>
 Q 30 #[t12, v1, v2, v3] w12 (fun t13 w13 =>
 D (E t13 0) w13 (fun t14 w14 =>
 D (E t13 1) w14 (fun t15 w15 =>
 D (E t13 2) w15 (fun t16 w16 =>
 D (N 55 true (.tuple #[])) w16 (fun t17 w17 =>
 D (N 26 true (.tuple #[])) w17 (fun t18 w18 =>
 U (S 55 t17 t14) w18 (fun _ w19 =>
 U (S 26 t18 t15) w19 (fun _ w20 =>
 D (binS BinOp.neq 31 (T 42) (C (I 0)) t16 (I 0)) w20 (fun t21 w21 =>
 Br t21
(Gd t2 true (D (L 55 t17) w21 (fun t22 w22 =>
 D (Instr.build 55 #[]) w22 (fun t23 w23 =>
 Q 32 #[t22, t23] w23 (fun t24 w24 =>
 R (.returned t24) w24) X) X) X)
(R (.returned (V false)) w21))
(Q 38 #[v2] w21 (fun t25 w25 =>
 D (E t25 0) w25 (fun t26 w26 =>
 D (E t25 1) w26 (fun t27 w27 =>
 D (L 26 t1) w27 (fun t28 w28 =>
 D (L 55 t17) w28 (fun t29 w29 =>
 Q 34 #[t28, t29, t26] w29 (fun t30 w30 =>
 D (E t30 0) w30 (fun t31 w31 =>
 D (E t30 1) w31 (fun t32 w32 =>
 D (L 26 t1) w32 (fun t33 w33 =>
 D (L 55 t17) w33 (fun t34 w34 =>
 Q 36 #[t33, t34, t26] w34 (fun t35 w35 =>
 D (E t35 0) w35 (fun t36 w36 =>
 D (E t35 1) w36 (fun t37 w37 =>
 D (N 26 true (.tuple #[])) w37 (fun t38 w38 =>
 U (S 26 t38 t36) w38 (fun _ w39 =>
 D (L 26 t1) w39 (fun t40 w40 =>
 Q 27 #[t40] w40 (fun t41 w41 =>
 D (E t41 0) w41 (fun t42 w42 =>
 D (E t41 1) w42 (fun t43 w43 =>
 D (L 26 t18) w43 (fun t44 w44 =>
 Q 27 #[t44] w44 (fun t45 w45 =>
 D (E t45 0) w45 (fun t46 w46 =>
 D (E t45 1) w46 (fun t47 w47 =>
 JoinE [9] (fun K48 =>
 Gd t2 true (D (binS J 31 (T 81) (C (I 0)) t27 (I 0)) w47 (fun t49 w49 =>
 Gd t49 true (D (binS J 31 (T 85) (C (I 0)) t32 (I 0)) w49 (fun t50 w50 =>
 Gd t50 true (D (binS J 31 (T 89) (C (I 0)) t37 (I 0)) w50 (fun t51 w51 =>
 Gd t51 true (D (binS J 31 (T 93) (C (I 0)) t43 (I 0)) w51 (fun t52 w52 =>
 Gd t52 true (D (binS J 31 (T 97) (C (I 0)) t47 (I 0)) w52 (fun t53 w53 =>
 K48 [t53] w53) X)
(K48 [(V false)] w52)) X)
(K48 [(V false)] w51)) X)
(K48 [(V false)] w50)) X)
(K48 [(V false)] w49)) X)
(K48 [(V false)] w47))
(fun h54 w54 =>
 Gd (h54 9) true (Gd t31 true (D (L 26 t38) w54 (fun t55 w55 =>
 D (L 26 t18) w55 (fun t56 w56 =>
 Q 33 #[t55, t56] w56 (fun t57 w57 =>
 Gd t57 true (D (L 26 t18) w57 (fun t58 w58 =>
 Q 15 #[t58] w58 (fun t59 w59 =>
 Gd t59 true (D (F 55 t17 1) w59 (fun t60 w60 =>
 D (L 48 t60) w60 (fun t61 w61 =>
 D (binS J 48 (T 115) (T 116) t61 t42) w61 (fun t62 w62 =>
 Gd t62 true (D (F 55 t17 2) w62 (fun t63 w63 =>
 D (L 48 t63) w63 (fun t64 w64 =>
 D (binS J 48 (T 121) (T 122) t64 t46) w64 (fun t65 w65 =>
 Gd t65 true (D (F 26 t18 0) w65 (fun t66 w66 =>
 D (L 3 t66) w66 (fun t67 w67 =>
 D (F 26 t1 0) w67 (fun t68 w68 =>
 D (L 3 t68) w68 (fun t69 w69 =>
 D (binS BinOp.add 3 (T 129) (C (I 1)) t69 (I 1)) w69 (fun t70 w70 =>
 D (binS J 3 (T 127) (T 130) t67 t70) w70 (fun t71 w71 =>
 R (.returned t71) w71) X) X) X) X) X) X)
(R (.returned (V false)) w65)) X) X) X)
(R (.returned (V false)) w62)) X) X) X)
(R (.returned (V false)) w59)) X) X)
(R (.returned (V false)) w57)) X) X) X)
(R (.returned (V false)) w54))
(R (.returned (V false)) w54))) X) X) X) X) X) X) X) X) X) X) X) X) X) X) X) X) X) X) X) X) X) X) X)) X) X) X) X) X) X) X) X) X) X)) X) X)
theorem sh_landfalllaw29_EditionMakes_ok (v0 v1 v2 v3 : Value) (h : sh_landfalllaw29_EditionMakes v0 v1 v2 v3 R w) : Calls Tryz.prog 5 #[v0, v1, v2, v3] w R :=
  calls_of_vc (c := Tryz.f5.body.getD .skip) (args := [v0, v1, v2, v3]) [] [9] follows_mixed Tryz.func5 rfl (of_decide_eq_true (by kernel_rfl)) (by kernel_rfl) (Eq.mp (by kernel_rfl) h)
def sh_landfalllaw29_EditionRight (v0 v1 v2 : Value) (R : Ending → World → Prop) (w : World) : Prop := 
 letI X := Pan R
 letI D := DoV Tryz.prog
 letI Q := CallF Tryz.prog
 letI B := CallB Tryz.prog
 letI I := Value.int IntKind.i64
 letI T := Operand.tmp
 letI C := Operand.const
 letI L := Instr.loadAt
 letI E := Instr.extract
 letI V := Value.bool
 letI J := BinOp.eql
(D (Instr.box 26 v0) w (fun t1 w1 =>
 D (Instr.box 55 v1) w1 (fun t2 w2 =>
 Q 29 #[] w2 (fun t3 w3 =>
 JoinE [] (fun K4 =>
 JoinE [21] (fun K5 =>
 D (L 26 t1) w3 (fun t6 w6 =>
 Q 12 #[t6] w6 (fun t7 w7 =>
 D (Op.unary UnOp.not t7) w7 (fun t8 w8 =>
 Gd t8 false (D (Instr.fieldAt 55 t2 3) w8 (fun t9 w9 =>
 D (L 36 t9) w9 (fun t10 w10 =>
 B Builtin.len #[36] 3 #[false] #[t10] w10 (fun t11 w11 =>
 D (binS BinOp.gtr 3 (T 19) (C (I 60)) t11 (I 60)) w11 (fun t12 w12 =>
 K5 [t12] w12) X) X) X) X)
(K5 [(V true)] w8)) X) X) X)
(fun h13 w13 =>
 Br (h13 21)
(R (.returned t3) w13)
(K4 [] w13)))
(fun _ w14 =>
 D (L 26 t1) w14 (fun t15 w15 =>
 D (L 55 t2) w15 (fun t16 w16 =>
 Q 34 #[t15, t16, v2] w16 (fun t17 w17 =>
 D (E t17 0) w17 (fun t18 w18 =>
 D (E t17 1) w18 (fun t19 w19 =>
 D (L 26 t1) w19 (fun t20 w20 =>
 D (L 55 t2) w20 (fun t21 w21 =>
 Q 36 #[t20, t21, v2] w21 (fun t22 w22 =>
 D (E t22 0) w22 (fun t23 w23 =>
 D (E t22 1) w23 (fun t24 w24 =>
 D (Instr.alloc 26 true (.tuple #[])) w24 (fun t25 w25 =>
 DoU Tryz.prog (Instr.storeAt 26 t25 t23) w25 (fun _ w26 =>
 D (binS BinOp.neq 31 (T 37) (C (I 0)) t19 (I 0)) w26 (fun t27 w27 =>
 Br t27
(Gd t3 true (D (binS J 31 (T 41) (C (I 1)) t19 (I 1)) w27 (fun t28 w28 =>
 Gd t28 true (D (binS J 31 (T 45) (C (I 1)) t24 (I 1)) w28 (fun t29 w29 =>
 Gd t29 true (D (Op.unary UnOp.not t18) w29 (fun t30 w30 =>
 R (.returned t30) w30) X)
(R (.returned (V false)) w29)) X)
(R (.returned (V false)) w28)) X)
(R (.returned (V false)) w27))
(Gd t3 true (D (binS J 31 (T 55) (C (I 0)) t24 (I 0)) w27 (fun t31 w31 =>
 D (binS J 4 (T 54) (T 56) t18 t31) w31 (fun t32 w32 =>
 Gd t32 true (D (binS BinOp.neq 31 (T 60) (C (I 1)) t24 (I 1)) w32 (fun t33 w33 =>
 Gd t33 true (Gd t18 false (D (Instr.fieldAt 26 t25 6) w33 (fun t34 w34 =>
 D (L 22 t34) w34 (fun t35 w35 =>
 B Builtin.len #[22] 3 #[false] #[t35] w35 (fun t36 w36 =>
 D (binS J 3 (T 68) (C (I 0)) t36 (I 0)) w36 (fun t37 w37 =>
 R (.returned t37) w37) X) X) X) X)
(R (.returned (V true)) w33))
(R (.returned (V false)) w33)) X)
(R (.returned (V false)) w32)) X) X)
(R (.returned (V false)) w27))) X) X) X) X) X) X) X) X) X) X) X) X) X)) X) X) X)
theorem sh_landfalllaw29_EditionRight_ok (v0 v1 v2 : Value) (h : sh_landfalllaw29_EditionRight v0 v1 v2 R w) : Calls Tryz.prog 6 #[v0, v1, v2] w R :=
  calls_of_vc (c := Tryz.f6.body.getD .skip) (args := [v0, v1, v2]) [] [] follows_mixed Tryz.func6 rfl (of_decide_eq_true (by kernel_rfl)) (by kernel_rfl) (Eq.mp (by kernel_rfl) h)
def sh_landfalllaw29_EditionChanged (v0 v1 v2 v3 v4 v5 v6 : Value) (R : Ending → World → Prop) (w : World) : Prop := 
 letI X := Pan R
 letI D := DoV Tryz.prog
 letI U := DoU Tryz.prog
 letI Q := CallF Tryz.prog
 letI B := CallB Tryz.prog
 letI I := Value.int IntKind.i64
 letI T := Operand.tmp
 letI C := Operand.const
 letI L := Instr.loadAt
 letI F := Instr.fieldAt
 letI S := Instr.storeAt
 letI E := Instr.extract
 letI N := Instr.alloc
 letI V := Value.bool
 letI J := BinOp.eql
 letI O := BinOp.add
(D (Instr.box 26 v0) w (fun t1 w1 =>
 Q 29 #[] w1 (fun t2 w2 =>
 JoinE [] (fun K3 =>
 JoinE [43] (fun K4 =>
 D (L 26 t1) w2 (fun t5 w5 =>
 Q 12 #[t5] w5 (fun t6 w6 =>
 D (Op.unary UnOp.not t6) w6 (fun t7 w7 =>
 Gd t7 false (B Builtin.len #[36] 3 #[false] #[v1] w7 (fun t8 w8 =>
 D (binS BinOp.gtr 3 (T 32) (C (I 60)) t8 (I 60)) w8 (fun t9 w9 =>
 Gd t9 false (B Builtin.len #[36] 3 #[false] #[v2] w9 (fun t10 w10 =>
 D (binS BinOp.gtr 3 (T 37) (C (I 60)) t10 (I 60)) w10 (fun t11 w11 =>
 Gd t11 false (D (binS J 48 (T 41) (C (Value.int IntKind.u64 0)) v6 (Value.int IntKind.u64 0)) w11 (fun t12 w12 =>
 K4 [t12] w12) X)
(K4 [(V true)] w11)) X) X)
(K4 [(V true)] w9)) X) X)
(K4 [(V true)] w7)) X) X) X)
(fun h13 w13 =>
 Br (h13 43)
(R (.returned t2) w13)
(K3 [] w13)))
(fun _ w14 =>
 D (L 26 t1) w14 (fun t15 w15 =>
 Q 30 #[t15, v1, v3, v4] w15 (fun t16 w16 =>
 D (E t16 0) w16 (fun t17 w17 =>
 D (E t16 1) w17 (fun t18 w18 =>
 D (E t16 2) w18 (fun t19 w19 =>
 D (N 55 true (.tuple #[])) w19 (fun t20 w20 =>
 D (N 26 true (.tuple #[])) w20 (fun t21 w21 =>
 U (S 55 t20 t17) w21 (fun _ w22 =>
 U (S 26 t21 t18) w22 (fun _ w23 =>
 D (binS BinOp.neq 31 (T 54) (C (I 0)) t19 (I 0)) w23 (fun t24 w24 =>
 Br t24
(R (.returned t2) w24)
(Q 38 #[v3] w24 (fun t25 w25 =>
 D (E t25 0) w25 (fun t26 w26 =>
 D (E t25 1) w26 (fun t27 w27 =>
 D (L 55 t20) w27 (fun t28 w28 =>
 D (N 55 true (.tuple #[])) w28 (fun t29 w29 =>
 U (S 55 t29 t28) w29 (fun _ w30 =>
 JoinE [] (fun K31 =>
 D (binS BinOp.rem 5 (T 63) (C (Value.int IntKind.u8 4)) v5 (Value.int IntKind.u8 4)) w30 (fun t32 w32 =>
 D (binS J 5 (T 64) (C (Value.int IntKind.u8 0)) t32 (Value.int IntKind.u8 0)) w32 (fun t33 w33 =>
 Br t33
(D (F 55 t29 0) w33 (fun t34 w34 =>
 D (L 3 t34) w34 (fun t35 w35 =>
 D (binS BinOp.rem 48 (T 69) (C (Value.int IntKind.u64 1000)) v6 (Value.int IntKind.u64 1000)) w35 (fun t36 w36 =>
 D (convert 48 3 t36) w36 (fun t37 w37 =>
 D (binS O 3 (C (I 1)) (T 71) (I 1) t37) w37 (fun t38 w38 =>
 D (binS O 3 (T 68) (T 72) t35 t38) w38 (fun t39 w39 =>
 D (F 55 t29 0) w39 (fun t40 w40 =>
 U (S 3 t40 t39) w40 (fun _ w41 =>
 K31 [] w41) X) X) X) X) X) X) X) X)
(D (binS J 5 (T 64) (C (Value.int IntKind.u8 1)) t32 (Value.int IntKind.u8 1)) w33 (fun t42 w42 =>
 Br t42
(D (F 55 t29 1) w42 (fun t43 w43 =>
 D (L 48 t43) w43 (fun t44 w44 =>
 D (binS O 48 (T 78) (T 79) t44 v6) w44 (fun t45 w45 =>
 D (F 55 t29 1) w45 (fun t46 w46 =>
 U (S 48 t46 t45) w46 (fun _ w47 =>
 K31 [] w47) X) X) X) X) X)
(D (binS J 5 (T 64) (C (Value.int IntKind.u8 2)) t32 (Value.int IntKind.u8 2)) w42 (fun t48 w48 =>
 Br t48
(D (F 55 t29 2) w48 (fun t49 w49 =>
 D (L 48 t49) w49 (fun t50 w50 =>
 D (binS O 48 (T 85) (T 86) t50 v6) w50 (fun t51 w51 =>
 D (F 55 t29 2) w51 (fun t52 w52 =>
 U (S 48 t52 t51) w52 (fun _ w53 =>
 K31 [] w53) X) X) X) X) X)
(D (binS J 5 (T 64) (C (Value.int IntKind.u8 3)) t32 (Value.int IntKind.u8 3)) w48 (fun t54 w54 =>
 Br t54
(D (F 55 t29 3) w54 (fun t55 w55 =>
 U (S 36 t55 v2) w55 (fun _ w56 =>
 K31 [] w56) X) X)
(K31 [] w54)) X)) X)) X)) X) X)
(fun _ w57 =>
 D (L 26 t1) w57 (fun t58 w58 =>
 D (L 55 t29) w58 (fun t59 w59 =>
 Q 34 #[t58, t59, t26] w59 (fun t60 w60 =>
 D (E t60 0) w60 (fun t61 w61 =>
 D (E t60 1) w61 (fun t62 w62 =>
 JoinE [] (fun K63 =>
 JoinE [105] (fun K64 =>
 D (binS BinOp.neq 31 (T 100) (C (I 0)) t27 (I 0)) w62 (fun t65 w65 =>
 Gd t65 false (D (binS BinOp.neq 31 (T 103) (C (I 0)) t62 (I 0)) w65 (fun t66 w66 =>
 K64 [t66] w66) X)
(K64 [(V true)] w65)) X)
(fun h67 w67 =>
 Br (h67 105)
(R (.returned (V false)) w67)
(K63 [] w67)))
(fun _ w68 =>
 JoinE [] (fun K69 =>
 JoinE [112] (fun K70 =>
 D (binS BinOp.rem 5 (T 106) (C (Value.int IntKind.u8 4)) v5 (Value.int IntKind.u8 4)) w68 (fun t71 w71 =>
 D (binS BinOp.lss 5 (T 107) (C (Value.int IntKind.u8 3)) t71 (Value.int IntKind.u8 3)) w71 (fun t72 w72 =>
 Gd t72 false (D (Op.unary UnOp.not t61) w72 (fun t73 w73 =>
 K70 [t73] w73) X)
(K70 [(V true)] w72)) X) X)
(fun h74 w74 =>
 Br (h74 112)
(Gd t2 true (D (Op.unary UnOp.not t61) w74 (fun t75 w75 =>
 R (.returned t75) w75) X)
(R (.returned (V false)) w74))
(K69 [] w74)))
(fun _ w76 =>
 D (L 26 t1) w76 (fun t77 w77 =>
 Q 39 #[t77, v2] w77 (fun t78 w78 =>
 Q 27 #[t78] w78 (fun t79 w79 =>
 D (E t79 0) w79 (fun t80 w80 =>
 D (E t79 1) w80 (fun t81 w81 =>
 Gd t2 true (D (binS J 31 (T 127) (C (I 0)) t81 (I 0)) w81 (fun t82 w82 =>
 Gd t82 true (D (L 26 t1) w82 (fun t83 w83 =>
 Q 40 #[t83, v2] w83 (fun t84 w84 =>
 Gd t84 true (D (F 55 t20 2) w84 (fun t85 w85 =>
 D (L 48 t85) w85 (fun t86 w86 =>
 D (binS J 48 (T 136) (T 138) t80 t86) w86 (fun t87 w87 =>
 R (.returned t87) w87) X) X) X)
(R (.returned (V false)) w84)) X) X)
(R (.returned (V false)) w82)) X)
(R (.returned (V false)) w81)) X) X) X) X) X))) X) X) X) X) X)) X) X) X) X) X) X)) X) X) X) X) X) X) X) X) X) X)) X) X)
theorem sh_landfalllaw29_EditionChanged_ok (v0 v1 v2 v3 v4 v5 v6 : Value) (h : sh_landfalllaw29_EditionChanged v0 v1 v2 v3 v4 v5 v6 R w) : Calls Tryz.prog 7 #[v0, v1, v2, v3, v4, v5, v6] w R :=
  calls_of_vc (c := Tryz.f7.body.getD .skip) (args := [v0, v1, v2, v3, v4, v5, v6]) [] [] follows_mixed Tryz.func7 rfl (of_decide_eq_true (by kernel_rfl)) (by kernel_rfl) (Eq.mp (by kernel_rfl) h)
def sh_landfalllaw29_EditionOnce (v0 v1 v2 v3 v4 : Value) (R : Ending → World → Prop) (w : World) : Prop := 
 letI X := Pan R
 letI D := DoV Tryz.prog
 letI U := DoU Tryz.prog
 letI Q := CallF Tryz.prog
 letI I := Value.int IntKind.i64
 letI T := Operand.tmp
 letI C := Operand.const
 letI L := Instr.loadAt
 letI F := Instr.fieldAt
 letI S := Instr.storeAt
 letI E := Instr.extract
 letI N := Instr.alloc
 letI V := Value.bool
 letI J := BinOp.eql
(D (Instr.box 26 v0) w (fun t1 w1 =>
 D (Instr.box 26 v1) w1 (fun t2 w2 =>
 Q 29 #[] w2 (fun t3 w3 =>
 JoinE [] (fun K4 =>
 JoinE [36] (fun K5 =>
 D (L 26 t1) w3 (fun t6 w6 =>
 Q 12 #[t6] w6 (fun t7 w7 =>
 D (Op.unary UnOp.not t7) w7 (fun t8 w8 =>
 Gd t8 false (D (L 26 t2) w8 (fun t9 w9 =>
 Q 12 #[t9] w9 (fun t10 w10 =>
 D (Op.unary UnOp.not t10) w10 (fun t11 w11 =>
 Gd t11 false (CallB Tryz.prog Builtin.len #[36] 3 #[false] #[v2] w11 (fun t12 w12 =>
 D (binS BinOp.gtr 3 (T 34) (C (I 60)) t12 (I 60)) w12 (fun t13 w13 =>
 K5 [t13] w13) X) X)
(K5 [(V true)] w11)) X) X) X)
(K5 [(V true)] w8)) X) X) X)
(fun h14 w14 =>
 Br (h14 36)
(R (.returned t3) w14)
(K4 [] w14)))
(fun _ w15 =>
 D (L 26 t1) w15 (fun t16 w16 =>
 Q 30 #[t16, v2, v3, v4] w16 (fun t17 w17 =>
 D (E t17 0) w17 (fun t18 w18 =>
 D (E t17 1) w18 (fun t19 w19 =>
 D (E t17 2) w19 (fun t20 w20 =>
 D (N 55 true (.tuple #[])) w20 (fun t21 w21 =>
 D (N 26 true (.tuple #[])) w21 (fun t22 w22 =>
 U (S 55 t21 t18) w22 (fun _ w23 =>
 U (S 26 t22 t19) w23 (fun _ w24 =>
 D (binS BinOp.neq 31 (T 47) (C (I 0)) t20 (I 0)) w24 (fun t25 w25 =>
 Br t25
(R (.returned t3) w25)
(Q 38 #[v3] w25 (fun t26 w26 =>
 D (E t26 0) w26 (fun t27 w27 =>
 D (E t26 1) w27 (fun t28 w28 =>
 D (L 26 t22) w28 (fun t29 w29 =>
 D (L 55 t21) w29 (fun t30 w30 =>
 Q 36 #[t29, t30, t27] w30 (fun t31 w31 =>
 D (E t31 0) w31 (fun t32 w32 =>
 D (E t31 1) w32 (fun t33 w33 =>
 D (N 26 true (.tuple #[])) w33 (fun t34 w34 =>
 U (S 26 t34 t32) w34 (fun _ w35 =>
 D (L 26 t2) w35 (fun t36 w36 =>
 D (L 55 t21) w36 (fun t37 w37 =>
 Q 34 #[t36, t37, t27] w37 (fun t38 w38 =>
 D (E t38 0) w38 (fun t39 w39 =>
 D (E t38 1) w39 (fun t40 w40 =>
 JoinE [11] (fun K41 =>
 Gd t3 true (D (binS J 31 (T 71) (C (I 0)) t28 (I 0)) w40 (fun t42 w42 =>
 Gd t42 true (D (binS J 31 (T 75) (C (I 40)) t33 (I 40)) w42 (fun t43 w43 =>
 K41 [t43] w43) X)
(K41 [(V false)] w42)) X)
(K41 [(V false)] w40))
(fun h44 w44 =>
 D (binS BinOp.neq 31 (T 78) (C (I 0)) t40 (I 0)) w44 (fun t45 w45 =>
 Br t45
(Gd (h44 11) true (D (Op.unary UnOp.not t39) w45 (fun t46 w46 =>
 Gd t46 true (D (L 26 t2) w46 (fun t47 w47 =>
 Q 15 #[t47] w47 (fun t48 w48 =>
 D (Op.unary UnOp.not t48) w48 (fun t49 w49 =>
 R (.returned t49) w49) X) X) X)
(R (.returned (V false)) w46)) X)
(R (.returned (V false)) w45))
(D (L 26 t2) w45 (fun t50 w50 =>
 Q 27 #[t50] w50 (fun t51 w51 =>
 D (E t51 0) w51 (fun t52 w52 =>
 D (E t51 1) w52 (fun t53 w53 =>
 Gd (h44 11) true (D (binS J 31 (T 97) (C (I 0)) t53 (I 0)) w53 (fun t54 w54 =>
 Gd t54 true (D (Op.unary UnOp.not t39) w54 (fun t55 w55 =>
 Gd t55 false (D (F 55 t21 1) w55 (fun t56 w56 =>
 D (L 48 t56) w56 (fun t57 w57 =>
 D (binS J 48 (T 104) (T 106) t52 t57) w57 (fun t58 w58 =>
 Gd t58 true (D (F 26 t2 0) w58 (fun t59 w59 =>
 D (L 3 t59) w59 (fun t60 w60 =>
 D (F 26 t1 0) w60 (fun t61 w61 =>
 D (L 3 t61) w61 (fun t62 w62 =>
 D (binS J 3 (T 110) (T 112) t60 t62) w62 (fun t63 w63 =>
 R (.returned t63) w63) X) X) X) X) X)
(R (.returned (V false)) w58)) X) X) X)
(R (.returned (V true)) w55)) X)
(R (.returned (V false)) w54)) X)
(R (.returned (V false)) w53)) X) X) X) X)) X)) X) X) X) X) X) X) X) X) X) X) X) X) X) X) X)) X) X) X) X) X) X) X) X) X) X)) X) X) X)
theorem sh_landfalllaw29_EditionOnce_ok (v0 v1 v2 v3 v4 : Value) (h : sh_landfalllaw29_EditionOnce v0 v1 v2 v3 v4 R w) : Calls Tryz.prog 8 #[v0, v1, v2, v3, v4] w R :=
  calls_of_vc (c := Tryz.f8.body.getD .skip) (args := [v0, v1, v2, v3, v4]) [] [11] follows_mixed Tryz.func8 rfl (of_decide_eq_true (by kernel_rfl)) (by kernel_rfl) (Eq.mp (by kernel_rfl) h)
def sh_landfalllaw29_EditionSeveral (v0 v1 v2 v3 v4 : Value) (R : Ending → World → Prop) (w : World) : Prop := 
 letI X := Pan R
 letI D := DoV Tryz.prog
 letI U := DoU Tryz.prog
 letI Q := CallF Tryz.prog
 letI B := CallB Tryz.prog
 letI I := Value.int IntKind.i64
 letI T := Operand.tmp
 letI C := Operand.const
 letI L := Instr.loadAt
 letI F := Instr.fieldAt
 letI S := Instr.storeAt
 letI E := Instr.extract
 letI N := Instr.alloc
 letI V := Value.bool
 letI J := BinOp.eql
(D (Instr.box 26 v0) w (fun t1 w1 =>
 Q 29 #[] w1 (fun t2 w2 =>
 JoinE [] (fun K3 =>
 JoinE [33] (fun K4 =>
 D (L 26 t1) w2 (fun t5 w5 =>
 Q 12 #[t5] w5 (fun t6 w6 =>
 D (Op.unary UnOp.not t6) w6 (fun t7 w7 =>
 Gd t7 false (B Builtin.len #[36] 3 #[false] #[v1] w7 (fun t8 w8 =>
 D (binS BinOp.gtr 3 (T 31) (C (I 60)) t8 (I 60)) w8 (fun t9 w9 =>
 K4 [t9] w9) X) X)
(K4 [(V true)] w7)) X) X) X)
(fun h10 w10 =>
 Br (h10 33)
(R (.returned t2) w10)
(K3 [] w10)))
(fun _ w11 =>
 D (L 26 t1) w11 (fun t12 w12 =>
 Q 30 #[t12, v1, v3, v4] w12 (fun t13 w13 =>
 D (E t13 0) w13 (fun t14 w14 =>
 D (E t13 1) w14 (fun t15 w15 =>
 D (E t13 2) w15 (fun t16 w16 =>
 D (N 55 true (.tuple #[])) w16 (fun t17 w17 =>
 D (N 26 true (.tuple #[])) w17 (fun t18 w18 =>
 U (S 55 t17 t14) w18 (fun _ w19 =>
 U (S 26 t18 t15) w19 (fun _ w20 =>
 D (binS BinOp.neq 31 (T 44) (C (I 0)) t16 (I 0)) w20 (fun t21 w21 =>
 Br t21
(R (.returned t2) w21)
(B Builtin.len #[36] 3 #[false] #[v1] w21 (fun t22 w22 =>
 LoopE [15, 16, 49] [(Value.slice none 0 0), (Value.slice none 0 0), (I 0)] w22 (fun h23 w23 K23 =>
 D (binS BinOp.lss 3 (T 49) (T 48) (h23 49) t22) w23 (fun t24 w24 =>
 Br t24
(JoinE [15, 16] (fun K25 =>
 D (Instr.indexAt 36 v1 (h23 49)) w24 (fun t26 w26 =>
 D (L 3 t26) w26 (fun t27 w27 =>
 D (binS BinOp.rem 3 (T 55) (C (I 64)) (h23 49) (I 64)) w27 (fun t28 w28 =>
 D (binS BinOp.shr 48 (T 54) (T 56) v2 t28) w28 (fun t29 w29 =>
 D (binS BinOp.and 48 (T 57) (C (Value.int IntKind.u64 1)) t29 (Value.int IntKind.u64 1)) w29 (fun t30 w30 =>
 D (binS J 48 (T 58) (C (Value.int IntKind.u64 1)) t30 (Value.int IntKind.u64 1)) w30 (fun t31 w31 =>
 Br t31
(D (Instr.buildSlice 36 1 #[(0, t27)]) w31 (fun t32 w32 =>
 B Builtin.append #[36, 36] 36 #[false, false] #[(h23 15), t32] w32 (fun t33 w33 =>
 K25 [t33, (h23 16)] w33) X) X)
(D (Instr.buildSlice 36 1 #[(0, t27)]) w31 (fun t34 w34 =>
 B Builtin.append #[36, 36] 36 #[false, false] #[(h23 16), t34] w34 (fun t35 w35 =>
 K25 [(h23 15), t35] w35) X) X)) X) X) X) X) X) X)
(fun h36 w36 =>
 D (binS BinOp.add 3 (T 49) (C (I 1)) (h23 49) (I 1)) w36 (fun t37 w37 =>
 K23 [(h36 15), (h36 16), t37] w37) X))
(D (L 26 t1) w24 (fun t38 w38 =>
 Q 30 #[t38, (h23 15), v3, v4] w38 (fun t39 w39 =>
 D (E t39 0) w39 (fun t40 w40 =>
 D (E t39 1) w40 (fun t41 w41 =>
 D (E t39 2) w41 (fun t42 w42 =>
 D (N 55 true (.tuple #[])) w42 (fun t43 w43 =>
 D (N 26 true (.tuple #[])) w43 (fun t44 w44 =>
 U (S 55 t43 t40) w44 (fun _ w45 =>
 U (S 26 t44 t41) w45 (fun _ w46 =>
 D (L 26 t44) w46 (fun t47 w47 =>
 Q 30 #[t47, (h23 16), v3, v4] w47 (fun t48 w48 =>
 D (E t48 0) w48 (fun t49 w49 =>
 D (E t48 1) w49 (fun t50 w50 =>
 D (E t48 2) w50 (fun t51 w51 =>
 D (N 55 true (.tuple #[])) w51 (fun t52 w52 =>
 D (N 26 true (.tuple #[])) w52 (fun t53 w53 =>
 U (S 55 t52 t49) w53 (fun _ w54 =>
 U (S 26 t53 t50) w54 (fun _ w55 =>
 D (binS J 31 (T 87) (C (I 2)) t51 (I 2)) w55 (fun t56 w56 =>
 Br t56
(Gd t2 true (D (F 26 t1 0) w56 (fun t57 w57 =>
 D (L 3 t57) w57 (fun t58 w58 =>
 D (binS J 3 (T 92) (C (I 999999)) t58 (I 999999)) w58 (fun t59 w59 =>
 R (.returned t59) w59) X) X) X)
(R (.returned (V false)) w56))
(D (F 26 t53 0) w56 (fun t60 w60 =>
 D (L 3 t60) w60 (fun t61 w61 =>
 D (binS BinOp.sub 3 (T 96) (C (I 1)) t61 (I 1)) w61 (fun t62 w62 =>
 D (F 26 t53 0) w62 (fun t63 w63 =>
 U (S 3 t63 t62) w63 (fun _ w64 =>
 Gd t2 true (D (binS J 31 (T 101) (C (I 0)) t42 (I 0)) w64 (fun t65 w65 =>
 Gd t65 true (D (binS J 31 (T 105) (C (I 0)) t51 (I 0)) w65 (fun t66 w66 =>
 Gd t66 true (D (L 26 t53) w66 (fun t67 w67 =>
 D (L 26 t18) w67 (fun t68 w68 =>
 Q 33 #[t67, t68] w68 (fun t69 w69 =>
 R (.returned t69) w69) X) X) X)
(R (.returned (V false)) w66)) X)
(R (.returned (V false)) w65)) X)
(R (.returned (V false)) w64)) X) X) X) X) X)) X) X) X) X) X) X) X) X) X) X) X) X) X) X) X) X) X) X) X)) X)) X)) X) X) X) X) X) X) X) X) X) X)) X) X)
theorem sh_landfalllaw29_EditionSeveral_ok (v0 v1 v2 v3 v4 : Value) (h : sh_landfalllaw29_EditionSeveral v0 v1 v2 v3 v4 R w) : Calls Tryz.prog 9 #[v0, v1, v2, v3, v4] w R :=
  calls_of_vc (c := Tryz.f9.body.getD .skip) (args := [v0, v1, v2, v3, v4]) [] [15, 16, 49] follows_mixed Tryz.func9 rfl (of_decide_eq_true (by kernel_rfl)) (by kernel_rfl) (Eq.mp (by kernel_rfl) h)
def sh_landfalllaw29_EditionKeeps (v0 v1 v2 v3 v4 : Value) (R : Ending → World → Prop) (w : World) : Prop := 
 letI X := Pan R
 letI D := DoV Tryz.prog
 letI U := DoU Tryz.prog
 letI Q := CallF Tryz.prog
 letI B := CallB Tryz.prog
 letI I := Value.int IntKind.i64
 letI T := Operand.tmp
 letI C := Operand.const
 letI L := Instr.loadAt
 letI F := Instr.fieldAt
 letI S := Instr.storeAt
 letI E := Instr.extract
 letI A := Instr.indexAt
 letI N := Instr.alloc
 letI V := Value.bool
 letI J := BinOp.eql
(D (Instr.box 26 v0) w (fun t1 w1 =>
 Q 29 #[] w1 (fun t2 w2 =>
 JoinE [] (fun K3 =>
 JoinE [37] (fun K4 =>
 D (L 26 t1) w2 (fun t5 w5 =>
 Q 12 #[t5] w5 (fun t6 w6 =>
 D (Op.unary UnOp.not t6) w6 (fun t7 w7 =>
 Gd t7 false (B Builtin.len #[36] 3 #[false] #[v1] w7 (fun t8 w8 =>
 D (binS BinOp.gtr 3 (T 35) (C (I 60)) t8 (I 60)) w8 (fun t9 w9 =>
 K4 [t9] w9) X) X)
(K4 [(V true)] w7)) X) X) X)
(fun h10 w10 =>
 Br (h10 37)
(R (.returned t2) w10)
(K3 [] w10)))
(fun _ w11 =>
 D (L 26 t1) w11 (fun t12 w12 =>
 Q 30 #[t12, v1, v2, v3] w12 (fun t13 w13 =>
 D (E t13 0) w13 (fun t14 w14 =>
 D (E t13 1) w14 (fun t15 w15 =>
 D (E t13 2) w15 (fun t16 w16 =>
 D (N 55 true (.tuple #[])) w16 (fun t17 w17 =>
 D (N 26 true (.tuple #[])) w17 (fun t18 w18 =>
 U (S 55 t17 t14) w18 (fun _ w19 =>
 U (S 26 t18 t15) w19 (fun _ w20 =>
 JoinE [] (fun K21 =>
 JoinE [54] (fun K22 =>
 D (binS BinOp.neq 31 (T 48) (C (I 0)) t16 (I 0)) w20 (fun t23 w23 =>
 Gd t23 false (D (L 26 t1) w23 (fun t24 w24 =>
 Q 16 #[t24] w24 (fun t25 w25 =>
 D (Op.unary UnOp.not t25) w25 (fun t26 w26 =>
 K22 [t26] w26) X) X) X)
(K22 [(V true)] w23)) X)
(fun h27 w27 =>
 Br (h27 54)
(R (.returned t2) w27)
(K21 [] w27)))
(fun _ w28 =>
 D (F 26 t18 6) w28 (fun t29 w29 =>
 D (L 22 t29) w29 (fun t30 w30 =>
 B Builtin.len #[22] 3 #[false] #[t30] w30 (fun t31 w31 =>
 D (F 26 t1 6) w31 (fun t32 w32 =>
 D (L 22 t32) w32 (fun t33 w33 =>
 B Builtin.len #[22] 3 #[false] #[t33] w33 (fun t34 w34 =>
 D (binS BinOp.neq 3 (T 58) (T 61) t31 t34) w34 (fun t35 w35 =>
 Br t35
(R (.returned (V false)) w35)
(D (F 26 t1 6) w35 (fun t36 w36 =>
 D (L 22 t36) w36 (fun t37 w37 =>
 B Builtin.len #[22] 3 #[false] #[t37] w37 (fun t38 w38 =>
 LoopE [11, 16, 66, 71] [t2, undef, (I 0), undef] w38 (fun h39 w39 K39 =>
 D (binS BinOp.lss 3 (T 66) (T 65) (h39 66) t38) w39 (fun t40 w40 =>
 Br t40
(JoinE [11, 16, 71] (fun K41 =>
 B Builtin.len #[36] 3 #[false] #[v1] w40 (fun t42 w42 =>
 LoopE [16, 71] [(V false), (I 0)] w42 (fun h43 w43 K43 =>
 D (binS BinOp.lss 3 (T 71) (T 70) (h43 71) t42) w43 (fun t44 w44 =>
 Br t44
(JoinE [16] (fun K45 =>
 D (A 36 v1 (h43 71)) w44 (fun t46 w46 =>
 D (L 3 t46) w46 (fun t47 w47 =>
 Gd (h43 16) false (D (binS J 3 (T 77) (T 78) t47 (h39 66)) w47 (fun t48 w48 =>
 K45 [t48] w48) X)
(K45 [(V true)] w47)) X) X)
(fun h49 w49 =>
 D (binS BinOp.add 3 (T 71) (C (I 1)) (h43 71) (I 1)) w49 (fun t50 w50 =>
 K43 [(h49 16), t50] w50) X))
(JointE w44 (fun J51 =>
 JOp J51 0 [] (fun pv51 w52 K52 => D (F 26 t1 6) w52 K52 X) ∧
 JOp J51 1 [0] (fun pv51 w53 K53 => D (L 22 (vl pv51 0)) w53 K53 X) ∧
 JOp J51 2 [] (fun pv51 w54 K54 => K54 (h39 66) w54) ∧
 JOp J51 3 [1, 2] (fun pv51 w55 K55 => D (A 22 (vl pv51 1) (vl pv51 2)) w55 K55 X) ∧
 JOp J51 4 [3] (fun pv51 w56 K56 => D (L 78 (vl pv51 3)) w56 K56 X) ∧
 JOp J51 5 [] (fun pv51 w57 K57 => D (F 26 t18 6) w57 K57 X) ∧
 JOp J51 6 [5] (fun pv51 w58 K58 => D (L 22 (vl pv51 5)) w58 K58 X) ∧
 JOp J51 7 [] (fun pv51 w59 K59 => K59 (h39 66) w59) ∧
 JOp J51 8 [6, 7] (fun pv51 w60 K60 => D (A 22 (vl pv51 6) (vl pv51 7)) w60 K60 X) ∧
 JOp J51 9 [8] (fun pv51 w61 K61 => D (L 78 (vl pv51 8)) w61 K61 X) ∧
 JOp J51 10 [] (fun pv51 w62 K62 => D (N 78 true (.tuple #[])) w62 K62 X) ∧
 JOp J51 11 [] (fun pv51 w63 K63 => D (N 78 true (.tuple #[])) w63 K63 X) ∧
 JOp J51 12 [10, 4, 0, 1, 2, 3, 4, 10, 11] (fun pv51 w64 K64 => U (S 78 (vl pv51 10) (vl pv51 4)) w64 K64 X) ∧
 JEnd J51 13 (fun pv51 w65 =>
 U (S 78 (vl pv51 11) (vl pv51 9)) w65 (fun _ w66 =>
 Gd (h39 11) true (D (F 78 (vl pv51 11) 0) w66 (fun t67 w67 =>
 D (L 76 t67) w67 (fun t68 w68 =>
 D (F 78 (vl pv51 10) 0) w68 (fun t69 w69 =>
 D (L 76 t69) w69 (fun t70 w70 =>
 D (binS J 76 (T 95) (T 97) t68 t70) w70 (fun t71 w71 =>
 Gd t71 true (D (F 78 (vl pv51 11) 1) w71 (fun t72 w72 =>
 D (L 3 t72) w72 (fun t73 w73 =>
 D (F 78 (vl pv51 10) 1) w73 (fun t74 w74 =>
 D (L 3 t74) w74 (fun t75 w75 =>
 D (binS J 3 (T 102) (T 104) t73 t75) w75 (fun t76 w76 =>
 Gd t76 true (D (F 78 (vl pv51 11) 2) w76 (fun t77 w77 =>
 D (L 4 t77) w77 (fun t78 w78 =>
 D (F 78 (vl pv51 10) 2) w78 (fun t79 w79 =>
 D (L 4 t79) w79 (fun t80 w80 =>
 Gd t80 false (D (binS J 4 (T 109) (T 114) t78 (h43 16)) w80 (fun t81 w81 =>
 K41 [t81, (h43 16), (h43 71)] w81) X)
(D (binS J 4 (T 109) (T 114) t78 (V true)) w80 (fun t82 w82 =>
 K41 [t82, (h43 16), (h43 71)] w82) X)) X) X) X) X)
(K41 [(V false), (h43 16), (h43 71)] w76)) X) X) X) X) X)
(K41 [(V false), (h43 16), (h43 71)] w71)) X) X) X) X) X)
(K41 [(V false), (h43 16), (h43 71)] w66)) X)))) X)) X)
(fun h83 w83 =>
 D (binS BinOp.add 3 (T 66) (C (I 1)) (h39 66) (I 1)) w83 (fun t84 w84 =>
 K39 [(h83 11), (h83 16), t84, (h83 71)] w84) X))
(D (convert 74 3 v4) w40 (fun t85 w85 =>
 D (F 26 t1 6) w85 (fun t86 w86 =>
 D (L 22 t86) w86 (fun t87 w87 =>
 B Builtin.len #[22] 3 #[false] #[t87] w87 (fun t88 w88 =>
 D (binS BinOp.rem 3 (T 119) (T 122) t85 t88) w88 (fun t89 w89 =>
 D (L 26 t1) w89 (fun t90 w90 =>
 Q 17 #[t90, t89] w90 (fun t91 w91 =>
 D (E t91 0) w91 (fun t92 w92 =>
 D (E t91 1) w92 (fun t93 w93 =>
 D (E t91 2) w93 (fun t94 w94 =>
 D (N 28 true (.tuple #[])) w94 (fun t95 w95 =>
 D (N 28 true (.tuple #[])) w95 (fun t96 w96 =>
 U (S 28 t95 t92) w96 (fun _ w97 =>
 U (S 28 t96 t93) w97 (fun _ w98 =>
 D (L 26 t18) w98 (fun t99 w99 =>
 Q 17 #[t99, t89] w99 (fun t100 w100 =>
 D (E t100 0) w100 (fun t101 w101 =>
 D (E t100 1) w101 (fun t102 w102 =>
 D (E t100 2) w102 (fun t103 w103 =>
 D (N 28 true (.tuple #[])) w103 (fun t104 w104 =>
 D (N 28 true (.tuple #[])) w104 (fun t105 w105 =>
 U (S 28 t104 t101) w105 (fun _ w106 =>
 U (S 28 t105 t102) w106 (fun _ w107 =>
 D (L 26 t18) w107 (fun t108 w108 =>
 D (N 26 true (.tuple #[])) w108 (fun t109 w109 =>
 U (S 26 t109 t108) w109 (fun _ w110 =>
 JointE w110 (fun J111 =>
 JOp J111 0 [] (fun pv111 w112 K112 => D (F 26 t1 0) w112 K112 X) ∧
 JOp J111 1 [0] (fun pv111 w113 K113 => D (L 3 (vl pv111 0)) w113 K113 X) ∧
 JOp J111 2 [] (fun pv111 w114 K114 => D (F 26 t1 6) w114 K114 X) ∧
 JOp J111 3 [2] (fun pv111 w115 K115 => D (L 22 (vl pv111 2)) w115 K115 X) ∧
 JOp J111 4 [0, 1] (fun pv111 w116 K116 => D (F 26 t109 0) w116 K116 X) ∧
 JOp J111 5 [4, 1, 0, 1] (fun pv111 w117 K117 => U (S 3 (vl pv111 4) (vl pv111 1)) w117 K117 X) ∧
 JEnd J111 6 (fun pv111 w118 =>
 D (F 26 t109 6) w118 (fun t119 w119 =>
 U (S 22 t119 (vl pv111 3)) w119 (fun _ w120 =>
 Gd (h39 11) true (D (binS J 31 (T 147) (C (I 0)) t94 (I 0)) w120 (fun t121 w121 =>
 Gd t121 true (D (binS J 31 (T 151) (C (I 0)) t103 (I 0)) w121 (fun t122 w122 =>
 Gd t122 true (D (L 28 t95) w122 (fun t123 w123 =>
 D (L 28 t104) w123 (fun t124 w124 =>
 D (binS J 28 (T 155) (T 156) t123 t124) w124 (fun t125 w125 =>
 Gd t125 true (D (L 28 t96) w125 (fun t126 w126 =>
 D (L 28 t105) w126 (fun t127 w127 =>
 D (binS J 28 (T 160) (T 161) t126 t127) w127 (fun t128 w128 =>
 Gd t128 true (D (L 26 t109) w128 (fun t129 w129 =>
 D (L 26 t1) w129 (fun t130 w130 =>
 Q 33 #[t129, t130] w130 (fun t131 w131 =>
 R (.returned t131) w131) X) X) X)
(R (.returned (V false)) w128)) X) X) X)
(R (.returned (V false)) w125)) X) X) X)
(R (.returned (V false)) w122)) X)
(R (.returned (V false)) w121)) X)
(R (.returned (V false)) w120)) X) X))) X) X) X) X) X) X) X) X) X) X) X) X) X) X) X) X) X) X) X) X) X) X) X) X) X) X)) X)) X) X) X)) X) X) X) X) X) X) X)) X) X) X) X) X) X) X) X) X)) X) X)
theorem sh_landfalllaw29_EditionKeeps_ok (v0 v1 v2 v3 v4 : Value) (h : sh_landfalllaw29_EditionKeeps v0 v1 v2 v3 v4 R w) : Calls Tryz.prog 10 #[v0, v1, v2, v3, v4] w R :=
  calls_of_vc (c := Tryz.f10.body.getD .skip) (args := [v0, v1, v2, v3, v4]) [(18, 13, false, 999), (25, 6, false, 999)] [11, 16, 66, 71] follows_mixed Tryz.func10 rfl (of_decide_eq_true (by kernel_rfl)) (by kernel_rfl) (Eq.mp (by kernel_rfl) h)
def sh_landfalllaw29_head (R : Ending → World → Prop) (w : World) : Prop := 
 letI X := Pan R
 letI D := DoV Tryz.prog
 letI U := DoU Tryz.prog
 letI Q := CallF Tryz.prog
 letI I := Value.int IntKind.i64
 letI T := Operand.tmp
 letI C := Operand.const
 letI L := Instr.loadAt
 letI F := Instr.fieldAt
 letI S := Instr.storeAt
 letI E := Instr.extract
 letI N := Instr.alloc
 letI V := Value.bool
 letI J := BinOp.eql
(Q 71 #[] w (fun t1 w1 =>
 D (N 26 true (.tuple #[])) w1 (fun t2 w2 =>
 U (S 26 t2 t1) w2 (fun _ w3 =>
 D (L 26 t2) w3 (fun t4 w4 =>
 D (Instr.buildSlice 36 1 #[(0, (I 1))]) w4 (fun t5 w5 =>
 Q 30 #[t4, t5, (I 5), (I 7)] w5 (fun t6 w6 =>
 D (E t6 0) w6 (fun t7 w7 =>
 D (E t6 1) w7 (fun t8 w8 =>
 D (E t6 2) w8 (fun t9 w9 =>
 D (N 55 true (.tuple #[])) w9 (fun t10 w10 =>
 D (N 26 true (.tuple #[])) w10 (fun t11 w11 =>
 U (S 55 t10 t7) w11 (fun _ w12 =>
 U (S 26 t11 t8) w12 (fun _ w13 =>
 D (L 26 t2) w13 (fun t14 w14 =>
 D (L 55 t10) w14 (fun t15 w15 =>
 Q 34 #[t14, t15, (I 1024)] w15 (fun t16 w16 =>
 D (E t16 0) w16 (fun t17 w17 =>
 D (E t16 1) w17 (fun t18 w18 =>
 D (L 26 t2) w18 (fun t19 w19 =>
 D (L 55 t10) w19 (fun t20 w20 =>
 Q 34 #[t19, t20, (I 4096)] w20 (fun t21 w21 =>
 D (E t21 0) w21 (fun t22 w22 =>
 D (E t21 1) w22 (fun t23 w23 =>
 D (L 26 t2) w23 (fun t24 w24 =>
 D (L 55 t10) w24 (fun t25 w25 =>
 Q 36 #[t24, t25, (I 1024)] w25 (fun t26 w26 =>
 D (E t26 0) w26 (fun t27 w27 =>
 D (E t26 1) w27 (fun t28 w28 =>
 D (N 26 true (.tuple #[])) w28 (fun t29 w29 =>
 U (S 26 t29 t27) w29 (fun _ w30 =>
 D (L 26 t11) w30 (fun t31 w31 =>
 D (L 55 t10) w31 (fun t32 w32 =>
 Q 36 #[t31, t32, (I 1024)] w32 (fun t33 w33 =>
 D (E t33 0) w33 (fun t34 w34 =>
 D (E t33 1) w34 (fun t35 w35 =>
 D (N 26 true (.tuple #[])) w35 (fun t36 w36 =>
 U (S 26 t36 t34) w36 (fun _ w37 =>
 D (L 26 t2) w37 (fun t38 w38 =>
 D (L 55 t10) w38 (fun t39 w39 =>
 Q 36 #[t38, t39, (I 4096)] w39 (fun t40 w40 =>
 D (E t40 0) w40 (fun t41 w41 =>
 D (E t40 1) w41 (fun t42 w42 =>
 D (N 26 true (.tuple #[])) w42 (fun t43 w43 =>
 U (S 26 t43 t41) w43 (fun _ w44 =>
 D (L 26 t11) w44 (fun t45 w45 =>
 D (Instr.buildSlice 36 1 #[(0, (I 1))]) w45 (fun t46 w46 =>
 Q 30 #[t45, t46, (I 5), (I 8)] w46 (fun t47 w47 =>
 D (E t47 0) w47 (fun t48 w48 =>
 D (E t47 1) w48 (fun t49 w49 =>
 D (E t47 2) w49 (fun t50 w50 =>
 D (N 55 true (.tuple #[])) w50 (fun t51 w51 =>
 D (N 26 true (.tuple #[])) w51 (fun t52 w52 =>
 U (S 55 t51 t48) w52 (fun _ w53 =>
 U (S 26 t52 t49) w53 (fun _ w54 =>
 D (Instr.build 26 #[]) w54 (fun t55 w55 =>
 Q 30 #[t55, (Value.slice none 0 0), (I 5), (I 8)] w55 (fun t56 w56 =>
 D (E t56 0) w56 (fun t57 w57 =>
 D (E t56 1) w57 (fun t58 w58 =>
 D (E t56 2) w58 (fun t59 w59 =>
 D (N 55 true (.tuple #[])) w59 (fun t60 w60 =>
 D (N 26 true (.tuple #[])) w60 (fun t61 w61 =>
 U (S 55 t60 t57) w61 (fun _ w62 =>
 U (S 26 t61 t58) w62 (fun _ w63 =>
 JoinE [21] (fun K64 =>
 D (binS J 31 (T 73) (C (I 0)) t9 (I 0)) w63 (fun t65 w65 =>
 Gd t65 true (D (binS J 31 (T 76) (C (I 0)) t18 (I 0)) w65 (fun t66 w66 =>
 Gd t66 true (D (binS J 31 (T 80) (C (I 0)) t23 (I 0)) w66 (fun t67 w67 =>
 Gd t67 true (D (binS J 31 (T 84) (C (I 0)) t28 (I 0)) w67 (fun t68 w68 =>
 Gd t68 true (D (binS J 31 (T 88) (C (I 40)) t35 (I 40)) w68 (fun t69 w69 =>
 Gd t69 true (D (binS J 31 (T 92) (C (I 31)) t42 (I 31)) w69 (fun t70 w70 =>
 Gd t70 true (D (binS J 31 (T 96) (C (I 7)) t50 (I 7)) w70 (fun t71 w71 =>
 Gd t71 true (D (binS J 31 (T 100) (C (I 1)) t59 (I 1)) w71 (fun t72 w72 =>
 K64 [t72] w72) X)
(K64 [(V false)] w71)) X)
(K64 [(V false)] w70)) X)
(K64 [(V false)] w69)) X)
(K64 [(V false)] w68)) X)
(K64 [(V false)] w67)) X)
(K64 [(V false)] w66)) X)
(K64 [(V false)] w65)) X)
(fun h73 w73 =>
 D (F 26 t2 6) w73 (fun t74 w74 =>
 D (L 22 t74) w74 (fun t75 w75 =>
 D (F 26 t2 0) w75 (fun t76 w76 =>
 U (S 3 t76 (I 4)) w76 (fun _ w77 =>
 D (Instr.indexAt 22 t75 (I 1)) w77 (fun t78 w78 =>
 D (F 78 t78 2) w78 (fun t79 w79 =>
 U (S 4 t79 (V true)) w79 (fun _ w80 =>
 Gd (h73 21) true (Gd t17 true (D (Op.unary UnOp.not t22) w80 (fun t81 w81 =>
 Gd t81 true (D (F 55 t10 0) w81 (fun t82 w82 =>
 D (L 3 t82) w82 (fun t83 w83 =>
 D (binS J 3 (T 118) (C (I 4)) t83 (I 4)) w83 (fun t84 w84 =>
 Gd t84 true (D (L 26 t11) w84 (fun t85 w85 =>
 D (L 26 t2) w85 (fun t86 w86 =>
 Q 33 #[t85, t86] w86 (fun t87 w87 =>
 Gd t87 true (D (L 26 t29) w87 (fun t88 w88 =>
 D (L 26 t2) w88 (fun t89 w89 =>
 Q 33 #[t88, t89] w89 (fun t90 w90 =>
 R (.returned t90) w90) X) X) X)
(R (.returned (V false)) w87)) X) X) X)
(R (.returned (V false)) w84)) X) X) X)
(R (.returned (V false)) w81)) X)
(R (.returned (V false)) w80))
(R (.returned (V false)) w80)) X) X) X) X) X) X) X)) X) X) X) X) X) X) X) X) X) X) X) X) X) X) X) X) X) X) X) X) X) X) X) X) X) X) X) X) X) X) X) X) X) X) X) X) X) X) X) X) X) X) X) X) X) X) X) X) X) X) X) X) X) X) X) X) X) X) X) X) X) X) X)
theorem sh_landfalllaw29_head_ok (h : sh_landfalllaw29_head  R w) : Calls Tryz.prog 29 #[] w R :=
  calls_of_vc (c := Tryz.f29.body.getD .skip) (args := []) [] [21] follows_mixed Tryz.func29 rfl (of_decide_eq_true (by kernel_rfl)) (by kernel_rfl) (Eq.mp (by kernel_rfl) h)
def sh_edition_Make (v0 v1 v2 v3 : Value) (R : Ending → World → Prop) (w : World) : Prop := 
 letI X := Pan R
 letI D := DoV Tryz.prog
 letI U := DoU Tryz.prog
 letI Q := CallF Tryz.prog
 letI I := Value.int IntKind.i64
 letI L := Instr.loadAt
 letI F := Instr.fieldAt
 letI S := Instr.storeAt
 letI N := Instr.alloc
(D (Instr.box 26 v0) w (fun t1 w1 =>
 D (N 55 true (.tuple #[])) w1 (fun t2 w2 =>
 D (N 26 true (.tuple #[])) w2 (fun t3 w3 =>
 JoinE [] (fun K4 =>
 JoinE [13] (fun K5 =>
 D (L 26 t1) w3 (fun t6 w6 =>
 Q 15 #[t6] w6 (fun t7 w7 =>
 D (Op.unary UnOp.not t7) w7 (fun t8 w8 =>
 Gd t8 false (Q 72 #[v2] w8 (fun t9 w9 =>
 D (Op.unary UnOp.not t9) w9 (fun t10 w10 =>
 Gd t10 false (Q 72 #[v3] w10 (fun t11 w11 =>
 D (Op.unary UnOp.not t11) w11 (fun t12 w12 =>
 K5 [t12] w12) X) X)
(K5 [(Value.bool true)] w10)) X) X)
(K5 [(Value.bool true)] w8)) X) X) X)
(fun h13 w13 =>
 Br (h13 13)
(D (Instr.build 55 #[]) w13 (fun t14 w14 =>
 D (Instr.build 26 #[]) w14 (fun t15 w15 =>
 U (S 55 t2 t14) w15 (fun _ w16 =>
 U (S 26 t3 t15) w16 (fun _ w17 =>
 Res Tryz.prog [.cell t2 55, .cell t3 26, .tmp (I 1)] w17 R) X) X) X) X)
(D (L 26 t1) w13 (fun t18 w18 =>
 Q 73 #[t18, v1] w18 (fun t19 w19 =>
 D (Op.unary UnOp.not t19) w19 (fun t20 w20 =>
 Br t20
(D (Instr.build 55 #[]) w20 (fun t21 w21 =>
 D (Instr.build 26 #[]) w21 (fun t22 w22 =>
 U (S 55 t2 t21) w22 (fun _ w23 =>
 U (S 26 t3 t22) w23 (fun _ w24 =>
 Res Tryz.prog [.cell t2 55, .cell t3 26, .tmp (I 7)] w24 R) X) X) X) X)
(D (F 26 t1 0) w20 (fun t25 w25 =>
 D (L 3 t25) w25 (fun t26 w26 =>
 D (binS BinOp.geq 3 (Operand.tmp 38) (Operand.const (I 1000000)) t26 (I 1000000)) w26 (fun t27 w27 =>
 Br t27
(D (Instr.build 55 #[]) w27 (fun t28 w28 =>
 D (Instr.build 26 #[]) w28 (fun t29 w29 =>
 U (S 55 t2 t28) w29 (fun _ w30 =>
 U (S 26 t3 t29) w30 (fun _ w31 =>
 Res Tryz.prog [.cell t2 55, .cell t3 26, .tmp (I 2)] w31 R) X) X) X) X)
(K4 [] w27)) X) X) X)) X) X) X)))
(fun _ w32 =>
 D (L 26 t1) w32 (fun t33 w33 =>
 Q 74 #[t33, v1] w33 (fun t34 w34 =>
 D (N 26 true (.tuple #[])) w34 (fun t35 w35 =>
 U (S 26 t35 t34) w35 (fun _ w36 =>
 DrawR w36 (fun R37 S37 w37 =>
 DetOp R37 (Both R37 S37) w37 (fun w38 K38 => D (F 26 t35 0) w38 K38 X) (fun c45_38 ψ38 =>
 DetOp R37 (Both R37 S37) w37 (fun w39 K39 => D (L 3 c45_38) w39 K39 X) (fun c46_39 ψ39 =>
 DetOp R37 (Both R37 S37) w37 (fun w40 K40 => D (L 26 t1) w40 K40 X) (fun c47_40 ψ40 =>
 DetOp R37 (Both R37 S37) w37 (fun w41 K41 => Q 75 #[c47_40] w41 K41 X) (fun c48_41 ψ41 =>
 DetOp R37 (Both R37 S37) w37 (fun w42 K42 => D (L 26 t35) w42 K42 X) (fun c49_42 ψ42 =>
 DetOp R37 (Both R37 S37) w37 (fun w43 K43 => Q 75 #[c49_42] w43 K43 X) (fun c50_43 ψ43 =>
 ThrE R37 S37 0 w37 (fun Θ37_0 T37_0 =>
 NdC R37 S37 0 w37 Θ37_0 (fun w44 K44 => Q 76 #[v1] w44 K44 X) (fun v52_44 φ44 =>
 NdC R37 S37 0 w37 φ44 (fun w45 K45 => D (Instr.build 55 #[(0, c46_39), (1, c48_41), (2, c50_43), (3, v52_44)]) w45 K45 X) (fun v53_45 φ45 =>
 T37_0 [v52_44, v53_45] φ45))) (fun Φ37_0 =>
 ThrE R37 S37 1 w37 (fun Θ37_1 T37_1 =>
 NdC R37 S37 1 w37 Θ37_1 (fun w46 K46 => D (N 55 true (.tuple #[])) w46 K46 X) (fun v12_46 φ46 =>
 T37_1 [v12_46] φ46)) (fun Φ37_1 =>
 ∀ (h47 : Nat → Value) (w48 : World), R37 w37 w48 → ((((((True ∧ ψ38 w48) ∧ ψ39 w48) ∧ ψ40 w48) ∧ ψ41 w48) ∧ ψ42 w48) ∧ ψ43 w48) ∧ ((True ∧ Φ37_0 [(h47 52), (h47 53)] w48) ∧ Φ37_1 [(h47 12)] w48) →
 U (S 55 (h47 12) (h47 53)) w48 (fun _ w49 =>
 D (L 55 (h47 12)) w49 (fun t50 w50 =>
 Q 78 #[t50] w50 (fun t51 w51 =>
 Q 77 #[v2, v3, t51] w51 (fun t52 w52 =>
 D (Instr.extract t52 0) w52 (fun t53 w53 =>
 D (Instr.extract t52 1) w53 (fun _ w54 =>
 D (F 55 (h47 12) 4) w54 (fun t55 w55 =>
 U (S 53 t55 t53) w55 (fun _ w56 =>
 DrawE w56 (fun Rs57 Rb57 w57 =>
 DetOp Rb57 Rs57 w57 (fun w58 K58 => D (L 55 (h47 12)) w58 K58 X) (fun c63_58 ψ58 =>
 DetOp Rb57 Rs57 w57 (fun w59 K59 => D (L 26 t35) w59 K59 X) (fun c64_59 ψ59 =>
 DetOp Rb57 Rs57 w57 (fun w60 K60 => U (S 55 t2 c63_58) w60 K60 X) (fun c_60 ψ60 =>
 ∀ w61, Rb57 w57 w61 → (((True ∧ ψ58 w61) ∧ ψ59 w61) ∧ ψ60 w61) →
 U (S 26 t3 c64_59) w61 (fun _ w62 =>
 Res Tryz.prog [.cell t2 55, .cell t3 26, .tmp (I 0)] w62 R) X))))) X) X) X) X) X) X) X) X)))))))))) X) X) X) X)) X) X) X)
theorem sh_edition_Make_ok (v0 v1 v2 v3 : Value) (h : sh_edition_Make v0 v1 v2 v3 R w) : Calls Tryz.prog 30 #[v0, v1, v2, v3] w R :=
  calls_of_vc (c := Tryz.f30.body.getD .skip) (args := [v0, v1, v2, v3]) [(8, 10, false, 287310824), (10, 3, false, 0)] [] follows_mixed Tryz.func30 rfl (of_decide_eq_true (by kernel_rfl)) (by kernel_rfl) (Eq.mp (by kernel_rfl) h)
def sh_landfallref29_Make (v0 v1 v2 v3 : Value) (R : Ending → World → Prop) (w : World) : Prop := 
 letI X := Pan R
 letI D := DoV Tryz.prog
 letI U := DoU Tryz.prog
 letI Q := CallF Tryz.prog
 letI I := Value.int IntKind.i64
 letI L := Instr.loadAt
 letI F := Instr.fieldAt
 letI S := Instr.storeAt
 letI N := Instr.alloc
(D (Instr.box 26 v0) w (fun t1 w1 =>
 D (N 55 true (.tuple #[])) w1 (fun t2 w2 =>
 D (N 26 true (.tuple #[])) w2 (fun t3 w3 =>
 D (L 26 t1) w3 (fun t4 w4 =>
 Q 16 #[t4] w4 (fun t5 w5 =>
 Q 79 #[v2] w5 (fun t6 w6 =>
 Q 79 #[v3] w6 (fun t7 w7 =>
 JoinE [] (fun K8 =>
 JoinE [33] (fun K9 =>
 D (Op.unary UnOp.not t5) w7 (fun t10 w10 =>
 Gd t10 false (D (Op.unary UnOp.not t6) w10 (fun t11 w11 =>
 Gd t11 false (D (Op.unary UnOp.not t7) w11 (fun t12 w12 =>
 K9 [t12] w12) X)
(K9 [(Value.bool true)] w11)) X)
(K9 [(Value.bool true)] w10)) X)
(fun h13 w13 =>
 Br (h13 33)
(D (Instr.build 55 #[]) w13 (fun t14 w14 =>
 D (Instr.build 26 #[]) w14 (fun t15 w15 =>
 U (S 55 t2 t14) w15 (fun _ w16 =>
 U (S 26 t3 t15) w16 (fun _ w17 =>
 Res Tryz.prog [.cell t2 55, .cell t3 26, .tmp (I 1)] w17 R) X) X) X) X)
(K8 [] w13)))
(fun _ w18 =>
 D (L 26 t1) w18 (fun t19 w19 =>
 Q 40 #[t19, v1] w19 (fun t20 w20 =>
 D (Op.unary UnOp.not t20) w20 (fun t21 w21 =>
 Br t21
(D (Instr.build 55 #[]) w21 (fun t22 w22 =>
 D (Instr.build 26 #[]) w22 (fun t23 w23 =>
 U (S 55 t2 t22) w23 (fun _ w24 =>
 U (S 26 t3 t23) w24 (fun _ w25 =>
 Res Tryz.prog [.cell t2 55, .cell t3 26, .tmp (I 7)] w25 R) X) X) X) X)
(D (F 26 t1 0) w21 (fun t26 w26 =>
 D (L 3 t26) w26 (fun t27 w27 =>
 D (binS BinOp.eql 3 (Operand.tmp 44) (Operand.const (I 1000000)) t27 (I 1000000)) w27 (fun t28 w28 =>
 Br t28
(D (Instr.build 55 #[]) w28 (fun t29 w29 =>
 D (Instr.build 26 #[]) w29 (fun t30 w30 =>
 U (S 55 t2 t29) w30 (fun _ w31 =>
 U (S 26 t3 t30) w31 (fun _ w32 =>
 Res Tryz.prog [.cell t2 55, .cell t3 26, .tmp (I 2)] w32 R) X) X) X) X)
(D (L 26 t1) w28 (fun t33 w33 =>
 Q 39 #[t33, v1] w33 (fun t34 w34 =>
 D (N 26 true (.tuple #[])) w34 (fun t35 w35 =>
 U (S 26 t35 t34) w35 (fun _ w36 =>
 CallB Tryz.prog Builtin.append #[36, 36] 36 #[false, false] #[(Value.slice none 0 0), v1] w36 (fun t37 w37 =>
 DrawE w37 (fun Rs38 Rb38 w38 =>
 DetOp Rb38 Rs38 w38 (fun w39 K39 => D (F 26 t35 0) w39 K39 X) (fun c54_39 ψ39 =>
 DetOp Rb38 Rs38 w38 (fun w40 K40 => D (L 3 c54_39) w40 K40 X) (fun c55_40 ψ40 =>
 DetOp Rb38 Rs38 w38 (fun w41 K41 => D (L 26 t1) w41 K41 X) (fun c56_41 ψ41 =>
 DetOp Rb38 Rs38 w38 (fun w42 K42 => Q 80 #[c56_41] w42 K42 X) (fun c57_42 ψ42 =>
 DetOp Rb38 Rs38 w38 (fun w43 K43 => D (L 26 t35) w43 K43 X) (fun c58_43 ψ43 =>
 DetOp Rs38 Rb38 w38 (fun w44 K44 => Q 80 #[c58_43] w44 K44 X) (fun c59_44 ψ44 =>
 DetOp Rb38 Rs38 w38 (fun w45 K45 => D (Instr.build 55 #[(0, c55_40), (1, c57_42), (2, c59_44), (3, t37)]) w45 K45 X) (fun c61_45 ψ45 =>
 NdOp Rb38 Rs38 w38 (fun w46 K46 => D (N 55 true (.tuple #[])) w46 K46 X) (fun v17_46 φ46 =>
 ∀ w47, Rb38 w38 w47 → (((((((True ∧ ψ39 w47) ∧ ψ40 w47) ∧ ψ41 w47) ∧ ψ42 w47) ∧ ψ43 w47) ∧ ψ44 w47) ∧ ψ45 w47) ∧ φ46 w47 →
 U (S 55 v17_46 c61_45) w47 (fun _ w48 =>
 D (L 55 v17_46) w48 (fun t49 w49 =>
 Q 82 #[t49] w49 (fun t50 w50 =>
 Q 81 #[v2, v3, t50] w50 (fun t51 w51 =>
 D (Instr.extract t51 0) w51 (fun t52 w52 =>
 D (Instr.extract t51 1) w52 (fun _ w53 =>
 D (F 55 v17_46 4) w53 (fun t54 w54 =>
 U (S 53 t54 t52) w54 (fun _ w55 =>
 DrawE w55 (fun Rs56 Rb56 w56 =>
 DetOp Rb56 Rs56 w56 (fun w57 K57 => D (L 55 v17_46) w57 K57 X) (fun c71_57 ψ57 =>
 DetOp Rb56 Rs56 w56 (fun w58 K58 => D (L 26 t35) w58 K58 X) (fun c72_58 ψ58 =>
 DetOp Rb56 Rs56 w56 (fun w59 K59 => U (S 55 t2 c71_57) w59 K59 X) (fun c_59 ψ59 =>
 ∀ w60, Rb56 w56 w60 → (((True ∧ ψ57 w60) ∧ ψ58 w60) ∧ ψ59 w60) →
 U (S 26 t3 c72_58) w60 (fun _ w61 =>
 Res Tryz.prog [.cell t2 55, .cell t3 26, .tmp (I 0)] w61 R) X))))) X) X) X) X) X) X) X) X)))))))))) X) X) X) X) X)) X) X) X)) X) X) X)) X) X) X) X) X) X) X)
theorem sh_landfallref29_Make_ok (v0 v1 v2 v3 : Value) (h : sh_landfallref29_Make v0 v1 v2 v3 R w) : Calls Tryz.prog 31 #[v0, v1, v2, v3] w R :=
  calls_of_vc (c := Tryz.f31.body.getD .skip) (args := [v0, v1, v2, v3]) [(14, 8, true, 6), (16, 3, false, 0)] [] follows_mixed Tryz.func31 rfl (of_decide_eq_true (by kernel_rfl)) (by kernel_rfl) (Eq.mp (by kernel_rfl) h)
def sh_landfallref29_Same (v0 v1 : Value) (R : Ending → World → Prop) (w : World) : Prop := 
 letI X := Pan R
 letI D := DoV Tryz.prog
 letI T := Operand.tmp
 letI L := Instr.loadAt
 letI F := Instr.fieldAt
 letI V := Value.bool
 letI J := BinOp.eql
(D (Instr.box 55 v0) w (fun t1 w1 =>
 D (Instr.box 55 v1) w1 (fun t2 w2 =>
 D (F 55 t1 3) w2 (fun t3 w3 =>
 D (L 36 t3) w3 (fun t4 w4 =>
 D (F 55 t2 3) w4 (fun t5 w5 =>
 D (L 36 t5) w5 (fun t6 w6 =>
 CallF Tryz.prog 21 #[t4, t6] w6 (fun t7 w7 =>
 D (F 55 t1 0) w7 (fun t8 w8 =>
 D (L 3 t8) w8 (fun t9 w9 =>
 D (F 55 t2 0) w9 (fun t10 w10 =>
 D (L 3 t10) w10 (fun t11 w11 =>
 D (binS J 3 (T 12) (T 14) t9 t11) w11 (fun t12 w12 =>
 Gd t12 true (D (F 55 t1 1) w12 (fun t13 w13 =>
 D (L 48 t13) w13 (fun t14 w14 =>
 D (F 55 t2 1) w14 (fun t15 w15 =>
 D (L 48 t15) w15 (fun t16 w16 =>
 D (binS J 48 (T 18) (T 20) t14 t16) w16 (fun t17 w17 =>
 Gd t17 true (D (F 55 t1 2) w17 (fun t18 w18 =>
 D (L 48 t18) w18 (fun t19 w19 =>
 D (F 55 t2 2) w19 (fun t20 w20 =>
 D (L 48 t20) w20 (fun t21 w21 =>
 D (binS J 48 (T 25) (T 27) t19 t21) w21 (fun t22 w22 =>
 Gd t22 true (D (F 55 t1 4) w22 (fun t23 w23 =>
 D (L 53 t23) w23 (fun t24 w24 =>
 D (F 55 t2 4) w24 (fun t25 w25 =>
 D (L 53 t25) w25 (fun t26 w26 =>
 D (binS J 53 (T 32) (T 34) t24 t26) w26 (fun t27 w27 =>
 Gd t27 true (R (.returned t7) w27)
(R (.returned (V false)) w27)) X) X) X) X) X)
(R (.returned (V false)) w22)) X) X) X) X) X)
(R (.returned (V false)) w17)) X) X) X) X) X)
(R (.returned (V false)) w12)) X) X) X) X) X) X) X) X) X) X) X) X)
theorem sh_landfallref29_Same_ok (v0 v1 : Value) (h : sh_landfallref29_Same v0 v1 R w) : Calls Tryz.prog 32 #[v0, v1] w R :=
  calls_of_vc (c := Tryz.f32.body.getD .skip) (args := [v0, v1]) [] [] follows_mixed Tryz.func32 rfl (of_decide_eq_true (by kernel_rfl)) (by kernel_rfl) (Eq.mp (by kernel_rfl) h)
def sh_edition_Check (v0 v1 v2 : Value) (R : Ending → World → Prop) (w : World) : Prop := 
 letI X := Pan R
 letI D := DoV Tryz.prog
 letI I := Value.int IntKind.i64
 letI V := Value.bool
(D (Instr.box 26 v0) w (fun t1 w1 =>
 D (Instr.box 55 v1) w1 (fun t2 w2 =>
 D (Instr.loadAt 26 t1) w2 (fun t3 w3 =>
 D (Instr.loadAt 55 t2) w3 (fun t4 w4 =>
 CallF Tryz.prog 36 #[t3, t4, v2] w4 (fun t5 w5 =>
 D (Instr.extract t5 0) w5 (fun t6 w6 =>
 D (Instr.extract t5 1) w6 (fun t7 w7 =>
 D (Instr.alloc 26 true (.tuple #[])) w7 (fun t8 w8 =>
 DoU Tryz.prog (Instr.storeAt 26 t8 t6) w8 (fun _ w9 =>
 D (binS BinOp.eql 31 (Operand.tmp 17) (Operand.const (I 1)) t7 (I 1)) w9 (fun t10 w10 =>
 Br t10
(R (.returned (Value.tuple #[(V false), t7])) w10)
(D (binS BinOp.eql 31 (Operand.tmp 17) (Operand.const (I 0)) t7 (I 0)) w10 (fun t11 w11 =>
 Br t11
(R (.returned (Value.tuple #[(V true), (I 0)])) w11)
(R (.returned (Value.tuple #[(V false), (I 0)])) w11)) X)) X) X) X) X) X) X) X) X) X) X)
theorem sh_edition_Check_ok (v0 v1 v2 : Value) (h : sh_edition_Check v0 v1 v2 R w) : Calls Tryz.prog 34 #[v0, v1, v2] w R :=
  calls_of_vc (c := Tryz.f34.body.getD .skip) (args := [v0, v1, v2]) [] [] follows_mixed Tryz.func34 rfl (of_decide_eq_true (by kernel_rfl)) (by kernel_rfl) (Eq.mp (by kernel_rfl) h)
def sh_landfallref29_Check (v0 v1 v2 : Value) (R : Ending → World → Prop) (w : World) : Prop := 
 letI X := Pan R
 letI D := DoV Tryz.prog
 letI I := Value.int IntKind.i64
(D (Instr.box 26 v0) w (fun t1 w1 =>
 D (Instr.box 55 v1) w1 (fun t2 w2 =>
 D (Instr.loadAt 26 t1) w2 (fun t3 w3 =>
 D (Instr.loadAt 55 t2) w3 (fun t4 w4 =>
 CallF Tryz.prog 37 #[t3, t4, v2] w4 (fun t5 w5 =>
 D (Instr.extract t5 0) w5 (fun t6 w6 =>
 D (Instr.extract t5 1) w6 (fun t7 w7 =>
 D (Instr.alloc 26 true (.tuple #[])) w7 (fun t8 w8 =>
 DoU Tryz.prog (Instr.storeAt 26 t8 t6) w8 (fun _ w9 =>
 D (binS BinOp.eql 31 (Operand.tmp 17) (Operand.const (I 1)) t7 (I 1)) w9 (fun t10 w10 =>
 Br t10
(R (.returned (Value.tuple #[(Value.bool false), t7])) w10)
(D (binS BinOp.eql 31 (Operand.tmp 20) (Operand.const (I 0)) t7 (I 0)) w10 (fun t11 w11 =>
 R (.returned (Value.tuple #[t11, (I 0)])) w11) X)) X) X) X) X) X) X) X) X) X) X)
theorem sh_landfallref29_Check_ok (v0 v1 v2 : Value) (h : sh_landfallref29_Check v0 v1 v2 R w) : Calls Tryz.prog 35 #[v0, v1, v2] w R :=
  calls_of_vc (c := Tryz.f35.body.getD .skip) (args := [v0, v1, v2]) [] [] follows_mixed Tryz.func35 rfl (of_decide_eq_true (by kernel_rfl)) (by kernel_rfl) (Eq.mp (by kernel_rfl) h)
def sh_edition_Apply (v0 v1 v2 : Value) (R : Ending → World → Prop) (w : World) : Prop := 
 letI X := Pan R
 letI D := DoV Tryz.prog
 letI I := Value.int IntKind.i64
(D (Instr.box 26 v0) w (fun t1 w1 =>
 D (Instr.box 55 v1) w1 (fun t2 w2 =>
 D (Instr.box 3 v2) w2 (fun t3 w3 =>
 D (Instr.alloc 26 true (.tuple #[])) w3 (fun t4 w4 =>
 D (Instr.alloc 26 true (.tuple #[])) w4 (fun t5 w5 =>
 D (Instr.makeFunc (Fn.func 84) #[] #[t1, t3]) w5 (fun t6 w6 =>
 D (Instr.build 121 #[(0, (I 1)), (1, t6)]) w6 (fun t7 w7 =>
 D (Instr.makeFunc (Fn.func 86) #[] #[t2, t1]) w7 (fun t8 w8 =>
 D (Instr.build 121 #[(0, (I 40)), (1, t8)]) w8 (fun t9 w9 =>
 D (Instr.makeFunc (Fn.func 87) #[] #[t2, t1]) w9 (fun t10 w10 =>
 D (Instr.build 121 #[(0, (I 30)), (1, t10)]) w10 (fun t11 w11 =>
 D (Instr.makeFunc (Fn.func 88) #[] #[t1, t2]) w11 (fun t12 w12 =>
 D (Instr.build 121 #[(0, (I 7)), (1, t12)]) w12 (fun t13 w13 =>
 D (Instr.makeFunc (Fn.func 89) #[] #[t1, t2, t5]) w13 (fun t14 w14 =>
 D (Instr.build 121 #[(0, (I 30)), (1, t14)]) w14 (fun t15 w15 =>
 D (Instr.makeFunc (Fn.func 90) #[] #[t3, t2]) w15 (fun t16 w16 =>
 D (Instr.build 121 #[(0, (I 31)), (1, t16)]) w16 (fun t17 w17 =>
 D (Instr.buildSlice 147 6 #[(0, t7), (1, t9), (2, t11), (3, t13), (4, t15), (5, t17)]) w17 (fun t18 w18 =>
 CallF Tryz.prog 83 #[t18] w18 (fun t19 w19 =>
 D (binS BinOp.neq 31 (Operand.tmp 24) (Operand.const (I 0)) t19 (I 0)) w19 (fun t20 w20 =>
 Br t20
(D (Instr.build 26 #[]) w20 (fun t21 w21 =>
 DoU Tryz.prog (Instr.storeAt 26 t4 t21) w21 (fun _ w22 =>
 Res Tryz.prog [.cell t4 26, .tmp t19] w22 R) X) X)
(D (Instr.loadAt 26 t5) w20 (fun t23 w23 =>
 DoU Tryz.prog (Instr.storeAt 26 t4 t23) w23 (fun _ w24 =>
 Res Tryz.prog [.cell t4 26, .tmp (I 0)] w24 R) X) X)) X) X) X) X) X) X) X) X) X) X) X) X) X) X) X) X) X) X) X) X)
theorem sh_edition_Apply_ok (v0 v1 v2 : Value) (h : sh_edition_Apply v0 v1 v2 R w) : Calls Tryz.prog 36 #[v0, v1, v2] w R :=
  calls_of_vc (c := Tryz.f36.body.getD .skip) (args := [v0, v1, v2]) [] [] follows_mixed Tryz.func36 rfl (of_decide_eq_true (by kernel_rfl)) (by kernel_rfl) (Eq.mp (by kernel_rfl) h)
def sh_landfallref29_Apply (v0 v1 v2 : Value) (R : Ending → World → Prop) (w : World) : Prop := 
 letI X := Pan R
 letI D := DoV Tryz.prog
 letI U := DoU Tryz.prog
 letI Q := CallF Tryz.prog
 letI I := Value.int IntKind.i64
 letI T := Operand.tmp
 letI C := Operand.const
 letI L := Instr.loadAt
 letI F := Instr.fieldAt
 letI S := Instr.storeAt
 letI V := Value.bool
(D (Instr.box 26 v0) w (fun t1 w1 =>
 D (Instr.box 55 v1) w1 (fun t2 w2 =>
 D (Instr.alloc 26 true (.tuple #[])) w2 (fun t3 w3 =>
 D (L 26 t1) w3 (fun t4 w4 =>
 Q 16 #[t4] w4 (fun t5 w5 =>
 Q 92 #[v2] w5 (fun t6 w6 =>
 JoinE [] (fun K7 =>
 JoinE [23] (fun K8 =>
 D (Op.unary UnOp.not t5) w6 (fun t9 w9 =>
 Gd t9 false (D (Op.unary UnOp.not t6) w9 (fun t10 w10 =>
 K8 [t10] w10) X)
(K8 [(V true)] w9)) X)
(fun h11 w11 =>
 Br (h11 23)
(D (Instr.build 26 #[]) w11 (fun t12 w12 =>
 U (S 26 t3 t12) w12 (fun _ w13 =>
 Res Tryz.prog [.cell t3 26, .tmp (I 1)] w13 R) X) X)
(K7 [] w11)))
(fun _ w14 =>
 JoinE [] (fun K15 =>
 JoinE [35] (fun K16 =>
 D (F 55 t2 0) w14 (fun t17 w17 =>
 D (L 3 t17) w17 (fun t18 w18 =>
 D (F 26 t1 0) w18 (fun t19 w19 =>
 D (L 3 t19) w19 (fun t20 w20 =>
 D (binS BinOp.add 3 (T 28) (C (I 1)) t20 (I 1)) w20 (fun t21 w21 =>
 D (binS BinOp.neq 3 (T 26) (T 29) t18 t21) w21 (fun t22 w22 =>
 Gd t22 false (D (F 55 t2 0) w22 (fun t23 w23 =>
 D (L 3 t23) w23 (fun t24 w24 =>
 D (binS BinOp.gtr 3 (T 33) (C (I 1000000)) t24 (I 1000000)) w24 (fun t25 w25 =>
 K16 [t25] w25) X) X) X)
(K16 [(V true)] w22)) X) X) X) X) X) X)
(fun h26 w26 =>
 Br (h26 35)
(D (Instr.build 26 #[]) w26 (fun t27 w27 =>
 U (S 26 t3 t27) w27 (fun _ w28 =>
 Res Tryz.prog [.cell t3 26, .tmp (I 40)] w28 R) X) X)
(K15 [] w26)))
(fun _ w29 =>
 DrawE w29 (fun Rs30 Rb30 w30 =>
 DetOp Rb30 Rs30 w30 (fun w31 K31 => D (F 55 t2 1) w31 K31 X) (fun c37_31 ψ31 =>
 DetOp Rb30 Rs30 w30 (fun w32 K32 => D (L 48 c37_31) w32 K32 X) (fun c38_32 ψ32 =>
 DetOp Rb30 Rs30 w30 (fun w33 K33 => D (L 26 t1) w33 K33 X) (fun c39_33 ψ33 =>
 DetOp Rs30 Rb30 w30 (fun w34 K34 => Q 80 #[c39_33] w34 K34 X) (fun c40_34 ψ34 =>
 ∀ w35, Rb30 w30 w35 → ((((True ∧ ψ31 w35) ∧ ψ32 w35) ∧ ψ33 w35) ∧ ψ34 w35) →
 D (binS BinOp.neq 48 (T 38) (T 40) c38_32 c40_34) w35 (fun t36 w36 =>
 Br t36
(D (Instr.build 26 #[]) w36 (fun t37 w37 =>
 U (S 26 t3 t37) w37 (fun _ w38 =>
 Res Tryz.prog [.cell t3 26, .tmp (I 30)] w38 R) X) X)
(D (L 26 t1) w36 (fun t39 w39 =>
 D (F 55 t2 3) w39 (fun t40 w40 =>
 D (L 36 t40) w40 (fun t41 w41 =>
 Q 40 #[t39, t41] w41 (fun t42 w42 =>
 D (Op.unary UnOp.not t42) w42 (fun t43 w43 =>
 Br t43
(D (Instr.build 26 #[]) w43 (fun t44 w44 =>
 U (S 26 t3 t44) w44 (fun _ w45 =>
 Res Tryz.prog [.cell t3 26, .tmp (I 7)] w45 R) X) X)
(D (L 26 t1) w43 (fun t46 w46 =>
 D (F 55 t2 3) w46 (fun t47 w47 =>
 D (L 36 t47) w47 (fun t48 w48 =>
 Q 39 #[t46, t48] w48 (fun t49 w49 =>
 D (Instr.alloc 26 true (.tuple #[])) w49 (fun t50 w50 =>
 U (S 26 t50 t49) w50 (fun _ w51 =>
 DrawE w51 (fun Rs52 Rb52 w52 =>
 DetOp Rb52 Rs52 w52 (fun w53 K53 => D (F 55 t2 2) w53 K53 X) (fun c54_53 ψ53 =>
 DetOp Rb52 Rs52 w52 (fun w54 K54 => D (L 48 c54_53) w54 K54 X) (fun c55_54 ψ54 =>
 DetOp Rb52 Rs52 w52 (fun w55 K55 => D (L 26 t50) w55 K55 X) (fun c56_55 ψ55 =>
 DetOp Rs52 Rb52 w52 (fun w56 K56 => Q 80 #[c56_55] w56 K56 X) (fun c57_56 ψ56 =>
 ∀ w57, Rb52 w52 w57 → ((((True ∧ ψ53 w57) ∧ ψ54 w57) ∧ ψ55 w57) ∧ ψ56 w57) →
 D (binS BinOp.neq 48 (T 55) (T 57) c55_54 c57_56) w57 (fun t58 w58 =>
 Br t58
(D (Instr.build 26 #[]) w58 (fun t59 w59 =>
 U (S 26 t3 t59) w59 (fun _ w60 =>
 Res Tryz.prog [.cell t3 26, .tmp (I 30)] w60 R) X) X)
(DrawR w58 (fun R61 S61 w61 =>
 DetOp R61 (Both R61 S61) w61 (fun w62 K62 => D (F 55 t2 4) w62 K62 X) (fun c62_62 ψ62 =>
 DetOp R61 (Both R61 S61) w61 (fun w63 K63 => D (L 53 c62_62) w63 K63 X) (fun c63_63 ψ63 =>
 DetOp R61 (Both R61 S61) w61 (fun w64 K64 => D (L 55 t2) w64 K64 X) (fun c64_64 ψ64 =>
 ThrE R61 S61 0 w61 (fun Θ61_0 T61_0 =>
 NdC R61 S61 0 w61 Θ61_0 (fun w65 K65 => Q 82 #[c64_64] w65 K65 X) (fun v65_65 φ65 =>
 NdC R61 S61 0 w61 φ65 (fun w66 K66 => Q 93 #[v2, c63_63, v65_65] w66 K66 X) (fun v66_66 φ66 =>
 NdC R61 S61 0 w61 φ66 (fun w67 K67 => K67 v66_66 w67) (fun v60_67 φ67 =>
 NdC R61 S61 0 w61 φ67 (fun w68 K68 => D (Instr.extract v60_67 0) w68 K68 X) (fun v67_68 φ68 =>
 NdC R61 S61 0 w61 φ68 (fun w69 K69 => D (Instr.extract v60_67 1) w69 K69 X) (fun v68_69 φ69 =>
 NdC R61 S61 0 w61 φ69 (fun w70 K70 => K70 v67_68 w70) (fun v12_70 φ70 =>
 T61_0 [v65_65, v66_66, v60_67, v67_68, v68_69, v12_70] φ70))))))) (fun Φ61_0 =>
 ∀ (h71 : Nat → Value) (w72 : World), R61 w61 w72 → (((True ∧ ψ62 w72) ∧ ψ63 w72) ∧ ψ64 w72) ∧ (True ∧ Φ61_0 [(h71 65), (h71 66), (h71 60), (h71 67), (h71 68), (h71 12)] w72) →
 JoinE [] (fun K73 =>
 JoinE [74] (fun K74 =>
 D (binS BinOp.neq 31 (T 69) (C (I 0)) (h71 68) (I 0)) w72 (fun t75 w75 =>
 Gd t75 false (D (Op.unary UnOp.not (h71 12)) w75 (fun t76 w76 =>
 K74 [t76] w76) X)
(K74 [(V true)] w75)) X)
(fun h77 w77 =>
 Br (h77 74)
(D (Instr.build 26 #[]) w77 (fun t78 w78 =>
 U (S 26 t3 t78) w78 (fun _ w79 =>
 Res Tryz.prog [.cell t3 26, .tmp (I 31)] w79 R) X) X)
(K73 [] w77)))
(fun _ w80 =>
 D (L 26 t50) w80 (fun t81 w81 =>
 U (S 26 t3 t81) w81 (fun _ w82 =>
 Res Tryz.prog [.cell t3 26, .tmp (I 0)] w82 R) X) X)))))))) X)))))) X) X) X) X) X) X)) X) X) X) X) X)) X)))))))) X) X) X) X) X) X)
theorem sh_landfallref29_Apply_ok (v0 v1 v2 : Value) (h : sh_landfallref29_Apply v0 v1 v2 R w) : Calls Tryz.prog 37 #[v0, v1, v2] w R :=
  calls_of_vc (c := Tryz.f37.body.getD .skip) (args := [v0, v1, v2]) [(7, 4, false, 4), (13, 4, false, 4), (15, 10, false, 153392104)] [] follows_mixed Tryz.func37 rfl (of_decide_eq_true (by kernel_rfl)) (by kernel_rfl) (Eq.mp (by kernel_rfl) h)
def sh_landfallref29_Next (v0 v1 : Value) (R : Ending → World → Prop) (w : World) : Prop := 
 letI X := Pan R
 letI D := DoV Tryz.prog
 letI U := DoU Tryz.prog
 letI B := CallB Tryz.prog
 letI I := Value.int IntKind.i64
 letI T := Operand.tmp
 letI L := Instr.loadAt
 letI F := Instr.fieldAt
 letI S := Instr.storeAt
(D (Instr.box 26 v0) w (fun t1 w1 =>
 D (Instr.alloc 26 true (.tuple #[])) w1 (fun t2 w2 =>
 D (F 26 t1 0) w2 (fun t3 w3 =>
 D (L 3 t3) w3 (fun t4 w4 =>
 D (binS BinOp.add 3 (T 8) (Operand.const (I 1)) t4 (I 1)) w4 (fun t5 w5 =>
 D (F 26 t1 0) w5 (fun t6 w6 =>
 U (S 3 t6 t5) w6 (fun _ w7 =>
 D (F 26 t1 6) w7 (fun t8 w8 =>
 D (L 22 t8) w8 (fun t9 w9 =>
 B Builtin.append #[22, 22] 22 #[false, false] #[(Value.slice none 0 0), t9] w9 (fun t10 w10 =>
 LoopE [6] [(I 0)] w10 (fun h11 w11 K11 =>
 B Builtin.len #[36] 3 #[false] #[v1] w11 (fun t12 w12 =>
 D (binS BinOp.lss 3 (T 15) (T 17) (h11 6) t12) w12 (fun t13 w13 =>
 Br t13
(D (Instr.indexAt 36 v1 (h11 6)) w13 (fun t14 w14 =>
 D (L 3 t14) w14 (fun t15 w15 =>
 D (Instr.indexAt 22 t10 t15) w15 (fun t16 w16 =>
 D (F 78 t16 2) w16 (fun t17 w17 =>
 U (S 4 t17 (Value.bool true)) w17 (fun _ w18 =>
 D (binS BinOp.add 3 (T 19) (Operand.const (I 1)) (h11 6) (I 1)) w18 (fun t19 w19 =>
 K11 [t19] w19) X) X) X) X) X) X)
(D (F 26 t1 6) w13 (fun t20 w20 =>
 U (S 22 t20 t10) w20 (fun _ w21 =>
 D (L 26 t1) w21 (fun t22 w22 =>
 U (S 26 t2 t22) w22 (fun _ w23 =>
 Res Tryz.prog [.cell t2 26] w23 R) X) X) X) X)) X) X)) X) X) X) X) X) X) X) X) X) X)
theorem sh_landfallref29_Next_ok (v0 v1 : Value) (h : sh_landfallref29_Next v0 v1 R w) : Calls Tryz.prog 39 #[v0, v1] w R :=
  calls_of_vc (c := Tryz.f39.body.getD .skip) (args := [v0, v1]) [] [6] follows_mixed Tryz.func39 rfl (of_decide_eq_true (by kernel_rfl)) (by kernel_rfl) (Eq.mp (by kernel_rfl) h)
def sh_landfallref29_Voids (v0 v1 : Value) (R : Ending → World → Prop) (w : World) : Prop := 
 letI X := Pan R
 letI D := DoV Tryz.prog
 letI B := CallB Tryz.prog
 letI I := Value.int IntKind.i64
 letI T := Operand.tmp
 letI C := Operand.const
 letI L := Instr.loadAt
 letI F := Instr.fieldAt
 letI A := Instr.indexAt
 letI V := Value.bool
(D (Instr.box 26 v0) w (fun t1 w1 =>
 LoopE [5] [(I 0)] w1 (fun h2 w2 K2 =>
 B Builtin.len #[36] 3 #[false] #[v1] w2 (fun t3 w3 =>
 D (binS BinOp.lss 3 (T 6) (T 8) (h2 5) t3) w3 (fun t4 w4 =>
 Br t4
(JoinE [] (fun K5 =>
 JoinE [] (fun K6 =>
 JoinE [42] (fun K7 =>
 DrawE w4 (fun Rs8 Rb8 w8 =>
 DetOp Rb8 Rs8 w8 (fun w9 K9 => D (A 36 v1 (h2 5)) w9 K9 X) (fun c14_9 ψ9 =>
 DetOp Rb8 Rs8 w8 (fun w10 K10 => D (L 3 c14_9) w10 K10 X) (fun c15_10 ψ10 =>
 DetOp Rb8 Rs8 w8 (fun w11 K11 => D (binS BinOp.lss 3 (T 15) (C (I 0)) c15_10 (I 0)) w11 K11 X) (fun c16_11 ψ11 =>
 Gd c16_11 false (DetOp Rb8 Rs8 w8 (fun w12 K12 => D (A 36 v1 (h2 5)) w12 K12 X) (fun c20_12 ψ12 =>
 DetOp Rb8 Rs8 w8 (fun w13 K13 => D (L 3 c20_12) w13 K13 X) (fun c21_13 ψ13 =>
 DetOp Rb8 Rs8 w8 (fun w14 K14 => D (F 26 t1 6) w14 K14 X) (fun c22_14 ψ14 =>
 DetOp Rb8 Rs8 w8 (fun w15 K15 => D (L 22 c22_14) w15 K15 X) (fun c23_15 ψ15 =>
 DetOp Rb8 Rs8 w8 (fun w16 K16 => B Builtin.len #[22] 3 #[false] #[c23_15] w16 K16 X) (fun c24_16 ψ16 =>
 DetOp Rb8 Rs8 w8 (fun w17 K17 => D (binS BinOp.geq 3 (T 21) (T 24) c21_13 c24_16) w17 K17 X) (fun c25_17 ψ17 =>
 Gd c25_17 false (DetOp Rb8 Rs8 w8 (fun w18 K18 => D (binS BinOp.gtr 3 (T 28) (C (I 0)) (h2 5) (I 0)) w18 K18 X) (fun c29_18 ψ18 =>
 Gd c29_18 true (DetOp Rb8 Rs8 w8 (fun w19 K19 => D (A 36 v1 (h2 5)) w19 K19 X) (fun c33_19 ψ19 =>
 DetOp Rb8 Rs8 w8 (fun w20 K20 => D (L 3 c33_19) w20 K20 X) (fun c34_20 ψ20 =>
 DetOp Rb8 Rs8 w8 (fun w21 K21 => D (binS BinOp.sub 3 (T 36) (C (I 1)) (h2 5) (I 1)) w21 K21 X) (fun c37_21 ψ21 =>
 DetOp Rb8 Rs8 w8 (fun w22 K22 => D (A 36 v1 c37_21) w22 K22 X) (fun c38_22 ψ22 =>
 DetOp Rb8 Rs8 w8 (fun w23 K23 => D (L 3 c38_22) w23 K23 X) (fun c39_23 ψ23 =>
 ∀ w24, Rb8 w8 w24 → (((((((((((((((True ∧ ψ9 w24) ∧ ψ10 w24) ∧ ψ11 w24) ∧ ψ12 w24) ∧ ψ13 w24) ∧ ψ14 w24) ∧ ψ15 w24) ∧ ψ16 w24) ∧ ψ17 w24) ∧ ψ18 w24) ∧ ψ19 w24) ∧ ψ20 w24) ∧ ψ21 w24) ∧ ψ22 w24) ∧ ψ23 w24) →
 D (binS BinOp.leq 3 (T 34) (T 39) c34_20 c39_23) w24 (fun t25 w25 =>
 K7 [t25] w25) X))))))
(∀ w26, Rb8 w8 w26 → ((((((((((True ∧ ψ9 w26) ∧ ψ10 w26) ∧ ψ11 w26) ∧ ψ12 w26) ∧ ψ13 w26) ∧ ψ14 w26) ∧ ψ15 w26) ∧ ψ16 w26) ∧ ψ17 w26) ∧ ψ18 w26) →
 K7 [(V false)] w26)))
(∀ w27, Rb8 w8 w27 → (((((((((True ∧ ψ9 w27) ∧ ψ10 w27) ∧ ψ11 w27) ∧ ψ12 w27) ∧ ψ13 w27) ∧ ψ14 w27) ∧ ψ15 w27) ∧ ψ16 w27) ∧ ψ17 w27) →
 K7 [(V true)] w27))))))))
(∀ w28, Rb8 w8 w28 → (((True ∧ ψ9 w28) ∧ ψ10 w28) ∧ ψ11 w28) →
 K7 [(V true)] w28))))))
(fun h29 w29 =>
 Br (h29 42)
(R (.returned (V false)) w29)
(K6 [] w29)))
(fun _ w30 =>
 DrawE w30 (fun Rs31 Rb31 w31 =>
 DetOp Rb31 Rs31 w31 (fun w32 K32 => D (F 26 t1 6) w32 K32 X) (fun c43_32 ψ32 =>
 DetOp Rb31 Rs31 w31 (fun w33 K33 => D (L 22 c43_32) w33 K33 X) (fun c44_33 ψ33 =>
 DetOp Rb31 Rs31 w31 (fun w34 K34 => D (A 36 v1 (h2 5)) w34 K34 X) (fun c47_34 ψ34 =>
 DetOp Rb31 Rs31 w31 (fun w35 K35 => D (L 3 c47_34) w35 K35 X) (fun c48_35 ψ35 =>
 ∀ w36, Rb31 w31 w36 → ((((True ∧ ψ32 w36) ∧ ψ33 w36) ∧ ψ34 w36) ∧ ψ35 w36) →
 D (A 22 c44_33 c48_35) w36 (fun t37 w37 =>
 D (F 78 t37 2) w37 (fun t38 w38 =>
 D (L 4 t38) w38 (fun t39 w39 =>
 Br t39
(R (.returned (V false)) w39)
(K5 [] w39)) X) X) X)))))))
(fun _ w40 =>
 D (binS BinOp.add 3 (T 10) (C (I 1)) (h2 5) (I 1)) w40 (fun t41 w41 =>
 K2 [t41] w41) X))
(R (.returned (V true)) w4)) X) X)) X)
theorem sh_landfallref29_Voids_ok (v0 v1 : Value) (h : sh_landfallref29_Voids v0 v1 R w) : Calls Tryz.prog 40 #[v0, v1] w R :=
  calls_of_vc (c := Tryz.f40.body.getD .skip) (args := [v0, v1]) [(4, 28, false, 0), (6, 6, false, 0)] [5] follows_mixed Tryz.func40 rfl (of_decide_eq_true (by kernel_rfl)) (by kernel_rfl) (Eq.mp (by kernel_rfl) h)
def sh_landfalllaw29_example (R : Ending → World → Prop) (w : World) : Prop := 
 letI X := Pan R
 letI D := DoV Tryz.prog
 letI I := Value.int IntKind.i64
(D (Instr.alloc 26 true (.tuple #[])) w (fun t1 w1 =>
 D (Instr.build 76 #[(0, (I 100)), (1, (I 200))]) w1 (fun t2 w2 =>
 D (Instr.build 78 #[(0, t2)]) w2 (fun t3 w3 =>
 D (Instr.build 76 #[(0, (I 150)), (1, (I 150))]) w3 (fun t4 w4 =>
 D (Instr.build 78 #[(0, t4), (1, (I 7))]) w4 (fun t5 w5 =>
 D (Instr.buildSlice 22 2 #[(0, t3), (1, t5)]) w5 (fun t6 w6 =>
 D (Instr.build 26 #[(0, (I 3)), (3, (I 2)), (4, (I 1)), (5, (I 10)), (6, t6)]) w6 (fun t7 w7 =>
 DoU Tryz.prog (Instr.storeAt 26 t1 t7) w7 (fun _ w8 =>
 Res Tryz.prog [.cell t1 26] w8 R) X) X) X) X) X) X) X) X)
theorem sh_landfalllaw29_example_ok (h : sh_landfalllaw29_example  R w) : Calls Tryz.prog 71 #[] w R :=
  calls_of_vc (c := Tryz.f71.body.getD .skip) (args := []) [] [] follows_mixed Tryz.func71 rfl (of_decide_eq_true (by kernel_rfl)) (by kernel_rfl) (Eq.mp (by kernel_rfl) h)
def sh_edition_isSecret (v0 : Value) (R : Ending → World → Prop) (w : World) : Prop := 
 letI X := Pan R
 letI D := DoV Tryz.prog
 letI I := Value.int IntKind.i64
(CallF Tryz.prog 38 #[v0] w (fun t1 w1 =>
 D (Instr.extract t1 0) w1 (fun _ w2 =>
 D (Instr.extract t1 1) w2 (fun t3 w3 =>
 D (binS BinOp.eql 31 (Operand.tmp 10) (Operand.const (I 0)) t3 (I 0)) w3 (fun t4 w4 =>
 R (.returned t4) w4) X) X) X) X)
theorem sh_edition_isSecret_ok (v0 : Value) (h : sh_edition_isSecret v0 R w) : Calls Tryz.prog 72 #[v0] w R :=
  calls_of_vc (c := Tryz.f72.body.getD .skip) (args := [v0]) [] [] follows_mixed Tryz.func72 rfl (of_decide_eq_true (by kernel_rfl)) (by kernel_rfl) (Eq.mp (by kernel_rfl) h)
def sh_edition_voids (v0 v1 : Value) (R : Ending → World → Prop) (w : World) : Prop := 
 letI X := Pan R
 letI D := DoV Tryz.prog
(D (Instr.box 26 v0) w (fun t1 w1 =>
 D (Instr.alloc 3 true (.tuple #[])) w1 (fun t2 w2 =>
 DoU Tryz.prog (Instr.storeAt 3 t2 (Value.int IntKind.i64 (-1))) w2 (fun _ w3 =>
 D (Instr.makeFunc (Fn.func 108) #[] #[t2, t1]) w3 (fun t4 w4 =>
 CallF Tryz.prog 109 #[v1, t4] w4 (fun t5 w5 =>
 D (Op.unary UnOp.not t5) w5 (fun t6 w6 =>
 R (.returned t6) w6) X) X) X) X) X) X)
theorem sh_edition_voids_ok (v0 v1 : Value) (h : sh_edition_voids v0 v1 R w) : Calls Tryz.prog 73 #[v0, v1] w R :=
  calls_of_vc (c := Tryz.f73.body.getD .skip) (args := [v0, v1]) [] [] follows_mixed Tryz.func73 rfl (of_decide_eq_true (by kernel_rfl)) (by kernel_rfl) (Eq.mp (by kernel_rfl) h)
def sh_edition_next (v0 v1 : Value) (R : Ending → World → Prop) (w : World) : Prop := 
 letI X := Pan R
 letI D := DoV Tryz.prog
 letI U := DoU Tryz.prog
 letI Q := CallF Tryz.prog
 letI B := CallB Tryz.prog
 letI I := Value.int IntKind.i64
 letI T := Operand.tmp
 letI C := Operand.const
 letI L := Instr.loadAt
 letI F := Instr.fieldAt
 letI S := Instr.storeAt
 letI A := Instr.indexAt
 letI O := BinOp.add
(D (Instr.box 26 v0) w (fun t1 w1 =>
 D (Instr.alloc 26 true (.tuple #[])) w1 (fun t2 w2 =>
 D (F 26 t1 0) w2 (fun t3 w3 =>
 D (L 3 t3) w3 (fun t4 w4 =>
 D (binS O 3 (T 10) (C (I 1)) t4 (I 1)) w4 (fun t5 w5 =>
 D (F 26 t1 0) w5 (fun t6 w6 =>
 U (S 3 t6 t5) w6 (fun _ w7 =>
 D (F 26 t1 6) w7 (fun t8 w8 =>
 D (L 22 t8) w8 (fun t9 w9 =>
 Q 110 #[t9] w9 (fun t10 w10 =>
 D (F 26 t1 6) w10 (fun t11 w11 =>
 U (S 22 t11 t10) w11 (fun _ w12 =>
 D (F 26 t1 7) w12 (fun t13 w13 =>
 D (L 23 t13) w13 (fun t14 w14 =>
 Q 111 #[t14] w14 (fun t15 w15 =>
 D (F 26 t1 7) w15 (fun t16 w16 =>
 U (S 23 t16 t15) w16 (fun _ w17 =>
 D (F 26 t1 8) w17 (fun t18 w18 =>
 D (L 24 t18) w18 (fun t19 w19 =>
 Q 112 #[t19] w19 (fun t20 w20 =>
 D (F 26 t1 8) w20 (fun t21 w21 =>
 U (S 24 t21 t20) w21 (fun _ w22 =>
 D (F 26 t1 8) w22 (fun t23 w23 =>
 D (L 24 t23) w23 (fun t24 w24 =>
 B Builtin.len #[24] 3 #[false] #[t24] w24 (fun t25 w25 =>
 LoopE [28] [(I 0)] w25 (fun h26 w26 K26 =>
 D (binS BinOp.lss 3 (T 28) (T 27) (h26 28) t25) w26 (fun t27 w27 =>
 Br t27
(D (A 24 t24 (h26 28)) w27 (fun t28 w28 =>
 D (L 44 t28) w28 (fun t29 w29 =>
 D (Instr.alloc 44 true (.tuple #[])) w29 (fun t30 w30 =>
 U (S 44 t30 t29) w30 (fun _ w31 =>
 DrawE w31 (fun Rs32 Rb32 w32 =>
 DetOp Rb32 Rs32 w32 (fun w33 K33 => D (F 26 t1 8) w33 K33 X) (fun c33_33 ψ33 =>
 DetOp Rb32 Rs32 w32 (fun w34 K34 => D (L 24 c33_33) w34 K34 X) (fun c34_34 ψ34 =>
 DetOp Rb32 Rs32 w32 (fun w35 K35 => D (F 44 t30 1) w35 K35 X) (fun c36_35 ψ35 =>
 DetOp Rb32 Rs32 w32 (fun w36 K36 => D (L 42 c36_35) w36 K36 X) (fun c37_36 ψ36 =>
 NdOp Rs32 Rb32 w32 (fun w37 K37 => Q 65 #[c37_36] w37 K37 X) (fun v38_37 φ37 =>
 ∀ w38, Rb32 w32 w38 → ((((True ∧ ψ33 w38) ∧ ψ34 w38) ∧ ψ35 w38) ∧ ψ36 w38) ∧ φ37 w38 →
 D (A 24 c34_34 (h26 28)) w38 (fun t39 w39 =>
 D (F 44 t39 1) w39 (fun t40 w40 =>
 U (S 42 t40 v38_37) w40 (fun _ w41 =>
 D (binS O 3 (T 28) (C (I 1)) (h26 28) (I 1)) w41 (fun t42 w42 =>
 K26 [t42] w42) X) X) X) X))))))) X) X) X) X)
(B Builtin.len #[36] 3 #[false] #[v1] w27 (fun t43 w43 =>
 LoopE [44] [(I 0)] w43 (fun h44 w44 K44 =>
 D (binS BinOp.lss 3 (T 44) (T 43) (h44 44) t43) w44 (fun t45 w45 =>
 Br t45
(D (A 36 v1 (h44 44)) w45 (fun t46 w46 =>
 D (L 3 t46) w46 (fun t47 w47 =>
 D (F 26 t1 6) w47 (fun t48 w48 =>
 D (L 22 t48) w48 (fun t49 w49 =>
 D (A 22 t49 t47) w49 (fun t50 w50 =>
 D (F 78 t50 2) w50 (fun t51 w51 =>
 U (S 4 t51 (Value.bool true)) w51 (fun _ w52 =>
 D (binS O 3 (T 44) (C (I 1)) (h44 44) (I 1)) w52 (fun t53 w53 =>
 K44 [t53] w53) X) X) X) X) X) X) X) X)
(D (L 26 t1) w45 (fun t54 w54 =>
 U (S 26 t2 t54) w54 (fun _ w55 =>
 Res Tryz.prog [.cell t2 26] w55 R) X) X)) X)) X)) X)) X) X) X) X) X) X) X) X) X) X) X) X) X) X) X) X) X) X) X) X) X) X) X) X) X)
theorem sh_edition_next_ok (v0 v1 : Value) (h : sh_edition_next v0 v1 R w) : Calls Tryz.prog 74 #[v0, v1] w R :=
  calls_of_vc (c := Tryz.f74.body.getD .skip) (args := [v0, v1]) [(8, 5, true, 6)] [28, 44] follows_mixed Tryz.func74 rfl (of_decide_eq_true (by kernel_rfl)) (by kernel_rfl) (Eq.mp (by kernel_rfl) h)
def sh_edition_digest (v0 : Value) (R : Ending → World → Prop) (w : World) : Prop := 
 letI X := Pan R
 letI D := DoV Tryz.prog
(D (Instr.box 26 v0) w (fun t1 w1 =>
 D (Instr.loadAt 26 t1) w1 (fun t2 w2 =>
 CallF Tryz.prog 27 #[t2] w2 (fun t3 w3 =>
 D (Instr.extract t3 0) w3 (fun t4 w4 =>
 D (Instr.extract t3 1) w4 (fun _ w5 =>
 R (.returned t4) w5) X) X) X) X) X)
theorem sh_edition_digest_ok (v0 : Value) (h : sh_edition_digest v0 R w) : Calls Tryz.prog 75 #[v0] w R :=
  calls_of_vc (c := Tryz.f75.body.getD .skip) (args := [v0]) [] [] follows_mixed Tryz.func75 rfl (of_decide_eq_true (by kernel_rfl)) (by kernel_rfl) (Eq.mp (by kernel_rfl) h)
def sh_slices_Clone___int_int_ (v0 : Value) (R : Ending → World → Prop) (w : World) : Prop := 
 letI X := Pan R
(DoV Tryz.prog (binS BinOp.eql 36 (Operand.tmp 3) (Operand.const (Value.slice none 0 0)) v0 (Value.slice none 0 0)) w (fun t1 w1 =>
 Br t1
(R (.returned (Value.slice none 0 0)) w1)
(DoV Tryz.prog (Instr.buildSlice 36 0 #[]) w1 (fun t2 w2 =>
 CallB Tryz.prog Builtin.append #[36, 36] 36 #[false, false] #[t2, v0] w2 (fun t3 w3 =>
 R (.returned t3) w3) X) X)) X)
theorem sh_slices_Clone___int_int__ok (v0 : Value) (h : sh_slices_Clone___int_int_ v0 R w) : Calls Tryz.prog 76 #[v0] w R :=
  calls_of_vc (c := Tryz.f76.body.getD .skip) (args := [v0]) [] [] follows_mixed Tryz.func76 rfl (of_decide_eq_true (by kernel_rfl)) (by kernel_rfl) (Eq.mp (by kernel_rfl) h)
def sh_edition_ints (v0 : Value) (R : Ending → World → Prop) (w : World) : Prop := 
 letI X := Pan R
 letI D := DoV Tryz.prog
 letI Q := CallF Tryz.prog
 letI L := Instr.loadAt
 letI F := Instr.fieldAt
(D (Instr.box 55 v0) w (fun t1 w1 =>
 DrawR w1 (fun R2 S2 w2 =>
 DetOp R2 (Both R2 S2) w2 (fun w3 K3 => D (F 55 t1 0) w3 K3 X) (fun c3_3 ψ3 =>
 DetOp R2 (Both R2 S2) w2 (fun w4 K4 => D (L 3 c3_3) w4 K4 X) (fun c4_4 ψ4 =>
 DetOp R2 (Both R2 S2) w2 (fun w5 K5 => D (F 55 t1 1) w5 K5 X) (fun c7_5 ψ5 =>
 DetOp R2 (Both R2 S2) w2 (fun w6 K6 => D (L 48 c7_5) w6 K6 X) (fun c8_6 ψ6 =>
 DetOp R2 (Both R2 S2) w2 (fun w7 K7 => D (F 55 t1 2) w7 K7 X) (fun c10_7 ψ7 =>
 DetOp R2 (Both R2 S2) w2 (fun w8 K8 => D (L 48 c10_7) w8 K8 X) (fun c11_8 ψ8 =>
 DetOp R2 (Both R2 S2) w2 (fun w9 K9 => D (F 55 t1 3) w9 K9 X) (fun c13_9 ψ9 =>
 DetOp R2 (Both R2 S2) w2 (fun w10 K10 => D (L 36 c13_9) w10 K10 X) (fun c14_10 ψ10 =>
 ThrE R2 S2 0 w2 (fun Θ2_0 T2_0 =>
 NdC R2 S2 0 w2 Θ2_0 (fun w11 K11 => D (Instr.buildSlice 36 1 #[(0, c4_4)]) w11 K11 X) (fun v5_11 φ11 =>
 NdC R2 S2 0 w2 φ11 (fun w12 K12 => Q 115 #[v5_11] w12 K12 X) (fun v6_12 φ12 =>
 T2_0 [v5_11, v6_12] φ12))) (fun Φ2_0 =>
 ThrE R2 S2 1 w2 (fun Θ2_1 T2_1 =>
 NdC R2 S2 1 w2 Θ2_1 (fun w13 K13 => Q 116 #[c8_6] w13 K13 X) (fun v9_13 φ13 =>
 T2_1 [v9_13] φ13)) (fun Φ2_1 =>
 ThrE R2 S2 2 w2 (fun Θ2_2 T2_2 =>
 NdC R2 S2 2 w2 Θ2_2 (fun w14 K14 => Q 116 #[c11_8] w14 K14 X) (fun v12_14 φ14 =>
 T2_2 [v12_14] φ14)) (fun Φ2_2 =>
 ∀ (h15 : Nat → Value) (w16 : World), R2 w2 w16 → ((((((((True ∧ ψ3 w16) ∧ ψ4 w16) ∧ ψ5 w16) ∧ ψ6 w16) ∧ ψ7 w16) ∧ ψ8 w16) ∧ ψ9 w16) ∧ ψ10 w16) ∧ (((True ∧ Φ2_0 [(h15 5), (h15 6)] w16) ∧ Φ2_1 [(h15 9)] w16) ∧ Φ2_2 [(h15 12)] w16) →
 D (Instr.buildSlice 161 4 #[(0, (h15 6)), (1, (h15 9)), (2, (h15 12)), (3, c14_10)]) w16 (fun t17 w17 =>
 Q 114 #[t17] w17 (fun t18 w18 =>
 R (.returned t18) w18) X) X))))))))))))) X)
theorem sh_edition_ints_ok (v0 : Value) (h : sh_edition_ints v0 R w) : Calls Tryz.prog 78 #[v0] w R :=
  calls_of_vc (c := Tryz.f78.body.getD .skip) (args := [v0]) [(1, 12, false, 403179048)] [] follows_mixed Tryz.func78 rfl (of_decide_eq_true (by kernel_rfl)) (by kernel_rfl) (Eq.mp (by kernel_rfl) h)
def sh_landfallref29_digest (v0 : Value) (R : Ending → World → Prop) (w : World) : Prop := 
 letI X := Pan R
 letI D := DoV Tryz.prog
(D (Instr.box 26 v0) w (fun t1 w1 =>
 D (Instr.loadAt 26 t1) w1 (fun t2 w2 =>
 CallF Tryz.prog 28 #[t2] w2 (fun t3 w3 =>
 D (Instr.extract t3 0) w3 (fun t4 w4 =>
 D (Instr.extract t3 1) w4 (fun _ w5 =>
 R (.returned t4) w5) X) X) X) X) X)
theorem sh_landfallref29_digest_ok (v0 : Value) (h : sh_landfallref29_digest v0 R w) : Calls Tryz.prog 80 #[v0] w R :=
  calls_of_vc (c := Tryz.f80.body.getD .skip) (args := [v0]) [] [] follows_mixed Tryz.func80 rfl (of_decide_eq_true (by kernel_rfl)) (by kernel_rfl) (Eq.mp (by kernel_rfl) h)
def sh_landfallref29_Ints (v0 : Value) (R : Ending → World → Prop) (w : World) : Prop := 
 letI X := Pan R
 letI D := DoV Tryz.prog
 letI B := CallB Tryz.prog
 letI I := Value.int IntKind.i64
 letI T := Operand.tmp
 letI C := Operand.const
 letI L := Instr.loadAt
 letI F := Instr.fieldAt
(D (Instr.box 55 v0) w (fun t1 w1 =>
 D (F 55 t1 0) w1 (fun t2 w2 =>
 D (L 3 t2) w2 (fun t3 w3 =>
 D (F 55 t1 1) w3 (fun t4 w4 =>
 D (L 48 t4) w4 (fun t5 w5 =>
 D (binS BinOp.shr 48 (T 8) (C (Value.int IntKind.u64 32)) t5 (Value.int IntKind.u64 32)) w5 (fun t6 w6 =>
 D (convert 48 3 t6) w6 (fun t7 w7 =>
 D (F 55 t1 1) w7 (fun t8 w8 =>
 D (L 48 t8) w8 (fun t9 w9 =>
 D (binS BinOp.and 48 (T 12) (C (Value.int IntKind.u64 4294967295)) t9 (Value.int IntKind.u64 4294967295)) w9 (fun t10 w10 =>
 D (convert 48 3 t10) w10 (fun t11 w11 =>
 D (F 55 t1 2) w11 (fun t12 w12 =>
 D (L 48 t12) w12 (fun t13 w13 =>
 D (binS BinOp.shr 48 (T 16) (C (Value.int IntKind.u64 32)) t13 (Value.int IntKind.u64 32)) w13 (fun t14 w14 =>
 D (convert 48 3 t14) w14 (fun t15 w15 =>
 D (F 55 t1 2) w15 (fun t16 w16 =>
 D (L 48 t16) w16 (fun t17 w17 =>
 D (binS BinOp.and 48 (T 20) (C (Value.int IntKind.u64 4294967295)) t17 (Value.int IntKind.u64 4294967295)) w17 (fun t18 w18 =>
 D (convert 48 3 t18) w18 (fun t19 w19 =>
 D (Instr.buildSlice 36 5 #[(0, t3), (1, t7), (2, t11), (3, t15), (4, t19)]) w19 (fun t20 w20 =>
 LoopE [3, 4] [t20, (I 0)] w20 (fun h21 w21 K21 =>
 D (F 55 t1 3) w21 (fun t22 w22 =>
 D (L 36 t22) w22 (fun t23 w23 =>
 B Builtin.len #[36] 3 #[false] #[t23] w23 (fun t24 w24 =>
 D (binS BinOp.lss 3 (T 24) (T 27) (h21 4) t24) w24 (fun t25 w25 =>
 Br t25
(D (F 55 t1 3) w25 (fun t26 w26 =>
 D (L 36 t26) w26 (fun t27 w27 =>
 D (Instr.indexAt 36 t27 (h21 4)) w27 (fun t28 w28 =>
 D (L 3 t28) w28 (fun t29 w29 =>
 D (Instr.buildSlice 36 1 #[(0, t29)]) w29 (fun t30 w30 =>
 B Builtin.append #[36, 36] 36 #[false, false] #[(h21 3), t30] w30 (fun t31 w31 =>
 D (binS BinOp.add 3 (T 29) (C (I 1)) (h21 4) (I 1)) w31 (fun t32 w32 =>
 K21 [t31, t32] w32) X) X) X) X) X) X) X)
(R (.returned (h21 3)) w25)) X) X) X) X)) X) X) X) X) X) X) X) X) X) X) X) X) X) X) X) X) X) X) X) X)
theorem sh_landfallref29_Ints_ok (v0 : Value) (h : sh_landfallref29_Ints v0 R w) : Calls Tryz.prog 82 #[v0] w R :=
  calls_of_vc (c := Tryz.f82.body.getD .skip) (args := [v0]) [] [3, 4] follows_mixed Tryz.func82 rfl (of_decide_eq_true (by kernel_rfl)) (by kernel_rfl) (Eq.mp (by kernel_rfl) h)
def sh_edition_first (v0 : Value) (R : Ending → World → Prop) (w : World) : Prop := 
 letI X := Pan R
 letI D := DoV Tryz.prog
 letI I := Value.int IntKind.i64
 letI T := Operand.tmp
 letI L := Instr.loadAt
(CallB Tryz.prog Builtin.len #[147] 3 #[false] #[v0] w (fun t1 w1 =>
 LoopE [7] [(I 0)] w1 (fun h2 w2 K2 =>
 D (binS BinOp.lss 3 (T 7) (T 6) (h2 7) t1) w2 (fun t3 w3 =>
 Br t3
(D (Instr.indexAt 147 v0 (h2 7)) w3 (fun t4 w4 =>
 D (L 121 t4) w4 (fun t5 w5 =>
 D (Instr.alloc 121 true (.tuple #[])) w5 (fun t6 w6 =>
 DoU Tryz.prog (Instr.storeAt 121 t6 t5) w6 (fun _ w7 =>
 D (Instr.fieldAt 121 t6 1) w7 (fun t8 w8 =>
 D (L 29 t8) w8 (fun t9 w9 =>
 CallV Tryz.prog t9 #[] w9 (fun t10 w10 =>
 D (Op.unary UnOp.not t10) w10 (fun t11 w11 =>
 Br t11
(D (Instr.fieldAt 121 t6 0) w11 (fun t12 w12 =>
 D (L 31 t12) w12 (fun t13 w13 =>
 R (.returned t13) w13) X) X)
(D (binS BinOp.add 3 (T 7) (Operand.const (I 1)) (h2 7) (I 1)) w11 (fun t14 w14 =>
 K2 [t14] w14) X)) X) X) X) X) X) X) X) X)
(R (.returned (I 0)) w3)) X)) X)
theorem sh_edition_first_ok (v0 : Value) (h : sh_edition_first v0 R w) : Calls Tryz.prog 83 #[v0] w R :=
  calls_of_vc (c := Tryz.f83.body.getD .skip) (args := [v0]) [] [7] follows_mixed Tryz.func83 rfl (of_decide_eq_true (by kernel_rfl)) (by kernel_rfl) (Eq.mp (by kernel_rfl) h)
def sh_edition_Apply_1 (v0 v1 : Value) (R : Ending → World → Prop) (w : World) : Prop := 
 letI X := Pan R
 letI Q := CallF Tryz.prog
(DoV Tryz.prog (Instr.loadAt 26 v0) w (fun t1 w1 =>
 Q 15 #[t1] w1 (fun t2 w2 =>
 Gd t2 true (DoV Tryz.prog (Instr.loadAt 3 v1) w2 (fun t3 w3 =>
 Q 85 #[t3] w3 (fun t4 w4 =>
 R (.returned t4) w4) X) X)
(R (.returned (Value.bool false)) w2)) X) X)
theorem sh_edition_Apply_1_ok (v0 v1 : Value) (h : sh_edition_Apply_1 v0 v1 R w) : Calls Tryz.prog 84 #[v0, v1] w R :=
  calls_of_vc (c := Tryz.f84.body.getD .skip) (args := [v0, v1]) [] [] follows_mixed Tryz.func84 rfl (of_decide_eq_true (by kernel_rfl)) (by kernel_rfl) (Eq.mp (by kernel_rfl) h)
def sh_edition_Apply_2 (v0 v1 : Value) (R : Ending → World → Prop) (w : World) : Prop := 
 letI X := Pan R
 letI D := DoV Tryz.prog
 letI I := Value.int IntKind.i64
 letI T := Operand.tmp
 letI L := Instr.loadAt
 letI F := Instr.fieldAt
(D (F 55 v0 0) w (fun t1 w1 =>
 D (L 3 t1) w1 (fun t2 w2 =>
 D (F 26 v1 0) w2 (fun t3 w3 =>
 D (L 3 t3) w3 (fun t4 w4 =>
 D (binS BinOp.add 3 (T 6) (Operand.const (I 1)) t4 (I 1)) w4 (fun t5 w5 =>
 D (binS BinOp.eql 3 (T 4) (T 7) t2 t5) w5 (fun t6 w6 =>
 Gd t6 true (D (F 55 v0 0) w6 (fun t7 w7 =>
 D (L 3 t7) w7 (fun t8 w8 =>
 D (binS BinOp.leq 3 (T 11) (Operand.const (I 1000000)) t8 (I 1000000)) w8 (fun t9 w9 =>
 R (.returned t9) w9) X) X) X)
(R (.returned (Value.bool false)) w6)) X) X) X) X) X) X)
theorem sh_edition_Apply_2_ok (v0 v1 : Value) (h : sh_edition_Apply_2 v0 v1 R w) : Calls Tryz.prog 86 #[v0, v1] w R :=
  calls_of_vc (c := Tryz.f86.body.getD .skip) (args := [v0, v1]) [] [] follows_mixed Tryz.func86 rfl (of_decide_eq_true (by kernel_rfl)) (by kernel_rfl) (Eq.mp (by kernel_rfl) h)
def sh_edition_Apply_3 (v0 v1 : Value) (R : Ending → World → Prop) (w : World) : Prop := 
 letI X := Pan R
 letI D := DoV Tryz.prog
(DrawE w (fun Rs1 Rb1 w1 =>
 DetOp Rb1 Rs1 w1 (fun w2 K2 => D (Instr.fieldAt 55 v0 1) w2 K2 X) (fun c3_2 ψ2 =>
 DetOp Rb1 Rs1 w1 (fun w3 K3 => D (Instr.loadAt 48 c3_2) w3 K3 X) (fun c4_3 ψ3 =>
 DetOp Rb1 Rs1 w1 (fun w4 K4 => D (Instr.loadAt 26 v1) w4 K4 X) (fun c5_4 ψ4 =>
 DetOp Rs1 Rb1 w1 (fun w5 K5 => CallF Tryz.prog 75 #[c5_4] w5 K5 X) (fun c6_5 ψ5 =>
 ∀ w6, Rb1 w1 w6 → ((((True ∧ ψ2 w6) ∧ ψ3 w6) ∧ ψ4 w6) ∧ ψ5 w6) →
 D (binS BinOp.eql 48 (Operand.tmp 4) (Operand.tmp 6) c4_3 c6_5) w6 (fun t7 w7 =>
 R (.returned t7) w7) X))))))
theorem sh_edition_Apply_3_ok (v0 v1 : Value) (h : sh_edition_Apply_3 v0 v1 R w) : Calls Tryz.prog 87 #[v0, v1] w R :=
  calls_of_vc (c := Tryz.f87.body.getD .skip) (args := [v0, v1]) [(1, 4, false, 4)] [] follows_mixed Tryz.func87 rfl (of_decide_eq_true (by kernel_rfl)) (by kernel_rfl) (Eq.mp (by kernel_rfl) h)
def sh_edition_Apply_4 (v0 v1 : Value) (R : Ending → World → Prop) (w : World) : Prop := 
 letI X := Pan R
 letI D := DoV Tryz.prog
(D (Instr.loadAt 26 v0) w (fun t1 w1 =>
 D (Instr.fieldAt 55 v1 3) w1 (fun t2 w2 =>
 D (Instr.loadAt 36 t2) w2 (fun t3 w3 =>
 CallF Tryz.prog 73 #[t1, t3] w3 (fun t4 w4 =>
 R (.returned t4) w4) X) X) X) X)
theorem sh_edition_Apply_4_ok (v0 v1 : Value) (h : sh_edition_Apply_4 v0 v1 R w) : Calls Tryz.prog 88 #[v0, v1] w R :=
  calls_of_vc (c := Tryz.f88.body.getD .skip) (args := [v0, v1]) [] [] follows_mixed Tryz.func88 rfl (of_decide_eq_true (by kernel_rfl)) (by kernel_rfl) (Eq.mp (by kernel_rfl) h)
def sh_edition_Apply_5 (v0 v1 v2 : Value) (R : Ending → World → Prop) (w : World) : Prop := 
 letI X := Pan R
 letI D := DoV Tryz.prog
 letI Q := CallF Tryz.prog
 letI L := Instr.loadAt
(D (L 26 v0) w (fun t1 w1 =>
 D (Instr.fieldAt 55 v1 3) w1 (fun t2 w2 =>
 D (L 36 t2) w2 (fun t3 w3 =>
 Q 74 #[t1, t3] w3 (fun t4 w4 =>
 DoU Tryz.prog (Instr.storeAt 26 v2 t4) w4 (fun _ w5 =>
 DrawE w5 (fun Rs6 Rb6 w6 =>
 DetOp Rb6 Rs6 w6 (fun w7 K7 => D (Instr.fieldAt 55 v1 2) w7 K7 X) (fun c8_7 ψ7 =>
 DetOp Rb6 Rs6 w6 (fun w8 K8 => D (L 48 c8_7) w8 K8 X) (fun c9_8 ψ8 =>
 DetOp Rb6 Rs6 w6 (fun w9 K9 => D (L 26 v2) w9 K9 X) (fun c10_9 ψ9 =>
 DetOp Rs6 Rb6 w6 (fun w10 K10 => Q 75 #[c10_9] w10 K10 X) (fun c11_10 ψ10 =>
 ∀ w11, Rb6 w6 w11 → ((((True ∧ ψ7 w11) ∧ ψ8 w11) ∧ ψ9 w11) ∧ ψ10 w11) →
 D (binS BinOp.eql 48 (Operand.tmp 9) (Operand.tmp 11) c9_8 c11_10) w11 (fun t12 w12 =>
 R (.returned t12) w12) X)))))) X) X) X) X) X)
theorem sh_edition_Apply_5_ok (v0 v1 v2 : Value) (h : sh_edition_Apply_5 v0 v1 v2 R w) : Calls Tryz.prog 89 #[v0, v1, v2] w R :=
  calls_of_vc (c := Tryz.f89.body.getD .skip) (args := [v0, v1, v2]) [(2, 4, false, 4)] [] follows_mixed Tryz.func89 rfl (of_decide_eq_true (by kernel_rfl)) (by kernel_rfl) (Eq.mp (by kernel_rfl) h)
def sh_edition_Apply_6 (v0 v1 : Value) (R : Ending → World → Prop) (w : World) : Prop := 
 letI X := Pan R
 letI D := DoV Tryz.prog
 letI Q := CallF Tryz.prog
 letI I := Value.int IntKind.i64
 letI L := Instr.loadAt
(DrawR w (fun R1 S1 w1 =>
 DetOp R1 (Both R1 S1) w1 (fun w2 K2 => D (L 3 v0) w2 K2 X) (fun c6_2 ψ2 =>
 DetOp R1 (Both R1 S1) w1 (fun w3 K3 => D (Instr.fieldAt 55 v1 4) w3 K3 X) (fun c7_3 ψ3 =>
 DetOp R1 (Both R1 S1) w1 (fun w4 K4 => D (L 53 c7_3) w4 K4 X) (fun c8_4 ψ4 =>
 DetOp R1 (Both R1 S1) w1 (fun w5 K5 => D (L 55 v1) w5 K5 X) (fun c9_5 ψ5 =>
 ThrE R1 S1 0 w1 (fun Θ1_0 T1_0 =>
 NdC R1 S1 0 w1 Θ1_0 (fun w6 K6 => Q 78 #[c9_5] w6 K6 X) (fun v10_6 φ6 =>
 NdC R1 S1 0 w1 φ6 (fun w7 K7 => Q 91 #[c6_2, c8_4, v10_6] w7 K7 X) (fun v11_7 φ7 =>
 NdC R1 S1 0 w1 φ7 (fun w8 K8 => K8 v11_7 w8) (fun v5_8 φ8 =>
 NdC R1 S1 0 w1 φ8 (fun w9 K9 => D (Instr.extract v5_8 0) w9 K9 X) (fun v12_9 φ9 =>
 NdC R1 S1 0 w1 φ9 (fun w10 K10 => D (Instr.extract v5_8 1) w10 K10 X) (fun v13_10 φ10 =>
 NdC R1 S1 0 w1 φ10 (fun w11 K11 => K11 v12_9 w11) (fun v3_11 φ11 =>
 T1_0 [v10_6, v11_7, v5_8, v12_9, v13_10, v3_11] φ11))))))) (fun Φ1_0 =>
 ∀ (h12 : Nat → Value) (w13 : World), R1 w1 w13 → ((((True ∧ ψ2 w13) ∧ ψ3 w13) ∧ ψ4 w13) ∧ ψ5 w13) ∧ (True ∧ Φ1_0 [(h12 10), (h12 11), (h12 5), (h12 12), (h12 13), (h12 3)] w13) →
 D (binS BinOp.eql 31 (Operand.tmp 14) (Operand.const (I 0)) (h12 13) (I 0)) w13 (fun t14 w14 =>
 Gd t14 true (R (.returned (h12 3)) w14)
(R (.returned (Value.bool false)) w14)) X)))))))
theorem sh_edition_Apply_6_ok (v0 v1 : Value) (h : sh_edition_Apply_6 v0 v1 R w) : Calls Tryz.prog 90 #[v0, v1] w R :=
  calls_of_vc (c := Tryz.f90.body.getD .skip) (args := [v0, v1]) [(1, 10, false, 153392104)] [] follows_mixed Tryz.func90 rfl (of_decide_eq_true (by kernel_rfl)) (by kernel_rfl) (Eq.mp (by kernel_rfl) h)
def sh_edition_voids_1 (v0 v1 v2 : Value) (R : Ending → World → Prop) (w : World) : Prop := 
 letI X := Pan R
 letI D := DoV Tryz.prog
 letI T := Operand.tmp
 letI L := Instr.loadAt
 letI F := Instr.fieldAt
(JoinE [5] (fun K1 =>
 D (L 3 v1) w (fun t2 w2 =>
 D (binS BinOp.leq 3 (T 6) (T 7) v0 t2) w2 (fun t3 w3 =>
 Gd t3 false (D (F 26 v2 6) w3 (fun t4 w4 =>
 D (L 22 t4) w4 (fun t5 w5 =>
 CallB Tryz.prog Builtin.len #[22] 3 #[false] #[t5] w5 (fun t6 w6 =>
 D (binS BinOp.geq 3 (T 10) (T 13) v0 t6) w6 (fun t7 w7 =>
 Gd t7 false (D (F 26 v2 6) w7 (fun t8 w8 =>
 D (L 22 t8) w8 (fun t9 w9 =>
 D (Instr.indexAt 22 t9 v0) w9 (fun t10 w10 =>
 D (F 78 t10 2) w10 (fun t11 w11 =>
 D (L 4 t11) w11 (fun t12 w12 =>
 K1 [t12] w12) X) X) X) X) X)
(K1 [(Value.bool true)] w7)) X) X) X) X)
(K1 [(Value.bool true)] w3)) X) X)
(fun h13 w13 =>
 DoU Tryz.prog (Instr.storeAt 3 v1 v0) w13 (fun _ w14 =>
 R (.returned (h13 5)) w14) X))
theorem sh_edition_voids_1_ok (v0 v1 v2 : Value) (h : sh_edition_voids_1 v0 v1 v2 R w) : Calls Tryz.prog 108 #[v0, v1, v2] w R :=
  calls_of_vc (c := Tryz.f108.body.getD .skip) (args := [v0, v1, v2]) [] [5] follows_mixed Tryz.func108 rfl (of_decide_eq_true (by kernel_rfl)) (by kernel_rfl) (Eq.mp (by kernel_rfl) h)
def sh_slices_ContainsFunc___int_int_ (v0 v1 : Value) (R : Ending → World → Prop) (w : World) : Prop := 
 letI I := Value.int IntKind.i64
(CallF Tryz.prog 131 #[v0, v1] w (fun t1 w1 =>
 DoV Tryz.prog (binS BinOp.geq 3 (Operand.tmp 7) (Operand.const (I 0)) t1 (I 0)) w1 (fun t2 w2 =>
 R (.returned t2) w2) (Pan R)) (Pan R))
theorem sh_slices_ContainsFunc___int_int__ok (v0 v1 : Value) (h : sh_slices_ContainsFunc___int_int_ v0 v1 R w) : Calls Tryz.prog 109 #[v0, v1] w R :=
  calls_of_vc (c := Tryz.f109.body.getD .skip) (args := [v0, v1]) [] [] follows_mixed Tryz.func109 rfl (of_decide_eq_true (by kernel_rfl)) (by kernel_rfl) (Eq.mp (by kernel_rfl) h)
def sh_slices_Clone___api_Cell_api_Cell_ (v0 : Value) (R : Ending → World → Prop) (w : World) : Prop := 
 letI X := Pan R
(DoV Tryz.prog (binS BinOp.eql 22 (Operand.tmp 3) (Operand.const (Value.slice none 0 0)) v0 (Value.slice none 0 0)) w (fun t1 w1 =>
 Br t1
(R (.returned (Value.slice none 0 0)) w1)
(DoV Tryz.prog (Instr.buildSlice 22 0 #[]) w1 (fun t2 w2 =>
 CallB Tryz.prog Builtin.append #[22, 22] 22 #[false, false] #[t2, v0] w2 (fun t3 w3 =>
 R (.returned t3) w3) X) X)) X)
theorem sh_slices_Clone___api_Cell_api_Cell__ok (v0 : Value) (h : sh_slices_Clone___api_Cell_api_Cell_ v0 R w) : Calls Tryz.prog 110 #[v0] w R :=
  calls_of_vc (c := Tryz.f110.body.getD .skip) (args := [v0]) [] [] follows_mixed Tryz.func110 rfl (of_decide_eq_true (by kernel_rfl)) (by kernel_rfl) (Eq.mp (by kernel_rfl) h)
def sh_slices_Clone___api_Beacon_api_Beacon_ (v0 : Value) (R : Ending → World → Prop) (w : World) : Prop := 
 letI X := Pan R
(DoV Tryz.prog (binS BinOp.eql 23 (Operand.tmp 3) (Operand.const (Value.slice none 0 0)) v0 (Value.slice none 0 0)) w (fun t1 w1 =>
 Br t1
(R (.returned (Value.slice none 0 0)) w1)
(DoV Tryz.prog (Instr.buildSlice 23 0 #[]) w1 (fun t2 w2 =>
 CallB Tryz.prog Builtin.append #[23, 23] 23 #[false, false] #[t2, v0] w2 (fun t3 w3 =>
 R (.returned t3) w3) X) X)) X)
theorem sh_slices_Clone___api_Beacon_api_Beacon__ok (v0 : Value) (h : sh_slices_Clone___api_Beacon_api_Beacon_ v0 R w) : Calls Tryz.prog 111 #[v0] w R :=
  calls_of_vc (c := Tryz.f111.body.getD .skip) (args := [v0]) [] [] follows_mixed Tryz.func111 rfl (of_decide_eq_true (by kernel_rfl)) (by kernel_rfl) (Eq.mp (by kernel_rfl) h)
def sh_slices_Clone___api_Line_api_Line_ (v0 : Value) (R : Ending → World → Prop) (w : World) : Prop := 
 letI X := Pan R
(DoV Tryz.prog (binS BinOp.eql 24 (Operand.tmp 3) (Operand.const (Value.slice none 0 0)) v0 (Value.slice none 0 0)) w (fun t1 w1 =>
 Br t1
(R (.returned (Value.slice none 0 0)) w1)
(DoV Tryz.prog (Instr.buildSlice 24 0 #[]) w1 (fun t2 w2 =>
 CallB Tryz.prog Builtin.append #[24, 24] 24 #[false, false] #[t2, v0] w2 (fun t3 w3 =>
 R (.returned t3) w3) X) X)) X)
theorem sh_slices_Clone___api_Line_api_Line__ok (v0 : Value) (h : sh_slices_Clone___api_Line_api_Line_ v0 R w) : Calls Tryz.prog 112 #[v0] w R :=
  calls_of_vc (c := Tryz.f112.body.getD .skip) (args := [v0]) [] [] follows_mixed Tryz.func112 rfl (of_decide_eq_true (by kernel_rfl)) (by kernel_rfl) (Eq.mp (by kernel_rfl) h)
def sh_slices_Concat___int_int_ (v0 : Value) (R : Ending → World → Prop) (w : World) : Prop := 
 letI X := Pan R
 letI D := DoV Tryz.prog
 letI B := CallB Tryz.prog
 letI I := Value.int IntKind.i64
 letI T := Operand.tmp
 letI C := Operand.const
 letI M := BinOp.lss
 letI O := BinOp.add
(B Builtin.len #[161] 3 #[false] #[v0] w (fun t1 w1 =>
 LoopE [3, 11] [(I 0), (I 0)] w1 (fun h2 w2 K2 =>
 D (binS M 3 (T 11) (T 10) (h2 11) t1) w2 (fun t3 w3 =>
 Br t3
(JoinE [3] (fun K4 =>
 D (Instr.indexAt 161 v0 (h2 11)) w3 (fun t5 w5 =>
 D (Instr.loadAt 36 t5) w5 (fun t6 w6 =>
 B Builtin.len #[36] 3 #[false] #[t6] w6 (fun t7 w7 =>
 D (binS O 3 (T 15) (T 17) (h2 3) t7) w7 (fun t8 w8 =>
 D (binS M 3 (T 19) (C (I 0)) t8 (I 0)) w8 (fun t9 w9 =>
 Br t9
(D (Instr.makeInterface 9 (Value.string { data := #[108, 101, 110, 32, 111, 117, 116, 32, 111, 102, 32, 114, 97, 110, 103, 101] })) w9 (fun t10 w10 =>
 D (Instr.panic t10) w10 (fun _ w11 =>
 K4 [t8] w11) X) X)
(K4 [t8] w9)) X) X) X) X) X)
(fun h12 w12 =>
 D (binS O 3 (T 11) (C (I 1)) (h2 11) (I 1)) w12 (fun t13 w13 =>
 K2 [(h12 3), t13] w13) X))
(CallF Tryz.prog 132 #[(Value.slice none 0 0), (h2 3)] w3 (fun t14 w14 =>
 B Builtin.len #[161] 3 #[false] #[v0] w14 (fun t15 w15 =>
 LoopE [6, 27] [t14, (I 0)] w15 (fun h16 w16 K16 =>
 D (binS M 3 (T 27) (T 26) (h16 27) t15) w16 (fun t17 w17 =>
 Br t17
(D (Instr.indexAt 161 v0 (h16 27)) w17 (fun t18 w18 =>
 D (Instr.loadAt 36 t18) w18 (fun t19 w19 =>
 B Builtin.append #[36, 36] 36 #[false, false] #[(h16 6), t19] w19 (fun t20 w20 =>
 D (binS O 3 (T 27) (C (I 1)) (h16 27) (I 1)) w20 (fun t21 w21 =>
 K16 [t20, t21] w21) X) X) X) X)
(R (.returned (h16 6)) w17)) X)) X) X)) X)) X)
theorem sh_slices_Concat___int_int__ok (v0 : Value) (h : sh_slices_Concat___int_int_ v0 R w) : Calls Tryz.prog 114 #[v0] w R :=
  calls_of_vc (c := Tryz.f114.body.getD .skip) (args := [v0]) [] [3, 6, 11, 27] follows_mixed Tryz.func114 rfl (of_decide_eq_true (by kernel_rfl)) (by kernel_rfl) (Eq.mp (by kernel_rfl) h)
def sh_edition_list (v0 : Value) (R : Ending → World → Prop) (w : World) : Prop := 
(R (.returned v0) w)
theorem sh_edition_list_ok (v0 : Value) (h : sh_edition_list v0 R w) : Calls Tryz.prog 115 #[v0] w R :=
  calls_of_vc (c := Tryz.f115.body.getD .skip) (args := [v0]) [] [] follows_mixed Tryz.func115 rfl (of_decide_eq_true (by kernel_rfl)) (by kernel_rfl) (Eq.mp (by kernel_rfl) h)
def sh_edition_halves (v0 : Value) (R : Ending → World → Prop) (w : World) : Prop := 
 letI X := Pan R
 letI D := DoV Tryz.prog
(D (binS BinOp.shr 48 (Operand.tmp 3) (Operand.const (Value.int IntKind.u64 32)) v0 (Value.int IntKind.u64 32)) w (fun t1 w1 =>
 D (convert 48 3 t1) w1 (fun t2 w2 =>
 D (convert 48 163 v0) w2 (fun t3 w3 =>
 D (convert 163 3 t3) w3 (fun t4 w4 =>
 D (Instr.buildSlice 36 2 #[(0, t2), (1, t4)]) w4 (fun t5 w5 =>
 CallF Tryz.prog 115 #[t5] w5 (fun t6 w6 =>
 R (.returned t6) w6) X) X) X) X) X) X)
theorem sh_edition_halves_ok (v0 : Value) (h : sh_edition_halves v0 R w) : Calls Tryz.prog 116 #[v0] w R :=
  calls_of_vc (c := Tryz.f116.body.getD .skip) (args := [v0]) [] [] follows_mixed Tryz.func116 rfl (of_decide_eq_true (by kernel_rfl)) (by kernel_rfl) (Eq.mp (by kernel_rfl) h)
def sh_slices_IndexFunc___int_int_ (v0 v1 : Value) (R : Ending → World → Prop) (w : World) : Prop := 
 letI X := Pan R
 letI D := DoV Tryz.prog
 letI I := Value.int IntKind.i64
 letI T := Operand.tmp
(CallB Tryz.prog Builtin.len #[36] 3 #[false] #[v0] w (fun t1 w1 =>
 LoopE [8] [(I 0)] w1 (fun h2 w2 K2 =>
 D (binS BinOp.lss 3 (T 8) (T 7) (h2 8) t1) w2 (fun t3 w3 =>
 Br t3
(D (Instr.indexAt 36 v0 (h2 8)) w3 (fun t4 w4 =>
 D (Instr.loadAt 3 t4) w4 (fun t5 w5 =>
 CallV Tryz.prog v1 #[t5] w5 (fun t6 w6 =>
 Br t6
(R (.returned (h2 8)) w6)
(D (binS BinOp.add 3 (T 8) (Operand.const (I 1)) (h2 8) (I 1)) w6 (fun t7 w7 =>
 K2 [t7] w7) X)) X) X) X)
(R (.returned (I (-1))) w3)) X)) X)
theorem sh_slices_IndexFunc___int_int__ok (v0 v1 : Value) (h : sh_slices_IndexFunc___int_int_ v0 v1 R w) : Calls Tryz.prog 131 #[v0, v1] w R :=
  calls_of_vc (c := Tryz.f131.body.getD .skip) (args := [v0, v1]) [] [8] follows_mixed Tryz.func131 rfl (of_decide_eq_true (by kernel_rfl)) (by kernel_rfl) (Eq.mp (by kernel_rfl) h)
def sh_slices_Grow___int_int_ (v0 v1 : Value) (R : Ending → World → Prop) (w : World) : Prop := 
 letI X := Pan R
 letI D := DoV Tryz.prog
 letI B := CallB Tryz.prog
 letI I := Value.int IntKind.i64
 letI T := Operand.tmp
(JoinE [] (fun K1 =>
 D (binS BinOp.lss 3 (T 5) (Operand.const (I 0)) v1 (I 0)) w (fun t2 w2 =>
 Br t2
(D (Instr.makeInterface 9 (Value.string { data := #[99, 97, 110, 110, 111, 116, 32, 98, 101, 32, 110, 101, 103, 97, 116, 105, 118, 101] })) w2 (fun t3 w3 =>
 D (Instr.panic t3) w3 (fun _ w4 =>
 K1 [] w4) X) X)
(K1 [] w2)) X)
(fun _ w5 =>
 JoinE [0] (fun K6 =>
 B Builtin.cap #[36] 3 #[false] #[v0] w5 (fun t7 w7 =>
 B Builtin.len #[36] 3 #[false] #[v0] w7 (fun t8 w8 =>
 D (binS BinOp.sub 3 (T 10) (T 12) t7 t8) w8 (fun t9 w9 =>
 D (binS BinOp.sub 3 (T 8) (T 13) v1 t9) w9 (fun t10 w10 =>
 D (binS BinOp.gtr 3 (T 15) (Operand.const (I 0)) t10 (I 0)) w10 (fun t11 w11 =>
 Br t11
(B Builtin.cap #[36] 3 #[false] #[v0] w11 (fun t12 w12 =>
 D (Instr.sliceAt 36 v0 none (some t12) none) w12 (fun t13 w13 =>
 B Builtin.append #[36, 3] 36 #[false, false] #[t13, t10] w13 (fun t14 w14 =>
 B Builtin.len #[36] 3 #[false] #[v0] w14 (fun t15 w15 =>
 D (Instr.sliceAt 36 t14 none (some t15) none) w15 (fun t16 w16 =>
 K6 [t16] w16) X) X) X) X) X)
(K6 [v0] w11)) X) X) X) X) X)
(fun h17 w17 =>
 R (.returned (h17 0)) w17)))
theorem sh_slices_Grow___int_int__ok (v0 v1 : Value) (h : sh_slices_Grow___int_int_ v0 v1 R w) : Calls Tryz.prog 132 #[v0, v1] w R :=
  calls_of_vc (c := Tryz.f132.body.getD .skip) (args := [v0, v1]) [] [0] follows_mixed Tryz.func132 rfl (of_decide_eq_true (by kernel_rfl)) (by kernel_rfl) (Eq.mp (by kernel_rfl) h)
end Go.Proofs.YtnbcdaonkdffkaaGreatDoor
