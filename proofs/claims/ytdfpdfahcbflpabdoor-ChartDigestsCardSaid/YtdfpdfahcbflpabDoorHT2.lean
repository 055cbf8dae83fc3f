/- The chains of operations of some functions of the program. -/
import Derived.Test.YtdfpdfahcbflpabDoorHT1
import Derived.Test.YtdfpdfahcbflpabDoorHBaseA
import Derived.Test.YtdfpdfahcbflpabDoorProg
import Derived.KernelRfl
set_option linter.unusedVariables false
set_option linter.unusedSimpArgs false
namespace Go.Proofs.YtdfpdfahcbflpabDoor
open Sh
variable {R : Ending → World → Prop} {w : World}
set_option maxRecDepth 100000
def sh_landfalllaw15_ChartDigests (v0 v1 v2 v3 : Value) (R : Ending → World → Prop) (w : World) : Prop := 
 letI X := Pan R
 letI D := DoV Tryd.prog
 letI Q := CallF Tryd.prog
 letI I := Value.int IntKind.i64
 letI T := Operand.tmp
 letI C := Operand.const
 letI L := Instr.loadAt
 letI E := Instr.extract
 letI V := Value.bool
 letI J := BinOp.eql
(D (Instr.box 26 v0) w (fun t1 w1 =>
 Q 6 #[] w1 (fun t2 w2 =>
 D (L 26 t1) w2 (fun t3 w3 =>
 Q 7 #[t3] w3 (fun t4 w4 =>
 D (Op.unary UnOp.not t4) w4 (fun t5 w5 =>
 Br t5
(R (.returned t2) w5)
(D (L 26 t1) w5 (fun t6 w6 =>
 Q 11 #[t6, v1, v2, v3] w6 (fun t7 w7 =>
 D (Instr.alloc 26 true (.tuple #[])) w7 (fun t8 w8 =>
 DoU Tryd.prog (Instr.storeAt 26 t8 t7) w8 (fun _ w9 =>
 JointE w9 (fun J10 =>
 JOp J10 0 [] (fun pv10 w11 K11 => D (L 26 t1) w11 K11 X) ∧
 JOp J10 1 [0] (fun pv10 w12 K12 => Q 12 #[(vl pv10 0)] w12 K12 X) ∧
 JOp J10 2 [] (fun pv10 w13 K13 => D (L 26 t8) w13 K13 X) ∧
 JEnd J10 3 (fun pv10 w14 =>
 Q 12 #[(vl pv10 2)] w14 (fun t15 w15 =>
 CallB Tryd.prog Builtin.len #[45] 3 #[false] #[(vl pv10 1)] w15 (fun t16 w16 =>
 LoopE [34] [(I 0)] w16 (fun h17 w17 K17 =>
 D (binS BinOp.lss 3 (T 34) (T 33) (h17 34) t16) w17 (fun t18 w18 =>
 Br t18
(JoinE [] (fun K19 =>
 JoinE [48] (fun K20 =>
 D (Instr.indexAt 45 (vl pv10 1) (h17 34)) w18 (fun t21 w21 =>
 D (L 3 t21) w21 (fun t22 w22 =>
 D (binS BinOp.lss 3 (T 40) (C (I 0)) t22 (I 0)) w22 (fun t23 w23 =>
 Gd t23 true (D (Instr.indexAt 45 t15 (h17 34)) w23 (fun t24 w24 =>
 D (L 3 t24) w24 (fun t25 w25 =>
 D (binS J 3 (T 46) (C (I 0)) t25 (I 0)) w25 (fun t26 w26 =>
 K20 [t26] w26) X) X) X)
(K20 [(V false)] w23)) X) X) X)
(fun h27 w27 =>
 Br (h27 48)
(R (.returned t2) w27)
(K19 [] w27)))
(fun _ w28 =>
 D (binS BinOp.add 3 (T 34) (C (I 1)) (h17 34) (I 1)) w28 (fun t29 w29 =>
 K17 [t29] w29) X))
(D (L 26 t1) w18 (fun t30 w30 =>
 Q 13 #[t30] w30 (fun t31 w31 =>
 D (E t31 0) w31 (fun t32 w32 =>
 D (E t31 1) w32 (fun t33 w33 =>
 D (L 26 t8) w33 (fun t34 w34 =>
 Q 13 #[t34] w34 (fun t35 w35 =>
 D (E t35 0) w35 (fun t36 w36 =>
 D (E t35 1) w36 (fun t37 w37 =>
 JoinE [] (fun K38 =>
 JoinE [66] (fun K39 =>
 D (binS BinOp.neq 34 (T 61) (C (I 0)) t33 (I 0)) w37 (fun t40 w40 =>
 Gd t40 false (D (binS BinOp.neq 34 (T 64) (C (I 0)) t37 (I 0)) w40 (fun t41 w41 =>
 K39 [t41] w41) X)
(K39 [(V true)] w40)) X)
(fun h42 w42 =>
 Br (h42 66)
(Gd t2 true (D (binS J 34 (T 69) (C (I 0)) t33 (I 0)) w42 (fun t43 w43 =>
 Gd t43 true (D (binS J 34 (T 73) (C (I 1)) t37 (I 1)) w43 (fun t44 w44 =>
 Gd t44 true (D (L 26 t8) w44 (fun t45 w45 =>
 Q 14 #[t45] w45 (fun t46 w46 =>
 D (Op.unary UnOp.not t46) w46 (fun t47 w47 =>
 R (.returned t47) w47) X) X) X)
(R (.returned (V false)) w44)) X)
(R (.returned (V false)) w43)) X)
(R (.returned (V false)) w42))
(K38 [] w42)))
(fun _ w48 =>
 Gd t2 true (D (binS J 47 (T 83) (T 84) t32 t36) w48 (fun t49 w49 =>
 D (L 26 t1) w49 (fun t50 w50 =>
 D (L 26 t8) w50 (fun t51 w51 =>
 Q 15 #[t50, t51] w51 (fun t52 w52 =>
 D (binS J 4 (T 85) (T 88) t49 t52) w52 (fun t53 w53 =>
 R (.returned t53) w53) X) X) X) X) X)
(R (.returned (V false)) w48))) X) X) X) X) X) X) X) X)) X)) X) X))) X) X) X) X)) X) X) X) X) X)
theorem sh_landfalllaw15_ChartDigests_ok (v0 v1 v2 v3 : Value) (h : sh_landfalllaw15_ChartDigests v0 v1 v2 v3 R w) : Calls Tryd.prog 4 #[v0, v1, v2, v3] w R :=
  calls_of_vc (c := Tryd.f4.body.getD .skip) (args := [v0, v1, v2, v3]) [(5, 3, false, 999)] [34] follows_mixed Tryd.func4 rfl (of_decide_eq_true (by kernel_rfl)) (by kernel_rfl) (Eq.mp (by kernel_rfl) h)
def sh_landfalllaw15_head (R : Ending → World → Prop) (w : World) : Prop := 
 letI X := Pan R
 letI D := DoV Tryd.prog
 letI U := DoU Tryd.prog
 letI Q := CallF Tryd.prog
 letI I := Value.int IntKind.i64
 letI T := Operand.tmp
 letI C := Operand.const
 letI L := Instr.loadAt
 letI S := Instr.storeAt
 letI E := Instr.extract
 letI N := Instr.alloc
 letI V := Value.bool
 letI J := BinOp.eql
(Q 18 #[] w (fun t1 w1 =>
 D (N 26 true (.tuple #[])) w1 (fun t2 w2 =>
 U (S 26 t2 t1) w2 (fun _ w3 =>
 D (L 26 t2) w3 (fun t4 w4 =>
 D (Instr.build 31 #[(0, (I 14)), (1, (I 20))]) w4 (fun t5 w5 =>
 Q 17 #[t4, t5] w5 (fun t6 w6 =>
 D (E t6 0) w6 (fun t7 w7 =>
 D (E t6 1) w7 (fun t8 w8 =>
 D (E t6 2) w8 (fun t9 w9 =>
 D (L 26 t2) w9 (fun t10 w10 =>
 D (Instr.build 31 #[(0, (I 15)), (1, (I 25))]) w10 (fun t11 w11 =>
 Q 17 #[t10, t11] w11 (fun t12 w12 =>
 D (E t12 0) w12 (fun t13 w13 =>
 D (E t12 1) w13 (fun t14 w14 =>
 D (E t12 2) w14 (fun t15 w15 =>
 D (L 26 t2) w15 (fun t16 w16 =>
 D (Instr.build 31 #[(0, (I 25)), (1, (I 20))]) w16 (fun t17 w17 =>
 Q 17 #[t16, t17] w17 (fun t18 w18 =>
 D (E t18 0) w18 (fun _ w19 =>
 D (E t18 1) w19 (fun t20 w20 =>
 D (E t18 2) w20 (fun t21 w21 =>
 D (L 26 t2) w21 (fun t22 w22 =>
 Q 19 #[t22, (I 4)] w22 (fun t23 w23 =>
 D (E t23 0) w23 (fun t24 w24 =>
 D (E t23 1) w24 (fun t25 w25 =>
 D (E t23 2) w25 (fun t26 w26 =>
 D (N 31 true (.tuple #[])) w26 (fun t27 w27 =>
 D (N 31 true (.tuple #[])) w27 (fun t28 w28 =>
 U (S 31 t27 t24) w28 (fun _ w29 =>
 U (S 31 t28 t25) w29 (fun _ w30 =>
 D (L 26 t2) w30 (fun t31 w31 =>
 D (Instr.build 31 #[]) w31 (fun t32 w32 =>
 D (Instr.build 31 #[(0, (I 15)), (1, (I 24))]) w32 (fun t33 w33 =>
 Q 20 #[t31, t32, t33] w33 (fun t34 w34 =>
 D (E t34 0) w34 (fun t35 w35 =>
 D (E t34 1) w35 (fun t36 w36 =>
 D (L 26 t2) w36 (fun t37 w37 =>
 Q 8 #[t37, (I 7)] w37 (fun t38 w38 =>
 D (E t38 0) w38 (fun t39 w39 =>
 D (E t38 1) w39 (fun t40 w40 =>
 D (E t38 2) w40 (fun t41 w41 =>
 D (N 31 true (.tuple #[])) w41 (fun t42 w42 =>
 U (S 31 t42 t39) w42 (fun _ w43 =>
 D (L 26 t2) w43 (fun t44 w44 =>
 Q 9 #[t44, (I 8)] w44 (fun t45 w45 =>
 D (E t45 0) w45 (fun t46 w46 =>
 D (E t45 1) w46 (fun t47 w47 =>
 D (E t45 2) w47 (fun t48 w48 =>
 D (N 39 true (.tuple #[])) w48 (fun t49 w49 =>
 U (S 39 t49 t46) w49 (fun _ w50 =>
 D (L 26 t2) w50 (fun t51 w51 =>
 Q 9 #[t51, (I 7)] w51 (fun t52 w52 =>
 D (E t52 0) w52 (fun t53 w53 =>
 D (E t52 1) w53 (fun t54 w54 =>
 D (E t52 2) w54 (fun t55 w55 =>
 D (N 39 true (.tuple #[])) w55 (fun t56 w56 =>
 U (S 39 t56 t53) w56 (fun _ w57 =>
 D (L 26 t2) w57 (fun t58 w58 =>
 Q 13 #[t58] w58 (fun t59 w59 =>
 D (E t59 0) w59 (fun t60 w60 =>
 D (E t59 1) w60 (fun t61 w61 =>
 D (L 26 t2) w61 (fun t62 w62 =>
 Q 19 #[t62, (I 6)] w62 (fun t63 w63 =>
 D (E t63 0) w63 (fun t64 w64 =>
 D (E t63 1) w64 (fun t65 w65 =>
 D (E t63 2) w65 (fun t66 w66 =>
 D (N 31 true (.tuple #[])) w66 (fun t67 w67 =>
 D (N 31 true (.tuple #[])) w67 (fun t68 w68 =>
 U (S 31 t67 t64) w68 (fun _ w69 =>
 U (S 31 t68 t65) w69 (fun _ w70 =>
 JoinE [30] (fun K71 =>
 D (binS J 34 (T 98) (C (I 0)) t9 (I 0)) w70 (fun t72 w72 =>
 Gd t72 true (D (binS J 34 (T 101) (C (I 0)) t15 (I 0)) w72 (fun t73 w73 =>
 Gd t73 true (D (binS J 34 (T 105) (C (I 0)) t21 (I 0)) w73 (fun t74 w74 =>
 Gd t74 true (D (binS J 34 (T 109) (C (I 0)) t26 (I 0)) w74 (fun t75 w75 =>
 Gd t75 true (D (binS J 34 (T 113) (C (I 0)) t36 (I 0)) w75 (fun t76 w76 =>
 Gd t76 true (D (binS J 34 (T 117) (C (I 0)) t41 (I 0)) w76 (fun t77 w77 =>
 Gd t77 true (D (binS J 34 (T 121) (C (I 0)) t48 (I 0)) w77 (fun t78 w78 =>
 Gd t78 true (D (binS J 34 (T 125) (C (I 0)) t55 (I 0)) w78 (fun t79 w79 =>
 Gd t79 true (D (binS J 34 (T 129) (C (I 0)) t61 (I 0)) w79 (fun t80 w80 =>
 Gd t80 true (D (binS J 34 (T 133) (C (I 1)) t66 (I 1)) w80 (fun t81 w81 =>
 K71 [t81] w81) X)
(K71 [(V false)] w80)) X)
(K71 [(V false)] w79)) X)
(K71 [(V false)] w78)) X)
(K71 [(V false)] w77)) X)
(K71 [(V false)] w76)) X)
(K71 [(V false)] w75)) X)
(K71 [(V false)] w74)) X)
(K71 [(V false)] w73)) X)
(K71 [(V false)] w72)) X)
(fun h82 w82 =>
 JoinE [30] (fun K83 =>
 Gd (h82 30) true (Gd t8 true (Gd t14 true (D (Op.unary UnOp.not t20) w82 (fun t84 w84 =>
 Gd t84 true (Gd t40 true (Gd t47 true (D (Op.unary UnOp.not t54) w84 (fun t85 w85 =>
 Gd t85 true (D (binS J 3 (T 158) (C (I 0)) t7 (I 0)) w85 (fun t86 w86 =>
 Gd t86 true (D (binS J 3 (T 162) (C (I 4)) t13 (I 4)) w86 (fun t87 w87 =>
 Gd t87 true (D (L 31 t27) w87 (fun t88 w88 =>
 D (Instr.build 31 #[(0, (I 15)), (1, (I 25))]) w88 (fun t89 w89 =>
 D (binS J 31 (T 166) (T 167) t88 t89) w89 (fun t90 w90 =>
 Gd t90 true (D (L 31 t28) w90 (fun t91 w91 =>
 D (Instr.build 31 #[(0, (I 19)), (1, (I 29))]) w91 (fun t92 w92 =>
 D (binS J 31 (T 171) (T 172) t91 t92) w92 (fun t93 w93 =>
 Gd t93 true (D (Instr.buildSlice 45 2 #[(0, (I 0)), (1, (I 1))]) w93 (fun t94 w94 =>
 Q 21 #[t35, t94] w94 (fun t95 w95 =>
 Gd t95 true (D (L 31 t42) w95 (fun t96 w96 =>
 D (Instr.build 31 #[(0, (I 1)), (1, (I 2))]) w96 (fun t97 w97 =>
 D (binS J 31 (T 181) (T 182) t96 t97) w97 (fun t98 w98 =>
 K83 [t98] w98) X) X) X)
(K83 [(V false)] w95)) X) X)
(K83 [(V false)] w93)) X) X) X)
(K83 [(V false)] w90)) X) X) X)
(K83 [(V false)] w87)) X)
(K83 [(V false)] w86)) X)
(K83 [(V false)] w85)) X)
(K83 [(V false)] w84))
(K83 [(V false)] w84))
(K83 [(V false)] w84)) X)
(K83 [(V false)] w82))
(K83 [(V false)] w82))
(K83 [(V false)] w82))
(fun h99 w99 =>
 D (L 26 t2) w99 (fun t100 w100 =>
 D (N 26 true (.tuple #[])) w100 (fun t101 w101 =>
 U (S 26 t101 t100) w101 (fun _ w102 =>
 D (Instr.fieldAt 26 t101 0) w102 (fun t103 w103 =>
 U (S 3 t103 (I 2)) w103 (fun _ w104 =>
 D (L 26 t101) w104 (fun t105 w105 =>
 Q 13 #[t105] w105 (fun t106 w106 =>
 D (E t106 0) w106 (fun t107 w107 =>
 D (E t106 1) w107 (fun t108 w108 =>
 Gd (h99 30) true (D (Instr.fieldAt 39 t49 1) w108 (fun t109 w109 =>
 D (L 37 t109) w109 (fun t110 w110 =>
 CallB Tryd.prog Builtin.len #[37] 3 #[false] #[t110] w110 (fun t111 w111 =>
 D (binS J 3 (T 196) (C (I 2)) t111 (I 2)) w111 (fun t112 w112 =>
 Gd t112 true (D (binS J 34 (T 200) (C (I 0)) t108 (I 0)) w112 (fun t113 w113 =>
 Gd t113 true (D (binS BinOp.neq 47 (T 204) (T 205) t60 t107) w113 (fun t114 w114 =>
 Gd t114 true (D (L 26 t2) w114 (fun t115 w115 =>
 Q 22 #[t115] w115 (fun t116 w116 =>
 Gd t116 true (D (Instr.build 26 #[]) w116 (fun t117 w117 =>
 Q 22 #[t117] w117 (fun t118 w118 =>
 D (Op.unary UnOp.not t118) w118 (fun t119 w119 =>
 R (.returned t119) w119) X) X) X)
(R (.returned (V false)) w116)) X) X)
(R (.returned (V false)) w114)) X)
(R (.returned (V false)) w113)) X)
(R (.returned (V false)) w112)) X) X) X) X)
(R (.returned (V false)) w108)) X) X) X) X) X) X) X) X) X))) X) X) X) X) X) X) X) X) X) X) X) X) X) X) X) X) X) X) X) X) X) X) X) X) X) X) X) X) X) X) X) X) X) X) X) X) X) X) X) X) X) X) X) X) X) X) X) X) X) X) X) X) X) X) X) X) X) X) X) X) X) X) X) X) X) X) X) X) X) X)
theorem sh_landfalllaw15_head_ok (h : sh_landfalllaw15_head  R w) : Calls Tryd.prog 6 #[] w R :=
  calls_of_vc (c := Tryd.f6.body.getD .skip) (args := []) [] [30] follows_mixed Tryd.func6 rfl (of_decide_eq_true (by kernel_rfl)) (by kernel_rfl) (Eq.mp (by kernel_rfl) h)
def sh_landfalllaw15_usable (v0 : Value) (R : Ending → World → Prop) (w : World) : Prop := 
 letI X := Pan R
 letI D := DoV Tryd.prog
 letI Q := CallF Tryd.prog
(D (Instr.box 26 v0) w (fun t1 w1 =>
 D (Instr.loadAt 26 t1) w1 (fun t2 w2 =>
 Q 23 #[t2] w2 (fun t3 w3 =>
 Gd t3 true (D (Instr.loadAt 26 t1) w3 (fun t4 w4 =>
 Q 14 #[t4] w4 (fun t5 w5 =>
 R (.returned t5) w5) X) X)
(R (.returned (Value.bool false)) w3)) X) X) X)
theorem sh_landfalllaw15_usable_ok (v0 : Value) (h : sh_landfalllaw15_usable v0 R w) : Calls Tryd.prog 7 #[v0] w R :=
  calls_of_vc (c := Tryd.f7.body.getD .skip) (args := [v0]) [] [] follows_mixed Tryd.func7 rfl (of_decide_eq_true (by kernel_rfl)) (by kernel_rfl) (Eq.mp (by kernel_rfl) h)
def sh_chart_Beacon (v0 v1 : Value) (R : Ending → World → Prop) (w : World) : Prop := 
 letI X := Pan R
 letI D := DoV Tryd.prog
 letI U := DoU Tryd.prog
 letI Q := CallF Tryd.prog
 letI I := Value.int IntKind.i64
 letI L := Instr.loadAt
 letI S := Instr.storeAt
(D (Instr.box 26 v0) w (fun t1 w1 =>
 D (Instr.alloc 31 true (.tuple #[])) w1 (fun t2 w2 =>
 D (L 26 t1) w2 (fun t3 w3 =>
 Q 22 #[t3] w3 (fun t4 w4 =>
 D (Op.unary UnOp.not t4) w4 (fun t5 w5 =>
 Br t5
(D (Instr.build 31 #[]) w5 (fun t6 w6 =>
 U (S 31 t2 t6) w6 (fun _ w7 =>
 Res Tryd.prog [.cell t2 31, .tmp (Value.bool false), .tmp (I 1)] w7 R) X) X)
(D (Instr.fieldAt 26 t1 7) w5 (fun t8 w8 =>
 D (L 23 t8) w8 (fun t9 w9 =>
 Q 24 #[t9, v1, (Value.func (Fn.func 25) #[] #[])] w9 (fun t10 w10 =>
 D (Instr.extract t10 0) w10 (fun t11 w11 =>
 D (Instr.extract t10 1) w11 (fun t12 w12 =>
 D (Instr.alloc 33 true (.tuple #[])) w12 (fun t13 w13 =>
 U (S 33 t13 t11) w13 (fun _ w14 =>
 D (Instr.fieldAt 33 t13 1) w14 (fun t15 w15 =>
 D (L 31 t15) w15 (fun t16 w16 =>
 U (S 31 t2 t16) w16 (fun _ w17 =>
 Res Tryd.prog [.cell t2 31, .tmp t12, .tmp (I 0)] w17 R) X) X) X) X) X) X) X) X) X) X)) X) X) X) X) X)
theorem sh_chart_Beacon_ok (v0 v1 : Value) (h : sh_chart_Beacon v0 v1 R w) : Calls Tryd.prog 8 #[v0, v1] w R :=
  calls_of_vc (c := Tryd.f8.body.getD .skip) (args := [v0, v1]) [] [] follows_mixed Tryd.func8 rfl (of_decide_eq_true (by kernel_rfl)) (by kernel_rfl) (Eq.mp (by kernel_rfl) h)
def sh_chart_Line (v0 v1 : Value) (R : Ending → World → Prop) (w : World) : Prop := 
 letI X := Pan R
 letI D := DoV Tryd.prog
 letI U := DoU Tryd.prog
 letI Q := CallF Tryd.prog
 letI I := Value.int IntKind.i64
 letI L := Instr.loadAt
 letI F := Instr.fieldAt
 letI S := Instr.storeAt
(D (Instr.box 26 v0) w (fun t1 w1 =>
 D (Instr.alloc 39 true (.tuple #[])) w1 (fun t2 w2 =>
 D (L 26 t1) w2 (fun t3 w3 =>
 Q 22 #[t3] w3 (fun t4 w4 =>
 D (Op.unary UnOp.not t4) w4 (fun t5 w5 =>
 Br t5
(D (Instr.build 39 #[]) w5 (fun t6 w6 =>
 U (S 39 t2 t6) w6 (fun _ w7 =>
 Res Tryd.prog [.cell t2 39, .tmp (Value.bool false), .tmp (I 1)] w7 R) X) X)
(D (F 26 t1 8) w5 (fun t8 w8 =>
 D (L 24 t8) w8 (fun t9 w9 =>
 Q 26 #[t9, v1, (Value.func (Fn.func 27) #[] #[])] w9 (fun t10 w10 =>
 D (Instr.extract t10 0) w10 (fun t11 w11 =>
 D (Instr.extract t10 1) w11 (fun t12 w12 =>
 D (Instr.alloc 39 true (.tuple #[])) w12 (fun t13 w13 =>
 U (S 39 t13 t11) w13 (fun _ w14 =>
 D (F 39 t13 1) w14 (fun t15 w15 =>
 D (L 37 t15) w15 (fun t16 w16 =>
 Q 28 #[t16] w16 (fun t17 w17 =>
 D (F 39 t13 1) w17 (fun t18 w18 =>
 U (S 37 t18 t17) w18 (fun _ w19 =>
 D (L 39 t13) w19 (fun t20 w20 =>
 U (S 39 t2 t20) w20 (fun _ w21 =>
 Res Tryd.prog [.cell t2 39, .tmp t12, .tmp (I 0)] w21 R) X) X) X) X) X) X) X) X) X) X) X) X) X) X)) X) X) X) X) X)
theorem sh_chart_Line_ok (v0 v1 : Value) (h : sh_chart_Line v0 v1 R w) : Calls Tryd.prog 9 #[v0, v1] w R :=
  calls_of_vc (c := Tryd.f9.body.getD .skip) (args := [v0, v1]) [] [] follows_mixed Tryd.func9 rfl (of_decide_eq_true (by kernel_rfl)) (by kernel_rfl) (Eq.mp (by kernel_rfl) h)
def sh_landfalllaw15_changed (v0 v1 v2 v3 : Value) (R : Ending → World → Prop) (w : World) : Prop := 
 letI X := Pan R
 letI D := DoV Tryd.prog
 letI U := DoU Tryd.prog
 letI Q := CallF Tryd.prog
 letI B := CallB Tryd.prog
 letI I := Value.int IntKind.i64
 letI T := Operand.tmp
 letI C := Operand.const
 letI L := Instr.loadAt
 letI F := Instr.fieldAt
 letI S := Instr.storeAt
 letI A := Instr.indexAt
 letI J := BinOp.eql
(D (Instr.box 26 v0) w (fun t1 w1 =>
 D (Instr.alloc 26 true (.tuple #[])) w1 (fun t2 w2 =>
 D (Instr.buildSlice 22 0 #[]) w2 (fun t3 w3 =>
 D (F 26 t1 6) w3 (fun t4 w4 =>
 D (L 22 t4) w4 (fun t5 w5 =>
 B Builtin.append #[22, 22] 22 #[false, false] #[t3, t5] w5 (fun t6 w6 =>
 D (F 26 t1 6) w6 (fun t7 w7 =>
 U (S 22 t7 t6) w7 (fun _ w8 =>
 D (Instr.buildSlice 23 0 #[]) w8 (fun t9 w9 =>
 D (F 26 t1 7) w9 (fun t10 w10 =>
 D (L 23 t10) w10 (fun t11 w11 =>
 B Builtin.append #[23, 23] 23 #[false, false] #[t9, t11] w11 (fun t12 w12 =>
 D (F 26 t1 7) w12 (fun t13 w13 =>
 U (S 23 t13 t12) w13 (fun _ w14 =>
 DrawE w14 (fun Rs15 Rb15 w15 =>
 DetOp Rb15 Rs15 w15 (fun w16 K16 => D (F 26 t1 6) w16 K16 X) (fun c23_16 ψ16 =>
 DetOp Rb15 Rs15 w15 (fun w17 K17 => D (L 22 c23_16) w17 K17 X) (fun c24_17 ψ17 =>
 DetOp Rb15 Rs15 w15 (fun w18 K18 => D (convert 5 3 v2) w18 K18 X) (fun c26_18 ψ18 =>
 DetOp Rb15 Rs15 w15 (fun w19 K19 => D (F 26 t1 6) w19 K19 X) (fun c27_19 ψ19 =>
 DetOp Rb15 Rs15 w15 (fun w20 K20 => D (L 22 c27_19) w20 K20 X) (fun c28_20 ψ20 =>
 DetOp Rb15 Rs15 w15 (fun w21 K21 => B Builtin.len #[22] 3 #[false] #[c28_20] w21 K21 X) (fun c29_21 ψ21 =>
 DetOp Rb15 Rs15 w15 (fun w22 K22 => D (binS BinOp.rem 3 (T 26) (T 29) c26_18 c29_21) w22 K22 X) (fun c30_22 ψ22 =>
 ∀ w23, Rb15 w15 w23 → (((((((True ∧ ψ16 w23) ∧ ψ17 w23) ∧ ψ18 w23) ∧ ψ19 w23) ∧ ψ20 w23) ∧ ψ21 w23) ∧ ψ22 w23) →
 D (A 22 c24_17 c30_22) w23 (fun t24 w24 =>
 JoinE [] (fun K25 =>
 D (binS BinOp.rem 5 (T 32) (C (Value.int IntKind.u8 6)) v1 (Value.int IntKind.u8 6)) w24 (fun t26 w26 =>
 D (binS J 5 (T 33) (C (Value.int IntKind.u8 0)) t26 (Value.int IntKind.u8 0)) w26 (fun t27 w27 =>
 Br t27
(NilC Tryd.prog t24 w27 (fun t28 w28 =>
 D (F 74 t28 0) w28 (fun t29 w29 =>
 D (F 72 t29 0) w29 (fun t30 w30 =>
 D (L 3 t30) w30 (fun t31 w31 =>
 Q 30 #[t31, v3] w31 (fun t32 w32 =>
 NilC Tryd.prog t24 w32 (fun t33 w33 =>
 D (F 74 t33 0) w33 (fun t34 w34 =>
 D (F 72 t34 0) w34 (fun t35 w35 =>
 U (S 3 t35 t32) w35 (fun _ w36 =>
 K25 [] w36) X) X) X) X) X) X) X) X) X)
(D (binS J 5 (T 33) (C (Value.int IntKind.u8 1)) t26 (Value.int IntKind.u8 1)) w27 (fun t37 w37 =>
 Br t37
(NilC Tryd.prog t24 w37 (fun t38 w38 =>
 D (F 74 t38 0) w38 (fun t39 w39 =>
 D (F 72 t39 1) w39 (fun t40 w40 =>
 D (L 3 t40) w40 (fun t41 w41 =>
 Q 30 #[t41, v3] w41 (fun t42 w42 =>
 NilC Tryd.prog t24 w42 (fun t43 w43 =>
 D (F 74 t43 0) w43 (fun t44 w44 =>
 D (F 72 t44 1) w44 (fun t45 w45 =>
 U (S 3 t45 t42) w45 (fun _ w46 =>
 K25 [] w46) X) X) X) X) X) X) X) X) X)
(D (binS J 5 (T 33) (C (Value.int IntKind.u8 2)) t26 (Value.int IntKind.u8 2)) w37 (fun t47 w47 =>
 Br t47
(NilC Tryd.prog t24 w47 (fun t48 w48 =>
 D (F 74 t48 1) w48 (fun t49 w49 =>
 D (L 3 t49) w49 (fun t50 w50 =>
 Q 30 #[t50, v3] w50 (fun t51 w51 =>
 NilC Tryd.prog t24 w51 (fun t52 w52 =>
 D (F 74 t52 1) w52 (fun t53 w53 =>
 U (S 3 t53 t51) w53 (fun _ w54 =>
 K25 [] w54) X) X) X) X) X) X) X)
(D (binS J 5 (T 33) (C (Value.int IntKind.u8 3)) t26 (Value.int IntKind.u8 3)) w47 (fun t55 w55 =>
 Br t55
(NilC Tryd.prog t24 w55 (fun t56 w56 =>
 D (F 74 t56 2) w56 (fun t57 w57 =>
 D (L 4 t57) w57 (fun t58 w58 =>
 D (Op.unary UnOp.not t58) w58 (fun t59 w59 =>
 NilC Tryd.prog t24 w59 (fun t60 w60 =>
 D (F 74 t60 2) w60 (fun t61 w61 =>
 U (S 4 t61 t59) w61 (fun _ w62 =>
 K25 [] w62) X) X) X) X) X) X) X)
(D (binS J 5 (T 33) (C (Value.int IntKind.u8 4)) t26 (Value.int IntKind.u8 4)) w55 (fun t63 w63 =>
 Br t63
(D (F 26 t1 7) w63 (fun t64 w64 =>
 D (L 23 t64) w64 (fun t65 w65 =>
 B Builtin.len #[23] 3 #[false] #[t65] w65 (fun t66 w66 =>
 D (binS BinOp.gtr 3 (T 86) (C (I 0)) t66 (I 0)) w66 (fun t67 w67 =>
 Br t67
(DrawE w67 (fun Rs68 Rb68 w68 =>
 DetOp Rb68 Rs68 w68 (fun w69 K69 => D (F 26 t1 7) w69 K69 X) (fun c88_69 ψ69 =>
 DetOp Rb68 Rs68 w68 (fun w70 K70 => D (L 23 c88_69) w70 K70 X) (fun c89_70 ψ70 =>
 DetOp Rb68 Rs68 w68 (fun w71 K71 => D (convert 5 3 v2) w71 K71 X) (fun c91_71 ψ71 =>
 DetOp Rb68 Rs68 w68 (fun w72 K72 => D (binS BinOp.rem 3 (T 91) (T 92) c91_71 t66) w72 K72 X) (fun c93_72 ψ72 =>
 DetOp Rb68 Rs68 w68 (fun w73 K73 => D (F 26 t1 7) w73 K73 X) (fun c94_73 ψ73 =>
 DetOp Rb68 Rs68 w68 (fun w74 K74 => D (L 23 c94_73) w74 K74 X) (fun c95_74 ψ74 =>
 DetOp Rb68 Rs68 w68 (fun w75 K75 => D (convert 5 3 v2) w75 K75 X) (fun c97_75 ψ75 =>
 DetOp Rb68 Rs68 w68 (fun w76 K76 => D (binS BinOp.rem 3 (T 97) (T 98) c97_75 t66) w76 K76 X) (fun c99_76 ψ76 =>
 DetOp Rb68 Rs68 w68 (fun w77 K77 => D (A 23 c95_74 c99_76) w77 K77 X) (fun c100_77 ψ77 =>
 DetOp Rb68 Rs68 w68 (fun w78 K78 => D (F 33 c100_77 1) w78 K78 X) (fun c101_78 ψ78 =>
 DetOp Rb68 Rs68 w68 (fun w79 K79 => D (F 31 c101_78 0) w79 K79 X) (fun c102_79 ψ79 =>
 DetOp Rb68 Rs68 w68 (fun w80 K80 => D (L 3 c102_79) w80 K80 X) (fun c103_80 ψ80 =>
 DetOp Rs68 Rb68 w68 (fun w81 K81 => Q 30 #[c103_80, v3] w81 K81 X) (fun c105_81 ψ81 =>
 ∀ w82, Rb68 w68 w82 → (((((((((((((True ∧ ψ69 w82) ∧ ψ70 w82) ∧ ψ71 w82) ∧ ψ72 w82) ∧ ψ73 w82) ∧ ψ74 w82) ∧ ψ75 w82) ∧ ψ76 w82) ∧ ψ77 w82) ∧ ψ78 w82) ∧ ψ79 w82) ∧ ψ80 w82) ∧ ψ81 w82) →
 D (A 23 c89_70 c93_72) w82 (fun t83 w83 =>
 D (F 33 t83 1) w83 (fun t84 w84 =>
 D (F 31 t84 0) w84 (fun t85 w85 =>
 U (S 3 t85 c105_81) w85 (fun _ w86 =>
 K25 [] w86) X) X) X) X)))))))))))))))
(K25 [] w67)) X) X) X) X)
(D (binS J 5 (T 33) (C (Value.int IntKind.u8 5)) t26 (Value.int IntKind.u8 5)) w63 (fun t87 w87 =>
 Br t87
(D (Instr.buildSlice 24 0 #[]) w87 (fun t88 w88 =>
 D (F 26 t1 8) w88 (fun t89 w89 =>
 D (L 24 t89) w89 (fun t90 w90 =>
 B Builtin.append #[24, 24] 24 #[false, false] #[t88, t90] w90 (fun t91 w91 =>
 D (F 26 t1 8) w91 (fun t92 w92 =>
 U (S 24 t92 t91) w92 (fun _ w93 =>
 D (F 26 t1 8) w93 (fun t94 w94 =>
 D (L 24 t94) w94 (fun t95 w95 =>
 B Builtin.len #[24] 3 #[false] #[t95] w95 (fun t96 w96 =>
 D (binS BinOp.gtr 3 (T 119) (C (I 0)) t96 (I 0)) w96 (fun t97 w97 =>
 Br t97
(DrawE w97 (fun Rs98 Rb98 w98 =>
 DetOp Rb98 Rs98 w98 (fun w99 K99 => D (F 26 t1 8) w99 K99 X) (fun c121_99 ψ99 =>
 DetOp Rb98 Rs98 w98 (fun w100 K100 => D (L 24 c121_99) w100 K100 X) (fun c122_100 ψ100 =>
 DetOp Rb98 Rs98 w98 (fun w101 K101 => D (convert 5 3 v2) w101 K101 X) (fun c124_101 ψ101 =>
 DetOp Rb98 Rs98 w98 (fun w102 K102 => D (binS BinOp.rem 3 (T 124) (T 125) c124_101 t96) w102 K102 X) (fun c126_102 ψ102 =>
 ∀ w103, Rb98 w98 w103 → ((((True ∧ ψ99 w103) ∧ ψ100 w103) ∧ ψ101 w103) ∧ ψ102 w103) →
 D (A 24 c122_100 c126_102) w103 (fun t104 w104 =>
 D (Instr.buildSlice 37 0 #[]) w104 (fun t105 w105 =>
 NilC Tryd.prog t104 w105 (fun t106 w106 =>
 D (F 39 t106 1) w106 (fun t107 w107 =>
 D (L 37 t107) w107 (fun t108 w108 =>
 B Builtin.append #[37, 37] 37 #[false, false] #[t105, t108] w108 (fun t109 w109 =>
 NilC Tryd.prog t104 w109 (fun t110 w110 =>
 D (F 39 t110 1) w110 (fun t111 w111 =>
 U (S 37 t111 t109) w111 (fun _ w112 =>
 DrawE w112 (fun Rs113 Rb113 w113 =>
 DetOp Rb113 Rs113 w113 (fun w114 K114 => NilC Tryd.prog t104 w114 K114 X) (fun c138_114 ψ114 =>
 DetOp Rb113 Rs113 w113 (fun w115 K115 => D (F 39 c138_114 1) w115 K115 X) (fun c139_115 ψ115 =>
 DetOp Rb113 Rs113 w113 (fun w116 K116 => D (L 37 c139_115) w116 K116 X) (fun c140_116 ψ116 =>
 DetOp Rb113 Rs113 w113 (fun w117 K117 => NilC Tryd.prog t104 w117 K117 X) (fun c142_117 ψ117 =>
 DetOp Rb113 Rs113 w113 (fun w118 K118 => D (F 39 c142_117 1) w118 K118 X) (fun c143_118 ψ118 =>
 DetOp Rb113 Rs113 w113 (fun w119 K119 => D (L 37 c143_118) w119 K119 X) (fun c144_119 ψ119 =>
 DetOp Rb113 Rs113 w113 (fun w120 K120 => D (A 37 c144_119 (I 0)) w120 K120 X) (fun c145_120 ψ120 =>
 DetOp Rb113 Rs113 w113 (fun w121 K121 => D (F 31 c145_120 1) w121 K121 X) (fun c146_121 ψ121 =>
 DetOp Rb113 Rs113 w113 (fun w122 K122 => D (L 3 c146_121) w122 K122 X) (fun c147_122 ψ122 =>
 DetOp Rs113 Rb113 w113 (fun w123 K123 => Q 30 #[c147_122, v3] w123 K123 X) (fun c149_123 ψ123 =>
 ∀ w124, Rb113 w113 w124 → ((((((((((True ∧ ψ114 w124) ∧ ψ115 w124) ∧ ψ116 w124) ∧ ψ117 w124) ∧ ψ118 w124) ∧ ψ119 w124) ∧ ψ120 w124) ∧ ψ121 w124) ∧ ψ122 w124) ∧ ψ123 w124) →
 D (A 37 c140_116 (I 0)) w124 (fun t125 w125 =>
 D (F 31 t125 1) w125 (fun t126 w126 =>
 U (S 3 t126 c149_123) w126 (fun _ w127 =>
 K25 [] w127) X) X) X)))))))))))) X) X) X) X) X) X) X) X) X))))))
(K25 [] w97)) X) X) X) X) X) X) X) X) X) X)
(K25 [] w87)) X)) X)) X)) X)) X)) X) X)
(fun _ w128 =>
 D (L 26 t1) w128 (fun t129 w129 =>
 U (S 26 t2 t129) w129 (fun _ w130 =>
 Res Tryd.prog [.cell t2 26] w130 R) X) X)) X))))))))) X) X) X) X) X) X) X) X) X) X) X) X) X) X)
theorem sh_landfalllaw15_changed_ok (v0 v1 v2 v3 : Value) (h : sh_landfalllaw15_changed v0 v1 v2 v3 R w) : Calls Tryd.prog 11 #[v0, v1, v2, v3] w R :=
  calls_of_vc (c := Tryd.f11.body.getD .skip) (args := [v0, v1, v2, v3]) [(3, 8, false, 0), (16, 18, false, 18), (21, 6, false, 0), (23, 13, false, 13)] [] follows_mixed Tryd.func11 rfl (of_decide_eq_true (by kernel_rfl)) (by kernel_rfl) (Eq.mp (by kernel_rfl) h)
def sh_landfallref15_Ints (v0 : Value) (R : Ending → World → Prop) (w : World) : Prop := 
 letI X := Pan R
 letI D := DoV Tryd.prog
 letI B := CallB Tryd.prog
 letI I := Value.int IntKind.i64
 letI T := Operand.tmp
 letI C := Operand.const
 letI L := Instr.loadAt
 letI F := Instr.fieldAt
 letI A := Instr.indexAt
 letI M := BinOp.lss
 letI O := BinOp.add
(D (Instr.box 26 v0) w (fun t1 w1 =>
 D (F 26 t1 0) w1 (fun t2 w2 =>
 D (L 3 t2) w2 (fun t3 w3 =>
 D (F 26 t1 1) w3 (fun t4 w4 =>
 D (L 3 t4) w4 (fun t5 w5 =>
 D (F 26 t1 2) w5 (fun t6 w6 =>
 D (L 3 t6) w6 (fun t7 w7 =>
 D (F 26 t1 3) w7 (fun t8 w8 =>
 D (L 3 t8) w8 (fun t9 w9 =>
 D (F 26 t1 4) w9 (fun t10 w10 =>
 D (L 3 t10) w10 (fun t11 w11 =>
 D (F 26 t1 5) w11 (fun t12 w12 =>
 D (L 3 t12) w12 (fun t13 w13 =>
 D (F 26 t1 6) w13 (fun t14 w14 =>
 D (L 22 t14) w14 (fun t15 w15 =>
 B Builtin.len #[22] 3 #[false] #[t15] w15 (fun t16 w16 =>
 D (Instr.buildSlice 45 7 #[(0, t3), (1, t5), (2, t7), (3, t9), (4, t11), (5, t13), (6, t16)]) w16 (fun t17 w17 =>
 LoopE [3, 4, 5] [t17, (I 0), undef] w17 (fun h18 w18 K18 =>
 D (F 26 t1 6) w18 (fun t19 w19 =>
 D (L 22 t19) w19 (fun t20 w20 =>
 B Builtin.len #[22] 3 #[false] #[t20] w20 (fun t21 w21 =>
 D (binS M 3 (T 25) (T 28) (h18 4) t21) w21 (fun t22 w22 =>
 Br t22
(JoinE [3, 5] (fun K23 =>
 JoinE [5] (fun K24 =>
 D (F 26 t1 6) w22 (fun t25 w25 =>
 D (L 22 t25) w25 (fun t26 w26 =>
 D (A 22 t26 (h18 4)) w26 (fun t27 w27 =>
 D (F 74 t27 2) w27 (fun t28 w28 =>
 D (L 4 t28) w28 (fun t29 w29 =>
 Br t29
(K24 [(I 1)] w29)
(K24 [(I 0)] w29)) X) X) X) X) X)
(fun h30 w30 =>
 DrawE w30 (fun Rs31 Rb31 w31 =>
 DetOp Rb31 Rs31 w31 (fun w32 K32 => D (F 26 t1 6) w32 K32 X) (fun c39_32 ψ32 =>
 DetOp Rb31 Rs31 w31 (fun w33 K33 => D (L 22 c39_32) w33 K33 X) (fun c40_33 ψ33 =>
 DetOp Rb31 Rs31 w31 (fun w34 K34 => D (A 22 c40_33 (h18 4)) w34 K34 X) (fun c42_34 ψ34 =>
 DetOp Rb31 Rs31 w31 (fun w35 K35 => D (F 74 c42_34 0) w35 K35 X) (fun c43_35 ψ35 =>
 DetOp Rb31 Rs31 w31 (fun w36 K36 => D (F 72 c43_35 0) w36 K36 X) (fun c44_36 ψ36 =>
 DetOp Rb31 Rs31 w31 (fun w37 K37 => D (L 3 c44_36) w37 K37 X) (fun c45_37 ψ37 =>
 DetOp Rb31 Rs31 w31 (fun w38 K38 => D (F 26 t1 6) w38 K38 X) (fun c46_38 ψ38 =>
 DetOp Rb31 Rs31 w31 (fun w39 K39 => D (L 22 c46_38) w39 K39 X) (fun c47_39 ψ39 =>
 DetOp Rb31 Rs31 w31 (fun w40 K40 => D (A 22 c47_39 (h18 4)) w40 K40 X) (fun c49_40 ψ40 =>
 DetOp Rb31 Rs31 w31 (fun w41 K41 => D (F 74 c49_40 0) w41 K41 X) (fun c50_41 ψ41 =>
 DetOp Rb31 Rs31 w31 (fun w42 K42 => D (F 72 c50_41 1) w42 K42 X) (fun c51_42 ψ42 =>
 DetOp Rb31 Rs31 w31 (fun w43 K43 => D (L 3 c51_42) w43 K43 X) (fun c52_43 ψ43 =>
 DetOp Rb31 Rs31 w31 (fun w44 K44 => D (F 26 t1 6) w44 K44 X) (fun c53_44 ψ44 =>
 DetOp Rb31 Rs31 w31 (fun w45 K45 => D (L 22 c53_44) w45 K45 X) (fun c54_45 ψ45 =>
 DetOp Rb31 Rs31 w31 (fun w46 K46 => D (A 22 c54_45 (h18 4)) w46 K46 X) (fun c56_46 ψ46 =>
 DetOp Rb31 Rs31 w31 (fun w47 K47 => D (F 74 c56_46 1) w47 K47 X) (fun c57_47 ψ47 =>
 DetOp Rb31 Rs31 w31 (fun w48 K48 => D (L 3 c57_47) w48 K48 X) (fun c58_48 ψ48 =>
 NdOp Rb31 Rs31 w31 (fun w49 K49 => D (Instr.buildSlice 45 4 #[(0, c45_37), (1, c52_43), (2, c58_48), (3, (h30 5))]) w49 K49 X) (fun v60_49 φ49 =>
 ∀ w50, Rb31 w31 w50 → (((((((((((((((((True ∧ ψ32 w50) ∧ ψ33 w50) ∧ ψ34 w50) ∧ ψ35 w50) ∧ ψ36 w50) ∧ ψ37 w50) ∧ ψ38 w50) ∧ ψ39 w50) ∧ ψ40 w50) ∧ ψ41 w50) ∧ ψ42 w50) ∧ ψ43 w50) ∧ ψ44 w50) ∧ ψ45 w50) ∧ ψ46 w50) ∧ ψ47 w50) ∧ ψ48 w50) ∧ φ49 w50 →
 B Builtin.append #[45, 45] 45 #[false, false] #[(h18 3), v60_49] w50 (fun t51 w51 =>
 K23 [t51, (h30 5)] w51) X)))))))))))))))))))))
(fun h52 w52 =>
 D (binS O 3 (T 30) (C (I 1)) (h18 4) (I 1)) w52 (fun t53 w53 =>
 K18 [(h52 3), t53, (h52 5)] w53) X))
(D (F 26 t1 7) w22 (fun t54 w54 =>
 D (L 23 t54) w54 (fun t55 w55 =>
 B Builtin.len #[23] 3 #[false] #[t55] w55 (fun t56 w56 =>
 D (Instr.buildSlice 45 1 #[(0, t56)]) w56 (fun t57 w57 =>
 B Builtin.append #[45, 45] 45 #[false, false] #[(h18 3), t57] w57 (fun t58 w58 =>
 LoopE [3, 6] [t58, (I 0)] w58 (fun h59 w59 K59 =>
 D (F 26 t1 7) w59 (fun t60 w60 =>
 D (L 23 t60) w60 (fun t61 w61 =>
 B Builtin.len #[23] 3 #[false] #[t61] w61 (fun t62 w62 =>
 D (binS M 3 (T 68) (T 71) (h59 6) t62) w62 (fun t63 w63 =>
 Br t63
(DrawE w63 (fun Rs64 Rb64 w64 =>
 DetOp Rb64 Rs64 w64 (fun w65 K65 => D (F 26 t1 7) w65 K65 X) (fun c76_65 ψ65 =>
 DetOp Rb64 Rs64 w64 (fun w66 K66 => D (L 23 c76_65) w66 K66 X) (fun c77_66 ψ66 =>
 DetOp Rb64 Rs64 w64 (fun w67 K67 => D (A 23 c77_66 (h59 6)) w67 K67 X) (fun c79_67 ψ67 =>
 DetOp Rb64 Rs64 w64 (fun w68 K68 => D (F 33 c79_67 0) w68 K68 X) (fun c80_68 ψ68 =>
 DetOp Rb64 Rs64 w64 (fun w69 K69 => D (L 3 c80_68) w69 K69 X) (fun c81_69 ψ69 =>
 DetOp Rb64 Rs64 w64 (fun w70 K70 => D (F 26 t1 7) w70 K70 X) (fun c82_70 ψ70 =>
 DetOp Rb64 Rs64 w64 (fun w71 K71 => D (L 23 c82_70) w71 K71 X) (fun c83_71 ψ71 =>
 DetOp Rb64 Rs64 w64 (fun w72 K72 => D (A 23 c83_71 (h59 6)) w72 K72 X) (fun c85_72 ψ72 =>
 DetOp Rb64 Rs64 w64 (fun w73 K73 => D (F 33 c85_72 1) w73 K73 X) (fun c86_73 ψ73 =>
 DetOp Rb64 Rs64 w64 (fun w74 K74 => D (F 31 c86_73 0) w74 K74 X) (fun c87_74 ψ74 =>
 DetOp Rb64 Rs64 w64 (fun w75 K75 => D (L 3 c87_74) w75 K75 X) (fun c88_75 ψ75 =>
 DetOp Rb64 Rs64 w64 (fun w76 K76 => D (F 26 t1 7) w76 K76 X) (fun c89_76 ψ76 =>
 DetOp Rb64 Rs64 w64 (fun w77 K77 => D (L 23 c89_76) w77 K77 X) (fun c90_77 ψ77 =>
 DetOp Rb64 Rs64 w64 (fun w78 K78 => D (A 23 c90_77 (h59 6)) w78 K78 X) (fun c92_78 ψ78 =>
 DetOp Rb64 Rs64 w64 (fun w79 K79 => D (F 33 c92_78 1) w79 K79 X) (fun c93_79 ψ79 =>
 DetOp Rb64 Rs64 w64 (fun w80 K80 => D (F 31 c93_79 1) w80 K80 X) (fun c94_80 ψ80 =>
 DetOp Rb64 Rs64 w64 (fun w81 K81 => D (L 3 c94_80) w81 K81 X) (fun c95_81 ψ81 =>
 NdOp Rb64 Rs64 w64 (fun w82 K82 => D (Instr.buildSlice 45 3 #[(0, c81_69), (1, c88_75), (2, c95_81)]) w82 K82 X) (fun v96_82 φ82 =>
 ∀ w83, Rb64 w64 w83 → (((((((((((((((((True ∧ ψ65 w83) ∧ ψ66 w83) ∧ ψ67 w83) ∧ ψ68 w83) ∧ ψ69 w83) ∧ ψ70 w83) ∧ ψ71 w83) ∧ ψ72 w83) ∧ ψ73 w83) ∧ ψ74 w83) ∧ ψ75 w83) ∧ ψ76 w83) ∧ ψ77 w83) ∧ ψ78 w83) ∧ ψ79 w83) ∧ ψ80 w83) ∧ ψ81 w83) ∧ φ82 w83 →
 B Builtin.append #[45, 45] 45 #[false, false] #[(h59 3), v96_82] w83 (fun t84 w84 =>
 D (binS O 3 (T 73) (C (I 1)) (h59 6) (I 1)) w84 (fun t85 w85 =>
 K59 [t84, t85] w85) X) X))))))))))))))))))))
(D (F 26 t1 8) w63 (fun t86 w86 =>
 D (L 24 t86) w86 (fun t87 w87 =>
 B Builtin.len #[24] 3 #[false] #[t87] w87 (fun t88 w88 =>
 D (Instr.buildSlice 45 1 #[(0, t88)]) w88 (fun t89 w89 =>
 B Builtin.append #[45, 45] 45 #[false, false] #[(h59 3), t89] w89 (fun t90 w90 =>
 LoopE [3, 7, 8] [t90, (I 0), undef] w90 (fun h91 w91 K91 =>
 D (F 26 t1 8) w91 (fun t92 w92 =>
 D (L 24 t92) w92 (fun t93 w93 =>
 B Builtin.len #[24] 3 #[false] #[t93] w93 (fun t94 w94 =>
 D (binS M 3 (T 104) (T 107) (h91 7) t94) w94 (fun t95 w95 =>
 Br t95
(DrawE w95 (fun Rs96 Rb96 w96 =>
 DetOp Rb96 Rs96 w96 (fun w97 K97 => D (F 26 t1 8) w97 K97 X) (fun c112_97 ψ97 =>
 DetOp Rb96 Rs96 w96 (fun w98 K98 => D (L 24 c112_97) w98 K98 X) (fun c113_98 ψ98 =>
 DetOp Rb96 Rs96 w96 (fun w99 K99 => D (A 24 c113_98 (h91 7)) w99 K99 X) (fun c115_99 ψ99 =>
 DetOp Rb96 Rs96 w96 (fun w100 K100 => D (F 39 c115_99 0) w100 K100 X) (fun c116_100 ψ100 =>
 DetOp Rb96 Rs96 w96 (fun w101 K101 => D (L 3 c116_100) w101 K101 X) (fun c117_101 ψ101 =>
 DetOp Rb96 Rs96 w96 (fun w102 K102 => D (F 26 t1 8) w102 K102 X) (fun c118_102 ψ102 =>
 DetOp Rb96 Rs96 w96 (fun w103 K103 => D (L 24 c118_102) w103 K103 X) (fun c119_103 ψ103 =>
 DetOp Rb96 Rs96 w96 (fun w104 K104 => D (A 24 c119_103 (h91 7)) w104 K104 X) (fun c121_104 ψ104 =>
 DetOp Rb96 Rs96 w96 (fun w105 K105 => D (F 39 c121_104 1) w105 K105 X) (fun c122_105 ψ105 =>
 DetOp Rb96 Rs96 w96 (fun w106 K106 => D (L 37 c122_105) w106 K106 X) (fun c123_106 ψ106 =>
 DetOp Rb96 Rs96 w96 (fun w107 K107 => B Builtin.len #[37] 3 #[false] #[c123_106] w107 K107 X) (fun c124_107 ψ107 =>
 NdOp Rb96 Rs96 w96 (fun w108 K108 => D (Instr.buildSlice 45 2 #[(0, c117_101), (1, c124_107)]) w108 K108 X) (fun v125_108 φ108 =>
 ∀ w109, Rb96 w96 w109 → (((((((((((True ∧ ψ97 w109) ∧ ψ98 w109) ∧ ψ99 w109) ∧ ψ100 w109) ∧ ψ101 w109) ∧ ψ102 w109) ∧ ψ103 w109) ∧ ψ104 w109) ∧ ψ105 w109) ∧ ψ106 w109) ∧ ψ107 w109) ∧ φ108 w109 →
 B Builtin.append #[45, 45] 45 #[false, false] #[(h91 3), v125_108] w109 (fun t110 w110 =>
 LoopE [3, 8] [t110, (I 0)] w110 (fun h111 w111 K111 =>
 D (F 26 t1 8) w111 (fun t112 w112 =>
 D (L 24 t112) w112 (fun t113 w113 =>
 D (A 24 t113 (h91 7)) w113 (fun t114 w114 =>
 D (F 39 t114 1) w114 (fun t115 w115 =>
 D (L 37 t115) w115 (fun t116 w116 =>
 B Builtin.len #[37] 3 #[false] #[t116] w116 (fun t117 w117 =>
 D (binS M 3 (T 127) (T 134) (h111 8) t117) w117 (fun t118 w118 =>
 Br t118
(DrawE w118 (fun Rs119 Rb119 w119 =>
 DetOp Rb119 Rs119 w119 (fun w120 K120 => D (F 26 t1 8) w120 K120 X) (fun c139_120 ψ120 =>
 DetOp Rb119 Rs119 w119 (fun w121 K121 => D (L 24 c139_120) w121 K121 X) (fun c140_121 ψ121 =>
 DetOp Rb119 Rs119 w119 (fun w122 K122 => D (A 24 c140_121 (h91 7)) w122 K122 X) (fun c142_122 ψ122 =>
 DetOp Rb119 Rs119 w119 (fun w123 K123 => D (F 39 c142_122 1) w123 K123 X) (fun c143_123 ψ123 =>
 DetOp Rb119 Rs119 w119 (fun w124 K124 => D (L 37 c143_123) w124 K124 X) (fun c144_124 ψ124 =>
 DetOp Rb119 Rs119 w119 (fun w125 K125 => D (A 37 c144_124 (h111 8)) w125 K125 X) (fun c146_125 ψ125 =>
 DetOp Rb119 Rs119 w119 (fun w126 K126 => D (F 31 c146_125 0) w126 K126 X) (fun c147_126 ψ126 =>
 DetOp Rb119 Rs119 w119 (fun w127 K127 => D (L 3 c147_126) w127 K127 X) (fun c148_127 ψ127 =>
 DetOp Rb119 Rs119 w119 (fun w128 K128 => D (F 26 t1 8) w128 K128 X) (fun c149_128 ψ128 =>
 DetOp Rb119 Rs119 w119 (fun w129 K129 => D (L 24 c149_128) w129 K129 X) (fun c150_129 ψ129 =>
 DetOp Rb119 Rs119 w119 (fun w130 K130 => D (A 24 c150_129 (h91 7)) w130 K130 X) (fun c152_130 ψ130 =>
 DetOp Rb119 Rs119 w119 (fun w131 K131 => D (F 39 c152_130 1) w131 K131 X) (fun c153_131 ψ131 =>
 DetOp Rb119 Rs119 w119 (fun w132 K132 => D (L 37 c153_131) w132 K132 X) (fun c154_132 ψ132 =>
 DetOp Rb119 Rs119 w119 (fun w133 K133 => D (A 37 c154_132 (h111 8)) w133 K133 X) (fun c156_133 ψ133 =>
 DetOp Rb119 Rs119 w119 (fun w134 K134 => D (F 31 c156_133 1) w134 K134 X) (fun c157_134 ψ134 =>
 DetOp Rb119 Rs119 w119 (fun w135 K135 => D (L 3 c157_134) w135 K135 X) (fun c158_135 ψ135 =>
 NdOp Rb119 Rs119 w119 (fun w136 K136 => D (Instr.buildSlice 45 2 #[(0, c148_127), (1, c158_135)]) w136 K136 X) (fun v159_136 φ136 =>
 ∀ w137, Rb119 w119 w137 → ((((((((((((((((True ∧ ψ120 w137) ∧ ψ121 w137) ∧ ψ122 w137) ∧ ψ123 w137) ∧ ψ124 w137) ∧ ψ125 w137) ∧ ψ126 w137) ∧ ψ127 w137) ∧ ψ128 w137) ∧ ψ129 w137) ∧ ψ130 w137) ∧ ψ131 w137) ∧ ψ132 w137) ∧ ψ133 w137) ∧ ψ134 w137) ∧ ψ135 w137) ∧ φ136 w137 →
 B Builtin.append #[45, 45] 45 #[false, false] #[(h111 3), v159_136] w137 (fun t138 w138 =>
 D (binS O 3 (T 136) (C (I 1)) (h111 8) (I 1)) w138 (fun t139 w139 =>
 K111 [t138, t139] w139) X) X)))))))))))))))))))
(D (binS O 3 (T 109) (C (I 1)) (h91 7) (I 1)) w118 (fun t140 w140 =>
 K91 [(h111 3), t140, (h111 8)] w140) X)) X) X) X) X) X) X) X)) X))))))))))))))
(R (.returned (h91 3)) w95)) X) X) X) X)) X) X) X) X) X)) X) X) X) X)) X) X) X) X) X)) X) X) X) X)) X) X) X) X) X) X) X) X) X) X) X) X) X) X) X) X) X)
theorem sh_landfallref15_Ints_ok (v0 : Value) (h : sh_landfallref15_Ints v0 R w) : Calls Tryd.prog 12 #[v0] w R :=
  calls_of_vc (c := Tryd.f12.body.getD .skip) (args := [v0]) [(8, 22, true, 0), (13, 21, true, 0), (18, 14, true, 0), (22, 21, true, 0)] [3, 4, 5, 6, 7, 8] follows_mixed Tryd.func12 rfl (of_decide_eq_true (by kernel_rfl)) (by kernel_rfl) (Eq.mp (by kernel_rfl) h)
def sh_chart_Digest (v0 : Value) (R : Ending → World → Prop) (w : World) : Prop := 
 letI X := Pan R
 letI D := DoV Tryd.prog
 letI U := DoU Tryd.prog
 letI Q := CallF Tryd.prog
 letI B := CallB Tryd.prog
 letI I := Value.int IntKind.i64
 letI T := Operand.tmp
 letI C := Operand.const
 letI L := Instr.loadAt
 letI F := Instr.fieldAt
 letI S := Instr.storeAt
 letI A := Instr.indexAt
 letI N := Instr.alloc
 letI M := BinOp.lss
 letI O := BinOp.add
(D (Instr.box 26 v0) w (fun t1 w1 =>
 D (L 26 t1) w1 (fun t2 w2 =>
 Q 22 #[t2] w2 (fun t3 w3 =>
 D (Op.unary UnOp.not t3) w3 (fun t4 w4 =>
 Br t4
(R (.returned (Value.tuple #[(Value.int IntKind.u64 0), (I 1)])) w4)
(D (N 45 true (.tuple #[])) w4 (fun t5 w5 =>
 D (Instr.makeFunc (Fn.func 31) #[] #[t5]) w5 (fun t6 w6 =>
 D (F 26 t1 0) w6 (fun t7 w7 =>
 D (L 3 t7) w7 (fun t8 w8 =>
 D (F 26 t1 1) w8 (fun t9 w9 =>
 D (L 3 t9) w9 (fun t10 w10 =>
 D (F 26 t1 2) w10 (fun t11 w11 =>
 D (L 3 t11) w11 (fun t12 w12 =>
 D (F 26 t1 3) w12 (fun t13 w13 =>
 D (L 3 t13) w13 (fun t14 w14 =>
 D (F 26 t1 4) w14 (fun t15 w15 =>
 D (L 3 t15) w15 (fun t16 w16 =>
 D (F 26 t1 5) w16 (fun t17 w17 =>
 D (L 3 t17) w17 (fun t18 w18 =>
 D (F 26 t1 6) w18 (fun t19 w19 =>
 D (L 22 t19) w19 (fun t20 w20 =>
 B Builtin.len #[22] 3 #[false] #[t20] w20 (fun t21 w21 =>
 D (Instr.buildSlice 45 7 #[(0, t8), (1, t10), (2, t12), (3, t14), (4, t16), (5, t18), (6, t21)]) w21 (fun t22 w22 =>
 CallV Tryd.prog t6 #[t22] w22 (fun _ w23 =>
 D (F 26 t1 6) w23 (fun t24 w24 =>
 D (L 22 t24) w24 (fun t25 w25 =>
 B Builtin.len #[22] 3 #[false] #[t25] w25 (fun t26 w26 =>
 LoopE [39] [(I 0)] w26 (fun h27 w27 K27 =>
 D (binS M 3 (T 39) (T 38) (h27 39) t26) w27 (fun t28 w28 =>
 Br t28
(JoinE [] (fun K29 =>
 D (A 22 t25 (h27 39)) w28 (fun t30 w30 =>
 D (L 74 t30) w30 (fun t31 w31 =>
 D (N 74 true (.tuple #[])) w31 (fun t32 w32 =>
 U (S 74 t32 t31) w32 (fun _ w33 =>
 D (F 74 t32 0) w33 (fun t34 w34 =>
 D (F 72 t34 0) w34 (fun t35 w35 =>
 D (L 3 t35) w35 (fun t36 w36 =>
 D (F 74 t32 0) w36 (fun t37 w37 =>
 D (F 72 t37 1) w37 (fun t38 w38 =>
 D (L 3 t38) w38 (fun t39 w39 =>
 D (F 74 t32 1) w39 (fun t40 w40 =>
 D (L 3 t40) w40 (fun t41 w41 =>
 D (Instr.buildSlice 45 3 #[(0, t36), (1, t39), (2, t41)]) w41 (fun t42 w42 =>
 CallV Tryd.prog t6 #[t42] w42 (fun _ w43 =>
 D (F 74 t32 2) w43 (fun t44 w44 =>
 D (L 4 t44) w44 (fun t45 w45 =>
 Br t45
(D (Instr.buildSlice 45 1 #[(0, (I 1))]) w45 (fun t46 w46 =>
 CallV Tryd.prog t6 #[t46] w46 (fun _ w47 =>
 K29 [] w47) X) X)
(D (Instr.buildSlice 45 1 #[(0, (I 0))]) w45 (fun t48 w48 =>
 CallV Tryd.prog t6 #[t48] w48 (fun _ w49 =>
 K29 [] w49) X) X)) X) X) X) X) X) X) X) X) X) X) X) X) X) X) X) X)
(fun _ w50 =>
 D (binS O 3 (T 39) (C (I 1)) (h27 39) (I 1)) w50 (fun t51 w51 =>
 K27 [t51] w51) X))
(D (F 26 t1 7) w28 (fun t52 w52 =>
 D (L 23 t52) w52 (fun t53 w53 =>
 B Builtin.len #[23] 3 #[false] #[t53] w53 (fun t54 w54 =>
 D (Instr.buildSlice 45 1 #[(0, t54)]) w54 (fun t55 w55 =>
 CallV Tryd.prog t6 #[t55] w55 (fun _ w56 =>
 D (F 26 t1 7) w56 (fun t57 w57 =>
 D (L 23 t57) w57 (fun t58 w58 =>
 B Builtin.len #[23] 3 #[false] #[t58] w58 (fun t59 w59 =>
 LoopE [72] [(I 0)] w59 (fun h60 w60 K60 =>
 D (binS M 3 (T 72) (T 71) (h60 72) t59) w60 (fun t61 w61 =>
 Br t61
(D (A 23 t58 (h60 72)) w61 (fun t62 w62 =>
 D (L 33 t62) w62 (fun t63 w63 =>
 D (N 33 true (.tuple #[])) w63 (fun t64 w64 =>
 U (S 33 t64 t63) w64 (fun _ w65 =>
 D (F 33 t64 0) w65 (fun t66 w66 =>
 D (L 3 t66) w66 (fun t67 w67 =>
 D (F 33 t64 1) w67 (fun t68 w68 =>
 D (F 31 t68 0) w68 (fun t69 w69 =>
 D (L 3 t69) w69 (fun t70 w70 =>
 D (F 33 t64 1) w70 (fun t71 w71 =>
 D (F 31 t71 1) w71 (fun t72 w72 =>
 D (L 3 t72) w72 (fun t73 w73 =>
 D (Instr.buildSlice 45 3 #[(0, t67), (1, t70), (2, t73)]) w73 (fun t74 w74 =>
 CallV Tryd.prog t6 #[t74] w74 (fun _ w75 =>
 D (binS O 3 (T 72) (C (I 1)) (h60 72) (I 1)) w75 (fun t76 w76 =>
 K60 [t76] w76) X) X) X) X) X) X) X) X) X) X) X) X) X) X) X)
(D (F 26 t1 8) w61 (fun t77 w77 =>
 D (L 24 t77) w77 (fun t78 w78 =>
 B Builtin.len #[24] 3 #[false] #[t78] w78 (fun t79 w79 =>
 D (Instr.buildSlice 45 1 #[(0, t79)]) w79 (fun t80 w80 =>
 CallV Tryd.prog t6 #[t80] w80 (fun _ w81 =>
 D (F 26 t1 8) w81 (fun t82 w82 =>
 D (L 24 t82) w82 (fun t83 w83 =>
 B Builtin.len #[24] 3 #[false] #[t83] w83 (fun t84 w84 =>
 LoopE [97, 112] [(I 0), undef] w84 (fun h85 w85 K85 =>
 D (binS M 3 (T 97) (T 96) (h85 97) t84) w85 (fun t86 w86 =>
 Br t86
(D (A 24 t83 (h85 97)) w86 (fun t87 w87 =>
 D (L 39 t87) w87 (fun t88 w88 =>
 D (N 39 true (.tuple #[])) w88 (fun t89 w89 =>
 U (S 39 t89 t88) w89 (fun _ w90 =>
 D (F 39 t89 0) w90 (fun t91 w91 =>
 D (L 3 t91) w91 (fun t92 w92 =>
 D (F 39 t89 1) w92 (fun t93 w93 =>
 D (L 37 t93) w93 (fun t94 w94 =>
 B Builtin.len #[37] 3 #[false] #[t94] w94 (fun t95 w95 =>
 D (Instr.buildSlice 45 2 #[(0, t92), (1, t95)]) w95 (fun t96 w96 =>
 CallV Tryd.prog t6 #[t96] w96 (fun _ w97 =>
 D (F 39 t89 1) w97 (fun t98 w98 =>
 D (L 37 t98) w98 (fun t99 w99 =>
 B Builtin.len #[37] 3 #[false] #[t99] w99 (fun t100 w100 =>
 LoopE [112] [(I 0)] w100 (fun h101 w101 K101 =>
 D (binS M 3 (T 112) (T 111) (h101 112) t100) w101 (fun t102 w102 =>
 Br t102
(D (A 37 t99 (h101 112)) w102 (fun t103 w103 =>
 D (L 31 t103) w103 (fun t104 w104 =>
 D (N 31 true (.tuple #[])) w104 (fun t105 w105 =>
 U (S 31 t105 t104) w105 (fun _ w106 =>
 D (F 31 t105 0) w106 (fun t107 w107 =>
 D (L 3 t107) w107 (fun t108 w108 =>
 D (F 31 t105 1) w108 (fun t109 w109 =>
 D (L 3 t109) w109 (fun t110 w110 =>
 D (Instr.buildSlice 45 2 #[(0, t108), (1, t110)]) w110 (fun t111 w111 =>
 CallV Tryd.prog t6 #[t111] w111 (fun _ w112 =>
 D (binS O 3 (T 112) (C (I 1)) (h101 112) (I 1)) w112 (fun t113 w113 =>
 K101 [t113] w113) X) X) X) X) X) X) X) X) X) X) X)
(D (binS O 3 (T 97) (C (I 1)) (h85 97) (I 1)) w102 (fun t114 w114 =>
 K85 [t114, (h101 112)] w114) X)) X)) X) X) X) X) X) X) X) X) X) X) X) X) X) X)
(D (L 45 t5) w86 (fun t115 w115 =>
 Q 32 #[t115] w115 (fun t116 w116 =>
 R (.returned (Value.tuple #[t116, (I 0)])) w116) X) X)) X)) X) X) X) X) X) X) X) X)) X)) X) X) X) X) X) X) X) X)) X)) X) X) X) X) X) X) X) X) X) X) X) X) X) X) X) X) X) X) X) X) X) X)) X) X) X) X)
theorem sh_chart_Digest_ok (v0 : Value) (h : sh_chart_Digest v0 R w) : Calls Tryd.prog 13 #[v0] w R :=
  calls_of_vc (c := Tryd.f13.body.getD .skip) (args := [v0]) [] [39, 72, 97, 112] follows_mixed Tryd.func13 rfl (of_decide_eq_true (by kernel_rfl)) (by kernel_rfl) (Eq.mp (by kernel_rfl) h)
def sh_landfallref15_Valid (v0 : Value) (R : Ending → World → Prop) (w : World) : Prop := 
 letI X := Pan R
 letI D := DoV Tryd.prog
 letI Q := CallF Tryd.prog
 letI I := Value.int IntKind.i64
 letI T := Operand.tmp
 letI L := Instr.loadAt
 letI F := Instr.fieldAt
 letI V := Value.bool
(D (Instr.box 26 v0) w (fun t1 w1 =>
 JoinE [] (fun K2 =>
 JoinE [18] (fun K3 =>
 D (L 26 t1) w1 (fun t4 w4 =>
 Q 33 #[t4] w4 (fun t5 w5 =>
 D (Op.unary UnOp.not t5) w5 (fun t6 w6 =>
 Gd t6 false (D (F 26 t1 7) w6 (fun t7 w7 =>
 D (L 23 t7) w7 (fun t8 w8 =>
 Q 34 #[t8] w8 (fun t9 w9 =>
 D (Op.unary UnOp.not t9) w9 (fun t10 w10 =>
 Gd t10 false (D (F 26 t1 8) w10 (fun t11 w11 =>
 D (L 24 t11) w11 (fun t12 w12 =>
 Q 35 #[t12] w12 (fun t13 w13 =>
 D (Op.unary UnOp.not t13) w13 (fun t14 w14 =>
 K3 [t14] w14) X) X) X) X)
(K3 [(V true)] w10)) X) X) X) X)
(K3 [(V true)] w6)) X) X) X)
(fun h15 w15 =>
 Br (h15 18)
(R (.returned (V false)) w15)
(K2 [] w15)))
(fun _ w16 =>
 LoopE [3] [(I 0)] w16 (fun h17 w17 K17 =>
 D (F 26 t1 6) w17 (fun t18 w18 =>
 D (L 22 t18) w18 (fun t19 w19 =>
 CallB Tryd.prog Builtin.len #[22] 3 #[false] #[t19] w19 (fun t20 w20 =>
 D (binS BinOp.lss 3 (T 19) (T 22) (h17 3) t20) w20 (fun t21 w21 =>
 Br t21
(D (F 26 t1 6) w21 (fun t22 w22 =>
 D (L 22 t22) w22 (fun t23 w23 =>
 D (Instr.indexAt 22 t23 (h17 3)) w23 (fun t24 w24 =>
 D (L 74 t24) w24 (fun t25 w25 =>
 Q 36 #[t25] w25 (fun t26 w26 =>
 D (Op.unary UnOp.not t26) w26 (fun t27 w27 =>
 Br t27
(R (.returned (V false)) w27)
(D (binS BinOp.add 3 (T 24) (Operand.const (I 1)) (h17 3) (I 1)) w27 (fun t28 w28 =>
 K17 [t28] w28) X)) X) X) X) X) X) X)
(R (.returned (V true)) w21)) X) X) X) X))) X)
theorem sh_landfallref15_Valid_ok (v0 : Value) (h : sh_landfallref15_Valid v0 R w) : Calls Tryd.prog 14 #[v0] w R :=
  calls_of_vc (c := Tryd.f14.body.getD .skip) (args := [v0]) [] [3] follows_mixed Tryd.func14 rfl (of_decide_eq_true (by kernel_rfl)) (by kernel_rfl) (Eq.mp (by kernel_rfl) h)
def sh_landfallref15_Same (v0 v1 : Value) (R : Ending → World → Prop) (w : World) : Prop := 
 letI X := Pan R
 letI D := DoV Tryd.prog
 letI Q := CallF Tryd.prog
(D (Instr.box 26 v0) w (fun t1 w1 =>
 D (Instr.box 26 v1) w1 (fun t2 w2 =>
 JointE w2 (fun J3 =>
 JOp J3 0 [] (fun pv3 w4 K4 => D (Instr.loadAt 26 t1) w4 K4 X) ∧
 JOp J3 1 [0] (fun pv3 w5 K5 => Q 12 #[(vl pv3 0)] w5 K5 X) ∧
 JOp J3 2 [] (fun pv3 w6 K6 => D (Instr.loadAt 26 t2) w6 K6 X) ∧
 JEnd J3 3 (fun pv3 w7 =>
 Q 12 #[(vl pv3 2)] w7 (fun t8 w8 =>
 Q 21 #[(vl pv3 1), t8] w8 (fun t9 w9 =>
 R (.returned t9) w9) X) X))) X) X)
theorem sh_landfallref15_Same_ok (v0 v1 : Value) (h : sh_landfallref15_Same v0 v1 R w) : Calls Tryd.prog 15 #[v0, v1] w R :=
  calls_of_vc (c := Tryd.f15.body.getD .skip) (args := [v0, v1]) [(1, 3, false, 999)] [] follows_mixed Tryd.func15 rfl (of_decide_eq_true (by kernel_rfl)) (by kernel_rfl) (Eq.mp (by kernel_rfl) h)
def sh_landfallref03_Place (v0 : Value) (R : Ending → World → Prop) (w : World) : Prop := 
 letI X := Pan R
 letI D := DoV Tryd.prog
 letI I := Value.int IntKind.i64
 letI T := Operand.tmp
 letI C := Operand.const
 letI L := Instr.loadAt
 letI F := Instr.fieldAt
 letI V := Value.bool
(D (Instr.box 31 v0) w (fun t1 w1 =>
 D (F 31 t1 0) w1 (fun t2 w2 =>
 D (L 3 t2) w2 (fun t3 w3 =>
 D (binS BinOp.geq 3 (T 4) (C (I (-500000))) t3 (I (-500000))) w3 (fun t4 w4 =>
 Gd t4 true (D (F 31 t1 0) w4 (fun t5 w5 =>
 D (L 3 t5) w5 (fun t6 w6 =>
 D (binS BinOp.leq 3 (T 8) (C (I 500000)) t6 (I 500000)) w6 (fun t7 w7 =>
 Gd t7 true (D (F 31 t1 1) w7 (fun t8 w8 =>
 D (L 3 t8) w8 (fun t9 w9 =>
 D (binS BinOp.geq 3 (T 13) (C (I (-500000))) t9 (I (-500000))) w9 (fun t10 w10 =>
 Gd t10 true (D (F 31 t1 1) w10 (fun t11 w11 =>
 D (L 3 t11) w11 (fun t12 w12 =>
 D (binS BinOp.leq 3 (T 18) (C (I 500000)) t12 (I 500000)) w12 (fun t13 w13 =>
 R (.returned t13) w13) X) X) X)
(R (.returned (V false)) w10)) X) X) X)
(R (.returned (V false)) w7)) X) X) X)
(R (.returned (V false)) w4)) X) X) X) X)
theorem sh_landfallref03_Place_ok (v0 : Value) (h : sh_landfallref03_Place v0 R w) : Calls Tryd.prog 16 #[v0] w R :=
  calls_of_vc (c := Tryd.f16.body.getD .skip) (args := [v0]) [] [] follows_mixed Tryd.func16 rfl (of_decide_eq_true (by kernel_rfl)) (by kernel_rfl) (Eq.mp (by kernel_rfl) h)
def sh_chart_At (v0 v1 : Value) (R : Ending → World → Prop) (w : World) : Prop := 
 letI X := Pan R
 letI D := DoV Tryd.prog
 letI U := DoU Tryd.prog
 letI Q := CallF Tryd.prog
 letI I := Value.int IntKind.i64
 letI L := Instr.loadAt
 letI S := Instr.storeAt
 letI N := Instr.alloc
 letI V := Value.bool
(D (Instr.box 26 v0) w (fun t1 w1 =>
 D (Instr.box 31 v1) w1 (fun t2 w2 =>
 D (N 3 true (.tuple #[])) w2 (fun t3 w3 =>
 D (N 4 true (.tuple #[])) w3 (fun t4 w4 =>
 D (N 34 true (.tuple #[])) w4 (fun t5 w5 =>
 JoinE [] (fun K6 =>
 JoinE [15] (fun K7 =>
 D (L 26 t1) w5 (fun t8 w8 =>
 Q 22 #[t8] w8 (fun t9 w9 =>
 D (Op.unary UnOp.not t9) w9 (fun t10 w10 =>
 Gd t10 false (D (L 31 t2) w10 (fun t11 w11 =>
 Q 37 #[t11] w11 (fun t12 w12 =>
 D (Op.unary UnOp.not t12) w12 (fun t13 w13 =>
 K7 [t13] w13) X) X) X)
(K7 [(V true)] w10)) X) X) X)
(fun h14 w14 =>
 Br (h14 15)
(U (S 3 t3 (I 0)) w14 (fun _ w15 =>
 U (S 4 t4 (V false)) w15 (fun _ w16 =>
 U (S 34 t5 (I 1)) w16 (fun _ w17 =>
 Res Tryd.prog [.cell t3 3, .cell t4 4, .cell t5 34] w17 R) X) X) X)
(K6 [] w14)))
(fun _ w18 =>
 D (L 26 t1) w18 (fun t19 w19 =>
 D (L 31 t2) w19 (fun t20 w20 =>
 D (L 31 t2) w20 (fun t21 w21 =>
 Q 38 #[t19, t20, t21] w21 (fun t22 w22 =>
 RangeE Tryd.prog t22 1 w22 (fun D23 xs23 w24 J23 =>
(KeepL D23 w24 w24 ∧ ∀ o25,
 U (S 3 t3 (nth xs23 0)) (w24.putObj (D23 + 1) o25) (fun _ w26 =>
 U (S 4 t4 (V true)) w26 (fun _ w27 =>
 U (S 34 t5 (I 0)) w27 (fun _ w28 =>
(KeepL D23 (w24.putObj (D23 + 1) o25) w28 ∧ ∀ o29, J23 .ret (w28.putObj (D23 + 1) o29))) NoX) NoX) NoX))
(fun D30 w31 =>
 U (S 3 t3 (I 0)) w31 (fun _ w32 =>
 U (S 4 t4 (V false)) w32 (fun _ w33 =>
 U (S 34 t5 (I 0)) w33 (fun _ w34 =>
 MarkE D30 w34 (fun w35 => Res Tryd.prog [.cell t3 3, .cell t4 4, .cell t5 34] w35 R)) NoX) NoX) NoX)
(fun D36 w37 =>
 MarkE D36 w37 (fun w38 => Res Tryd.prog [.cell t3 3, .cell t4 4, .cell t5 34] w38 R))
[]) X) X) X) X)) X) X) X) X) X)
theorem sh_chart_At_ok (v0 v1 : Value) (h : sh_chart_At v0 v1 R w) : Calls Tryd.prog 17 #[v0, v1] w R :=
  calls_of_vcM (c := Tryd.f17.body.getD .skip) (args := [v0, v1]) [] [] follows_mixed Tryd.func17 rfl (of_decide_eq_true (by kernel_rfl)) (by kernel_rfl) (Eq.mp (by kernel_rfl) h)
def sh_landfalllaw15_example (R : Ending → World → Prop) (w : World) : Prop := 
 letI X := Pan R
 letI D := DoV Tryd.prog
 letI I := Value.int IntKind.i64
(D (Instr.alloc 26 true (.tuple #[])) w (fun t1 w1 =>
 D (Instr.makeSlice 22 (I 6) (I 6)) w1 (fun t2 w2 =>
 D (Instr.build 31 #[(0, (I 1)), (1, (I 2))]) w2 (fun t3 w3 =>
 D (Instr.build 33 #[(0, (I 7)), (1, t3)]) w3 (fun t4 w4 =>
 D (Instr.buildSlice 23 1 #[(0, t4)]) w4 (fun t5 w5 =>
 D (Instr.build 31 #[(0, (I 0)), (1, (I 0))]) w5 (fun t6 w6 =>
 D (Instr.build 31 #[(0, (I 9)), (1, (I 9))]) w6 (fun t7 w7 =>
 D (Instr.buildSlice 37 2 #[(0, t6), (1, t7)]) w7 (fun t8 w8 =>
 D (Instr.build 39 #[(0, (I 8)), (1, t8)]) w8 (fun t9 w9 =>
 D (Instr.buildSlice 24 1 #[(0, t9)]) w9 (fun t10 w10 =>
 D (Instr.build 26 #[(0, (I 1)), (1, (I 10)), (2, (I 20)), (3, (I 3)), (4, (I 2)), (5, (I 5)), (6, t2), (7, t5), (8, t10)]) w10 (fun t11 w11 =>
 DoU Tryd.prog (Instr.storeAt 26 t1 t11) w11 (fun _ w12 =>
 Res Tryd.prog [.cell t1 26] w12 R) X) X) X) X) X) X) X) X) X) X) X) X)
theorem sh_landfalllaw15_example_ok (h : sh_landfalllaw15_example  R w) : Calls Tryd.prog 18 #[] w R :=
  calls_of_vc (c := Tryd.f18.body.getD .skip) (args := []) [] [] follows_mixed Tryd.func18 rfl (of_decide_eq_true (by kernel_rfl)) (by kernel_rfl) (Eq.mp (by kernel_rfl) h)
def sh_chart_Square (v0 v1 : Value) (R : Ending → World → Prop) (w : World) : Prop := 
 letI X := Pan R
 letI D := DoV Tryd.prog
 letI U := DoU Tryd.prog
 letI I := Value.int IntKind.i64
 letI T := Operand.tmp
 letI C := Operand.const
 letI L := Instr.loadAt
 letI F := Instr.fieldAt
 letI S := Instr.storeAt
 letI O := BinOp.add
(D (Instr.box 26 v0) w (fun t1 w1 =>
 D (Instr.alloc 31 true (.tuple #[])) w1 (fun t2 w2 =>
 D (Instr.alloc 31 true (.tuple #[])) w2 (fun t3 w3 =>
 JoinE [] (fun K4 =>
 JoinE [20] (fun K5 =>
 D (L 26 t1) w3 (fun t6 w6 =>
 CallF Tryd.prog 22 #[t6] w6 (fun t7 w7 =>
 D (Op.unary UnOp.not t7) w7 (fun t8 w8 =>
 Gd t8 false (D (binS BinOp.lss 3 (T 11) (C (I 0)) v1 (I 0)) w8 (fun t9 w9 =>
 Gd t9 false (D (F 26 t1 6) w9 (fun t10 w10 =>
 D (L 22 t10) w10 (fun t11 w11 =>
 CallB Tryd.prog Builtin.len #[22] 3 #[false] #[t11] w11 (fun t12 w12 =>
 D (binS BinOp.geq 3 (T 15) (T 18) v1 t12) w12 (fun t13 w13 =>
 K5 [t13] w13) X) X) X) X)
(K5 [(Value.bool true)] w9)) X)
(K5 [(Value.bool true)] w8)) X) X) X)
(fun h14 w14 =>
 Br (h14 20)
(DrawE w14 (fun Rs15 Rb15 w15 =>
 DetOp Rb15 Rs15 w15 (fun w16 K16 => D (L 31 t2) w16 K16 X) (fun c21_16 ψ16 =>
 DetOp Rb15 Rs15 w15 (fun w17 K17 => D (L 31 t3) w17 K17 X) (fun c22_17 ψ17 =>
 DetOp Rb15 Rs15 w15 (fun w18 K18 => U (S 31 t2 c21_16) w18 K18 X) (fun c_18 ψ18 =>
 ∀ w19, Rb15 w15 w19 → (((True ∧ ψ16 w19) ∧ ψ17 w19) ∧ ψ18 w19) →
 U (S 31 t3 c22_17) w19 (fun _ w20 =>
 Res Tryd.prog [.cell t2 31, .cell t3 31, .tmp (I 1)] w20 R) X)))))
(K4 [] w14)))
(fun _ w21 =>
 DrawE w21 (fun Rs22 Rb22 w22 =>
 DetOp Rb22 Rs22 w22 (fun w23 K23 => D (F 26 t1 1) w23 K23 X) (fun c23_23 ψ23 =>
 DetOp Rb22 Rs22 w22 (fun w24 K24 => D (L 3 c23_23) w24 K24 X) (fun c24_24 ψ24 =>
 DetOp Rb22 Rs22 w22 (fun w25 K25 => D (F 26 t1 3) w25 K25 X) (fun c26_25 ψ25 =>
 DetOp Rb22 Rs22 w22 (fun w26 K26 => D (L 3 c26_25) w26 K26 X) (fun c27_26 ψ26 =>
 DetOp Rb22 Rs22 w22 (fun w27 K27 => D (binS BinOp.rem 3 (T 25) (T 27) v1 c27_26) w27 K27 X) (fun c28_27 ψ27 =>
 DetOp Rb22 Rs22 w22 (fun w28 K28 => D (F 26 t1 5) w28 K28 X) (fun c29_28 ψ28 =>
 DetOp Rb22 Rs22 w22 (fun w29 K29 => D (L 3 c29_28) w29 K29 X) (fun c30_29 ψ29 =>
 DetOp Rb22 Rs22 w22 (fun w30 K30 => D (binS BinOp.mul 3 (T 28) (T 30) c28_27 c30_29) w30 K30 X) (fun c31_30 ψ30 =>
 DetOp Rb22 Rs22 w22 (fun w31 K31 => D (binS O 3 (T 24) (T 31) c24_24 c31_30) w31 K31 X) (fun c32_31 ψ31 =>
 DetOp Rb22 Rs22 w22 (fun w32 K32 => D (F 26 t1 2) w32 K32 X) (fun c33_32 ψ32 =>
 DetOp Rb22 Rs22 w22 (fun w33 K33 => D (L 3 c33_32) w33 K33 X) (fun c34_33 ψ33 =>
 DetOp Rb22 Rs22 w22 (fun w34 K34 => D (F 26 t1 3) w34 K34 X) (fun c36_34 ψ34 =>
 DetOp Rb22 Rs22 w22 (fun w35 K35 => D (L 3 c36_34) w35 K35 X) (fun c37_35 ψ35 =>
 DetOp Rb22 Rs22 w22 (fun w36 K36 => D (binS BinOp.quo 3 (T 35) (T 37) v1 c37_35) w36 K36 X) (fun c38_36 ψ36 =>
 DetOp Rb22 Rs22 w22 (fun w37 K37 => D (F 26 t1 5) w37 K37 X) (fun c39_37 ψ37 =>
 DetOp Rb22 Rs22 w22 (fun w38 K38 => D (L 3 c39_37) w38 K38 X) (fun c40_38 ψ38 =>
 DetOp Rb22 Rs22 w22 (fun w39 K39 => D (binS BinOp.mul 3 (T 38) (T 40) c38_36 c40_38) w39 K39 X) (fun c41_39 ψ39 =>
 DetOp Rb22 Rs22 w22 (fun w40 K40 => D (binS O 3 (T 34) (T 41) c34_33 c41_39) w40 K40 X) (fun c42_40 ψ40 =>
 ∀ w41, Rb22 w22 w41 → ((((((((((((((((((True ∧ ψ23 w41) ∧ ψ24 w41) ∧ ψ25 w41) ∧ ψ26 w41) ∧ ψ27 w41) ∧ ψ28 w41) ∧ ψ29 w41) ∧ ψ30 w41) ∧ ψ31 w41) ∧ ψ32 w41) ∧ ψ33 w41) ∧ ψ34 w41) ∧ ψ35 w41) ∧ ψ36 w41) ∧ ψ37 w41) ∧ ψ38 w41) ∧ ψ39 w41) ∧ ψ40 w41) →
 D (Instr.build 31 #[(0, c32_31), (1, c42_40)]) w41 (fun t42 w42 =>
 U (S 31 t2 t42) w42 (fun _ w43 =>
 DrawE w43 (fun Rs44 Rb44 w44 =>
 DetOp Rb44 Rs44 w44 (fun w45 K45 => D (L 31 t2) w45 K45 X) (fun c44_45 ψ45 =>
 DetOp Rb44 Rs44 w44 (fun w46 K46 => D (F 31 t2 0) w46 K46 X) (fun c45_46 ψ46 =>
 DetOp Rb44 Rs44 w44 (fun w47 K47 => D (L 3 c45_46) w47 K47 X) (fun c46_47 ψ47 =>
 DetOp Rb44 Rs44 w44 (fun w48 K48 => D (F 26 t1 5) w48 K48 X) (fun c47_48 ψ48 =>
 DetOp Rb44 Rs44 w44 (fun w49 K49 => D (L 3 c47_48) w49 K49 X) (fun c48_49 ψ49 =>
 DetOp Rb44 Rs44 w44 (fun w50 K50 => D (binS O 3 (T 46) (T 48) c46_47 c48_49) w50 K50 X) (fun c49_50 ψ50 =>
 DetOp Rb44 Rs44 w44 (fun w51 K51 => D (binS BinOp.sub 3 (T 49) (C (I 1)) c49_50 (I 1)) w51 K51 X) (fun c50_51 ψ51 =>
 DetOp Rb44 Rs44 w44 (fun w52 K52 => D (F 31 t2 1) w52 K52 X) (fun c51_52 ψ52 =>
 DetOp Rb44 Rs44 w44 (fun w53 K53 => D (L 3 c51_52) w53 K53 X) (fun c52_53 ψ53 =>
 DetOp Rb44 Rs44 w44 (fun w54 K54 => D (F 26 t1 5) w54 K54 X) (fun c53_54 ψ54 =>
 DetOp Rb44 Rs44 w44 (fun w55 K55 => D (L 3 c53_54) w55 K55 X) (fun c54_55 ψ55 =>
 DetOp Rb44 Rs44 w44 (fun w56 K56 => D (binS O 3 (T 52) (T 54) c52_53 c54_55) w56 K56 X) (fun c55_56 ψ56 =>
 DetOp Rb44 Rs44 w44 (fun w57 K57 => D (binS BinOp.sub 3 (T 55) (C (I 1)) c55_56 (I 1)) w57 K57 X) (fun c56_57 ψ57 =>
 DetOp Rb44 Rs44 w44 (fun w58 K58 => D (Instr.build 31 #[(0, c50_51), (1, c56_57)]) w58 K58 X) (fun c57_58 ψ58 =>
 DetOp Rb44 Rs44 w44 (fun w59 K59 => U (S 31 t2 c44_45) w59 K59 X) (fun c_59 ψ59 =>
 ∀ w60, Rb44 w44 w60 → (((((((((((((((True ∧ ψ45 w60) ∧ ψ46 w60) ∧ ψ47 w60) ∧ ψ48 w60) ∧ ψ49 w60) ∧ ψ50 w60) ∧ ψ51 w60) ∧ ψ52 w60) ∧ ψ53 w60) ∧ ψ54 w60) ∧ ψ55 w60) ∧ ψ56 w60) ∧ ψ57 w60) ∧ ψ58 w60) ∧ ψ59 w60) →
 U (S 31 t3 c57_58) w60 (fun _ w61 =>
 Res Tryd.prog [.cell t2 31, .cell t3 31, .tmp (I 0)] w61 R) X))))))))))))))))) X) X))))))))))))))))))))) X) X) X)
theorem sh_chart_Square_ok (v0 v1 : Value) (h : sh_chart_Square v0 v1 R w) : Calls Tryd.prog 19 #[v0, v1] w R :=
  calls_of_vc (c := Tryd.f19.body.getD .skip) (args := [v0, v1]) [(2, 3, false, 0), (3, 20, false, 0), (4, 15, false, 0)] [] follows_mixed Tryd.func19 rfl (of_decide_eq_true (by kernel_rfl)) (by kernel_rfl) (Eq.mp (by kernel_rfl) h)
def sh_chart_Touched (v0 v1 v2 : Value) (R : Ending → World → Prop) (w : World) : Prop := 
 letI X := Pan R
 letI D := DoV Tryd.prog
 letI Q := CallF Tryd.prog
 letI I := Value.int IntKind.i64
 letI T := Operand.tmp
 letI L := Instr.loadAt
 letI F := Instr.fieldAt
 letI V := Value.bool
(D (Instr.box 26 v0) w (fun t1 w1 =>
 D (Instr.box 31 v1) w1 (fun t2 w2 =>
 D (Instr.box 31 v2) w2 (fun t3 w3 =>
 JoinE [6, 7] (fun K4 =>
 JoinE [36] (fun K5 =>
 D (L 26 t1) w3 (fun t6 w6 =>
 Q 22 #[t6] w6 (fun t7 w7 =>
 D (Op.unary UnOp.not t7) w7 (fun t8 w8 =>
 Gd t8 false (D (L 31 t2) w8 (fun t9 w9 =>
 Q 37 #[t9] w9 (fun t10 w10 =>
 D (Op.unary UnOp.not t10) w10 (fun t11 w11 =>
 Gd t11 false (D (L 31 t3) w11 (fun t12 w12 =>
 Q 37 #[t12] w12 (fun t13 w13 =>
 D (Op.unary UnOp.not t13) w13 (fun t14 w14 =>
 Gd t14 false (D (F 31 t2 0) w14 (fun t15 w15 =>
 D (L 3 t15) w15 (fun t16 w16 =>
 D (F 31 t3 0) w16 (fun t17 w17 =>
 D (L 3 t17) w17 (fun t18 w18 =>
 D (binS BinOp.gtr 3 (T 25) (T 27) t16 t18) w18 (fun t19 w19 =>
 Gd t19 false (D (F 31 t2 1) w19 (fun t20 w20 =>
 D (L 3 t20) w20 (fun t21 w21 =>
 D (F 31 t3 1) w21 (fun t22 w22 =>
 D (L 3 t22) w22 (fun t23 w23 =>
 D (binS BinOp.gtr 3 (T 32) (T 34) t21 t23) w23 (fun t24 w24 =>
 K5 [t24] w24) X) X) X) X) X)
(K5 [(V true)] w19)) X) X) X) X) X)
(K5 [(V true)] w14)) X) X) X)
(K5 [(V true)] w11)) X) X) X)
(K5 [(V true)] w8)) X) X) X)
(fun h25 w25 =>
 Br (h25 36)
(R (.returned (Value.tuple #[(Value.slice none 0 0), (I 1)])) w25)
(K4 [(Value.slice none 0 0), (I 0)] w25)))
(fun h26 w26 =>
 D (Instr.alloc 45 true (.tuple #[])) w26 (fun t27 w27 =>
 D (L 26 t1) w27 (fun t28 w28 =>
 D (L 31 t2) w28 (fun t29 w29 =>
 D (L 31 t3) w29 (fun t30 w30 =>
 Q 38 #[t28, t29, t30] w30 (fun t31 w31 =>
 RangeE Tryd.prog t31 1 w31 (fun D32 xs32 w33 J32 =>
(KeepL D32 w33 w33 ∧ ∀ o34,
 D (L 45 t27) (w33.putObj (D32 + 1) o34) (fun t35 w35 =>
 D (Instr.buildSlice 45 1 #[(0, (nth xs32 0))]) w35 (fun t36 w36 =>
 CallB Tryd.prog Builtin.append #[45, 45] 45 #[false, false] #[t35, t36] w36 (fun t37 w37 =>
 DoU Tryd.prog (Instr.storeAt 45 t27 t37) w37 (fun _ w38 =>
(KeepL D32 (w33.putObj (D32 + 1) o34) w38 ∧ ∀ o39, J32 .normal (w38.putObj (D32 + 1) o39))) NoX) NoX) NoX) NoX))
(fun D40 w41 =>
 D (L 45 t27) w41 (fun t42 w42 =>
 MarkE D40 w42 (fun w43 => R (.returned (Value.tuple #[t42, (I 0)])) w43)) NoX)
(fun D44 w45 =>
 MarkE D44 w45 (fun w46 => R (.returned (Value.tuple #[(h26 6), (h26 7)])) w46))
[]) X) X) X) X) X)) X) X) X)
theorem sh_chart_Touched_ok (v0 v1 v2 : Value) (h : sh_chart_Touched v0 v1 v2 R w) : Calls Tryd.prog 20 #[v0, v1, v2] w R :=
  calls_of_vcM (c := Tryd.f20.body.getD .skip) (args := [v0, v1, v2]) [] [6, 7] follows_mixed Tryd.func20 rfl (of_decide_eq_true (by kernel_rfl)) (by kernel_rfl) (Eq.mp (by kernel_rfl) h)
def sh_landfallref15_SameInts (v0 v1 : Value) (R : Ending → World → Prop) (w : World) : Prop := 
 letI X := Pan R
 letI D := DoV Tryd.prog
 letI B := CallB Tryd.prog
 letI I := Value.int IntKind.i64
 letI T := Operand.tmp
 letI V := Value.bool
(B Builtin.len #[45] 3 #[false] #[v0] w (fun t1 w1 =>
 B Builtin.len #[45] 3 #[false] #[v1] w1 (fun t2 w2 =>
 D (binS BinOp.neq 3 (T 7) (T 9) t1 t2) w2 (fun t3 w3 =>
 Br t3
(R (.returned (V false)) w3)
(LoopE [5] [(I 0)] w3 (fun h4 w4 K4 =>
 B Builtin.len #[45] 3 #[false] #[v0] w4 (fun t5 w5 =>
 D (binS BinOp.lss 3 (T 11) (T 13) (h4 5) t5) w5 (fun t6 w6 =>
 Br t6
(DrawE w6 (fun Rs7 Rb7 w7 =>
 DetOp Rb7 Rs7 w7 (fun w8 K8 => D (Instr.indexAt 45 v0 (h4 5)) w8 K8 X) (fun c19_8 ψ8 =>
 DetOp Rb7 Rs7 w7 (fun w9 K9 => D (Instr.loadAt 3 c19_8) w9 K9 X) (fun c20_9 ψ9 =>
 DetOp Rb7 Rs7 w7 (fun w10 K10 => D (Instr.indexAt 45 v1 (h4 5)) w10 K10 X) (fun c23_10 ψ10 =>
 DetOp Rb7 Rs7 w7 (fun w11 K11 => D (Instr.loadAt 3 c23_10) w11 K11 X) (fun c24_11 ψ11 =>
 ∀ w12, Rb7 w7 w12 → ((((True ∧ ψ8 w12) ∧ ψ9 w12) ∧ ψ10 w12) ∧ ψ11 w12) →
 D (binS BinOp.neq 3 (T 20) (T 24) c20_9 c24_11) w12 (fun t13 w13 =>
 Br t13
(R (.returned (V false)) w13)
(D (binS BinOp.add 3 (T 15) (Operand.const (I 1)) (h4 5) (I 1)) w13 (fun t14 w14 =>
 K4 [t14] w14) X)) X))))))
(R (.returned (V true)) w6)) X) X))) X) X) X)
theorem sh_landfallref15_SameInts_ok (v0 v1 : Value) (h : sh_landfallref15_SameInts v0 v1 R w) : Calls Tryd.prog 21 #[v0, v1] w R :=
  calls_of_vc (c := Tryd.f21.body.getD .skip) (args := [v0, v1]) [(6, 8, false, 0)] [5] follows_mixed Tryd.func21 rfl (of_decide_eq_true (by kernel_rfl)) (by kernel_rfl) (Eq.mp (by kernel_rfl) h)
def sh_chart_Valid (v0 : Value) (R : Ending → World → Prop) (w : World) : Prop := 
 letI X := Pan R
 letI D := DoV Tryd.prog
 letI Q := CallF Tryd.prog
 letI B := CallB Tryd.prog
 letI I := Value.int IntKind.i64
 letI T := Operand.tmp
 letI C := Operand.const
 letI L := Instr.loadAt
 letI F := Instr.fieldAt
 letI V := Value.bool
 letI M := BinOp.lss
(D (Instr.box 26 v0) w (fun t1 w1 =>
 JoinE [] (fun K2 =>
 JoinE [54] (fun K3 =>
 D (F 26 t1 0) w1 (fun t4 w4 =>
 D (L 3 t4) w4 (fun t5 w5 =>
 Q 39 #[t5] w5 (fun t6 w6 =>
 D (Op.unary UnOp.not t6) w6 (fun t7 w7 =>
 Gd t7 false (D (F 26 t1 3) w7 (fun t8 w8 =>
 D (L 3 t8) w8 (fun t9 w9 =>
 D (binS M 3 (T 10) (C (I 1)) t9 (I 1)) w9 (fun t10 w10 =>
 Gd t10 false (D (F 26 t1 4) w10 (fun t11 w11 =>
 D (L 3 t11) w11 (fun t12 w12 =>
 D (binS M 3 (T 15) (C (I 1)) t12 (I 1)) w12 (fun t13 w13 =>
 Gd t13 false (D (F 26 t1 3) w13 (fun t14 w14 =>
 D (L 3 t14) w14 (fun t15 w15 =>
 D (binS BinOp.gtr 3 (T 20) (C (I 4000)) t15 (I 4000)) w15 (fun t16 w16 =>
 Gd t16 false (D (F 26 t1 4) w16 (fun t17 w17 =>
 D (L 3 t17) w17 (fun t18 w18 =>
 D (binS BinOp.gtr 3 (T 25) (C (I 4000)) t18 (I 4000)) w18 (fun t19 w19 =>
 Gd t19 false (D (F 26 t1 3) w19 (fun t20 w20 =>
 D (L 3 t20) w20 (fun t21 w21 =>
 D (F 26 t1 4) w21 (fun t22 w22 =>
 D (L 3 t22) w22 (fun t23 w23 =>
 D (binS BinOp.mul 3 (T 30) (T 32) t21 t23) w23 (fun t24 w24 =>
 D (F 26 t1 6) w24 (fun t25 w25 =>
 D (L 22 t25) w25 (fun t26 w26 =>
 B Builtin.len #[22] 3 #[false] #[t26] w26 (fun t27 w27 =>
 D (binS BinOp.neq 3 (T 33) (T 36) t24 t27) w27 (fun t28 w28 =>
 Gd t28 false (D (F 26 t1 6) w28 (fun t29 w29 =>
 D (L 22 t29) w29 (fun t30 w30 =>
 B Builtin.len #[22] 3 #[false] #[t30] w30 (fun t31 w31 =>
 D (binS BinOp.gtr 3 (T 42) (C (I 4000)) t31 (I 4000)) w31 (fun t32 w32 =>
 Gd t32 false (D (F 26 t1 5) w32 (fun t33 w33 =>
 D (L 3 t33) w33 (fun t34 w34 =>
 D (binS M 3 (T 47) (C (I 1)) t34 (I 1)) w34 (fun t35 w35 =>
 Gd t35 false (D (F 26 t1 5) w35 (fun t36 w36 =>
 D (L 3 t36) w36 (fun t37 w37 =>
 D (binS BinOp.gtr 3 (T 52) (C (I 10000)) t37 (I 10000)) w37 (fun t38 w38 =>
 K3 [t38] w38) X) X) X)
(K3 [(V true)] w35)) X) X) X)
(K3 [(V true)] w32)) X) X) X) X)
(K3 [(V true)] w28)) X) X) X) X) X) X) X) X) X)
(K3 [(V true)] w19)) X) X) X)
(K3 [(V true)] w16)) X) X) X)
(K3 [(V true)] w13)) X) X) X)
(K3 [(V true)] w10)) X) X) X)
(K3 [(V true)] w7)) X) X) X) X)
(fun h39 w39 =>
 Br (h39 54)
(R (.returned (V false)) w39)
(K2 [] w39)))
(fun _ w40 =>
 JoinE [] (fun K41 =>
 JoinE [84] (fun K42 =>
 D (F 26 t1 1) w40 (fun t43 w43 =>
 D (L 3 t43) w43 (fun t44 w44 =>
 D (F 26 t1 2) w44 (fun t45 w45 =>
 D (L 3 t45) w45 (fun t46 w46 =>
 D (Instr.build 31 #[(0, t44), (1, t46)]) w46 (fun t47 w47 =>
 Q 37 #[t47] w47 (fun t48 w48 =>
 D (Op.unary UnOp.not t48) w48 (fun t49 w49 =>
 Gd t49 false (D (F 26 t1 1) w49 (fun t50 w50 =>
 D (L 3 t50) w50 (fun t51 w51 =>
 D (F 26 t1 3) w51 (fun t52 w52 =>
 D (L 3 t52) w52 (fun t53 w53 =>
 D (F 26 t1 5) w53 (fun t54 w54 =>
 D (L 3 t54) w54 (fun t55 w55 =>
 D (binS BinOp.mul 3 (T 66) (T 68) t53 t55) w55 (fun t56 w56 =>
 D (binS BinOp.add 3 (T 64) (T 69) t51 t56) w56 (fun t57 w57 =>
 D (binS BinOp.sub 3 (T 70) (C (I 1)) t57 (I 1)) w57 (fun t58 w58 =>
 D (F 26 t1 2) w58 (fun t59 w59 =>
 D (L 3 t59) w59 (fun t60 w60 =>
 D (F 26 t1 4) w60 (fun t61 w61 =>
 D (L 3 t61) w61 (fun t62 w62 =>
 D (F 26 t1 5) w62 (fun t63 w63 =>
 D (L 3 t63) w63 (fun t64 w64 =>
 D (binS BinOp.mul 3 (T 75) (T 77) t62 t64) w64 (fun t65 w65 =>
 D (binS BinOp.add 3 (T 73) (T 78) t60 t65) w65 (fun t66 w66 =>
 D (binS BinOp.sub 3 (T 79) (C (I 1)) t66 (I 1)) w66 (fun t67 w67 =>
 D (Instr.build 31 #[(0, t58), (1, t67)]) w67 (fun t68 w68 =>
 Q 37 #[t68] w68 (fun t69 w69 =>
 D (Op.unary UnOp.not t69) w69 (fun t70 w70 =>
 K42 [t70] w70) X) X) X) X) X) X) X) X) X) X) X) X) X) X) X) X) X) X) X) X) X)
(K42 [(V true)] w49)) X) X) X) X) X) X) X)
(fun h71 w71 =>
 Br (h71 84)
(R (.returned (V false)) w71)
(K41 [] w71)))
(fun _ w72 =>
 D (F 26 t1 6) w72 (fun t73 w73 =>
 D (L 22 t73) w73 (fun t74 w74 =>
 Q 40 #[t74, (Value.func (Fn.func 41) #[] #[])] w74 (fun t75 w75 =>
 Br t75
(R (.returned (V false)) w75)
(D (F 26 t1 7) w75 (fun t76 w76 =>
 D (L 23 t76) w76 (fun t77 w77 =>
 Q 44 #[t77, (I 100), (Value.func (Fn.func 43) #[] #[]), (Value.func (Fn.func 25) #[] #[])] w77 (fun t78 w78 =>
 Gd t78 true (D (F 26 t1 8) w78 (fun t79 w79 =>
 D (L 24 t79) w79 (fun t80 w80 =>
 Q 45 #[t80, (I 50), (Value.func (Fn.func 46) #[] #[]), (Value.func (Fn.func 27) #[] #[])] w80 (fun t81 w81 =>
 R (.returned t81) w81) X) X) X)
(R (.returned (V false)) w78)) X) X) X)) X) X) X))) X)
theorem sh_chart_Valid_ok (v0 : Value) (h : sh_chart_Valid v0 R w) : Calls Tryd.prog 22 #[v0] w R :=
  calls_of_vc (c := Tryd.f22.body.getD .skip) (args := [v0]) [] [] follows_mixed Tryd.func22 rfl (of_decide_eq_true (by kernel_rfl)) (by kernel_rfl) (Eq.mp (by kernel_rfl) h)
def sh_landfallref15_Few (v0 : Value) (R : Ending → World → Prop) (w : World) : Prop := 
 letI X := Pan R
 letI D := DoV Tryd.prog
 letI B := CallB Tryd.prog
 letI I := Value.int IntKind.i64
 letI T := Operand.tmp
 letI C := Operand.const
 letI L := Instr.loadAt
 letI F := Instr.fieldAt
 letI V := Value.bool
(D (Instr.box 26 v0) w (fun t1 w1 =>
 LoopE [3] [(I 0)] w1 (fun h2 w2 K2 =>
 JoinE [] (fun K3 =>
 D (F 26 t1 8) w2 (fun t4 w4 =>
 D (L 24 t4) w4 (fun t5 w5 =>
 B Builtin.len #[24] 3 #[false] #[t5] w5 (fun t6 w6 =>
 D (binS BinOp.lss 3 (T 4) (T 7) (h2 3) t6) w6 (fun t7 w7 =>
 Gd t7 true (D (binS BinOp.lss 3 (T 10) (C (I 10)) (h2 3) (I 10)) w7 (fun t8 w8 =>
 Br t8
(K3 [] w8)
(D (F 26 t1 6) w8 (fun t9 w9 =>
 D (L 22 t9) w9 (fun t10 w10 =>
 B Builtin.len #[22] 3 #[false] #[t10] w10 (fun t11 w11 =>
 D (binS BinOp.leq 3 (T 25) (C (I 64)) t11 (I 64)) w11 (fun t12 w12 =>
 Gd t12 true (D (F 26 t1 7) w12 (fun t13 w13 =>
 D (L 23 t13) w13 (fun t14 w14 =>
 B Builtin.len #[23] 3 #[false] #[t14] w14 (fun t15 w15 =>
 D (binS BinOp.leq 3 (T 30) (C (I 20)) t15 (I 20)) w15 (fun t16 w16 =>
 Gd t16 true (D (F 26 t1 8) w16 (fun t17 w17 =>
 D (L 24 t17) w17 (fun t18 w18 =>
 B Builtin.len #[24] 3 #[false] #[t18] w18 (fun t19 w19 =>
 D (binS BinOp.leq 3 (T 36) (C (I 10)) t19 (I 10)) w19 (fun t20 w20 =>
 R (.returned t20) w20) X) X) X) X)
(R (.returned (V false)) w16)) X) X) X) X)
(R (.returned (V false)) w12)) X) X) X) X)) X)
(D (F 26 t1 6) w7 (fun t21 w21 =>
 D (L 22 t21) w21 (fun t22 w22 =>
 B Builtin.len #[22] 3 #[false] #[t22] w22 (fun t23 w23 =>
 D (binS BinOp.leq 3 (T 25) (C (I 64)) t23 (I 64)) w23 (fun t24 w24 =>
 Gd t24 true (D (F 26 t1 7) w24 (fun t25 w25 =>
 D (L 23 t25) w25 (fun t26 w26 =>
 B Builtin.len #[23] 3 #[false] #[t26] w26 (fun t27 w27 =>
 D (binS BinOp.leq 3 (T 30) (C (I 20)) t27 (I 20)) w27 (fun t28 w28 =>
 Gd t28 true (D (F 26 t1 8) w28 (fun t29 w29 =>
 D (L 24 t29) w29 (fun t30 w30 =>
 B Builtin.len #[24] 3 #[false] #[t30] w30 (fun t31 w31 =>
 D (binS BinOp.leq 3 (T 36) (C (I 10)) t31 (I 10)) w31 (fun t32 w32 =>
 R (.returned t32) w32) X) X) X) X)
(R (.returned (V false)) w28)) X) X) X) X)
(R (.returned (V false)) w24)) X) X) X) X)) X) X) X) X)
(fun _ w33 =>
 D (F 26 t1 8) w33 (fun t34 w34 =>
 D (L 24 t34) w34 (fun t35 w35 =>
 D (Instr.indexAt 24 t35 (h2 3)) w35 (fun t36 w36 =>
 D (F 39 t36 1) w36 (fun t37 w37 =>
 D (L 37 t37) w37 (fun t38 w38 =>
 B Builtin.len #[37] 3 #[false] #[t38] w38 (fun t39 w39 =>
 D (binS BinOp.gtr 3 (T 21) (C (I 20)) t39 (I 20)) w39 (fun t40 w40 =>
 Br t40
(R (.returned (V false)) w40)
(D (binS BinOp.add 3 (T 13) (C (I 1)) (h2 3) (I 1)) w40 (fun t41 w41 =>
 K2 [t41] w41) X)) X) X) X) X) X) X) X))) X)
theorem sh_landfallref15_Few_ok (v0 : Value) (h : sh_landfallref15_Few v0 R w) : Calls Tryd.prog 23 #[v0] w R :=
  calls_of_vc (c := Tryd.f23.body.getD .skip) (args := [v0]) [] [3] follows_mixed Tryd.func23 rfl (of_decide_eq_true (by kernel_rfl)) (by kernel_rfl) (Eq.mp (by kernel_rfl) h)
def sh_chart_named_api_Beacon_ (v0 v1 v2 : Value) (R : Ending → World → Prop) (w : World) : Prop := 
 letI X := Pan R
 letI D := DoV Tryd.prog
 letI U := DoU Tryd.prog
 letI I := Value.int IntKind.i64
 letI T := Operand.tmp
 letI L := Instr.loadAt
 letI S := Instr.storeAt
 letI N := Instr.alloc
(D (N 33 true (.tuple #[])) w (fun t1 w1 =>
 CallB Tryd.prog Builtin.len #[23] 3 #[false] #[v0] w1 (fun t2 w2 =>
 LoopE [13] [(I 0)] w2 (fun h3 w3 K3 =>
 D (binS BinOp.lss 3 (T 13) (T 12) (h3 13) t2) w3 (fun t4 w4 =>
 Br t4
(D (Instr.indexAt 23 v0 (h3 13)) w4 (fun t5 w5 =>
 D (L 33 t5) w5 (fun t6 w6 =>
 D (N 33 true (.tuple #[])) w6 (fun t7 w7 =>
 U (S 33 t7 t6) w7 (fun _ w8 =>
 D (L 33 t7) w8 (fun t9 w9 =>
 CallV Tryd.prog v2 #[t9] w9 (fun t10 w10 =>
 D (binS BinOp.eql 3 (T 19) (T 20) t10 v1) w10 (fun t11 w11 =>
 Br t11
(D (L 33 t7) w11 (fun t12 w12 =>
 U (S 33 t1 t12) w12 (fun _ w13 =>
 Res Tryd.prog [.cell t1 33, .tmp (Value.bool true)] w13 R) X) X)
(D (binS BinOp.add 3 (T 13) (Operand.const (I 1)) (h3 13) (I 1)) w11 (fun t14 w14 =>
 K3 [t14] w14) X)) X) X) X) X) X) X) X)
(D (N 33 true (.tuple #[])) w4 (fun t15 w15 =>
 D (L 33 t15) w15 (fun t16 w16 =>
 U (S 33 t1 t16) w16 (fun _ w17 =>
 Res Tryd.prog [.cell t1 33, .tmp (Value.bool false)] w17 R) X) X) X)) X)) X) X)
theorem sh_chart_named_api_Beacon__ok (v0 v1 v2 : Value) (h : sh_chart_named_api_Beacon_ v0 v1 v2 R w) : Calls Tryd.prog 24 #[v0, v1, v2] w R :=
  calls_of_vc (c := Tryd.f24.body.getD .skip) (args := [v0, v1, v2]) [] [13] follows_mixed Tryd.func24 rfl (of_decide_eq_true (by kernel_rfl)) (by kernel_rfl) (Eq.mp (by kernel_rfl) h)
def sh_chart_beaconID (v0 : Value) (R : Ending → World → Prop) (w : World) : Prop := 
 letI X := Pan R
 letI D := DoV Tryd.prog
(D (Instr.box 33 v0) w (fun t1 w1 =>
 D (Instr.fieldAt 33 t1 0) w1 (fun t2 w2 =>
 D (Instr.loadAt 3 t2) w2 (fun t3 w3 =>
 R (.returned t3) w3) X) X) X)
theorem sh_chart_beaconID_ok (v0 : Value) (h : sh_chart_beaconID v0 R w) : Calls Tryd.prog 25 #[v0] w R :=
  calls_of_vc (c := Tryd.f25.body.getD .skip) (args := [v0]) [] [] follows_mixed Tryd.func25 rfl (of_decide_eq_true (by kernel_rfl)) (by kernel_rfl) (Eq.mp (by kernel_rfl) h)
def sh_chart_named_api_Line_ (v0 v1 v2 : Value) (R : Ending → World → Prop) (w : World) : Prop := 
 letI X := Pan R
 letI D := DoV Tryd.prog
 letI U := DoU Tryd.prog
 letI I := Value.int IntKind.i64
 letI T := Operand.tmp
 letI L := Instr.loadAt
 letI S := Instr.storeAt
 letI N := Instr.alloc
(D (N 39 true (.tuple #[])) w (fun t1 w1 =>
 CallB Tryd.prog Builtin.len #[24] 3 #[false] #[v0] w1 (fun t2 w2 =>
 LoopE [13] [(I 0)] w2 (fun h3 w3 K3 =>
 D (binS BinOp.lss 3 (T 13) (T 12) (h3 13) t2) w3 (fun t4 w4 =>
 Br t4
(D (Instr.indexAt 24 v0 (h3 13)) w4 (fun t5 w5 =>
 D (L 39 t5) w5 (fun t6 w6 =>
 D (N 39 true (.tuple #[])) w6 (fun t7 w7 =>
 U (S 39 t7 t6) w7 (fun _ w8 =>
 D (L 39 t7) w8 (fun t9 w9 =>
 CallV Tryd.prog v2 #[t9] w9 (fun t10 w10 =>
 D (binS BinOp.eql 3 (T 19) (T 20) t10 v1) w10 (fun t11 w11 =>
 Br t11
(D (L 39 t7) w11 (fun t12 w12 =>
 U (S 39 t1 t12) w12 (fun _ w13 =>
 Res Tryd.prog [.cell t1 39, .tmp (Value.bool true)] w13 R) X) X)
(D (binS BinOp.add 3 (T 13) (Operand.const (I 1)) (h3 13) (I 1)) w11 (fun t14 w14 =>
 K3 [t14] w14) X)) X) X) X) X) X) X) X)
(D (N 39 true (.tuple #[])) w4 (fun t15 w15 =>
 D (L 39 t15) w15 (fun t16 w16 =>
 U (S 39 t1 t16) w16 (fun _ w17 =>
 Res Tryd.prog [.cell t1 39, .tmp (Value.bool false)] w17 R) X) X) X)) X)) X) X)
theorem sh_chart_named_api_Line__ok (v0 v1 v2 : Value) (h : sh_chart_named_api_Line_ v0 v1 v2 R w) : Calls Tryd.prog 26 #[v0, v1, v2] w R :=
  calls_of_vc (c := Tryd.f26.body.getD .skip) (args := [v0, v1, v2]) [] [13] follows_mixed Tryd.func26 rfl (of_decide_eq_true (by kernel_rfl)) (by kernel_rfl) (Eq.mp (by kernel_rfl) h)
def sh_chart_lineID (v0 : Value) (R : Ending → World → Prop) (w : World) : Prop := 
 letI X := Pan R
 letI D := DoV Tryd.prog
(D (Instr.box 39 v0) w (fun t1 w1 =>
 D (Instr.fieldAt 39 t1 0) w1 (fun t2 w2 =>
 D (Instr.loadAt 3 t2) w2 (fun t3 w3 =>
 R (.returned t3) w3) X) X) X)
theorem sh_chart_lineID_ok (v0 : Value) (h : sh_chart_lineID v0 R w) : Calls Tryd.prog 27 #[v0] w R :=
  calls_of_vc (c := Tryd.f27.body.getD .skip) (args := [v0]) [] [] follows_mixed Tryd.func27 rfl (of_decide_eq_true (by kernel_rfl)) (by kernel_rfl) (Eq.mp (by kernel_rfl) h)
def sh_slices_Clone___api_Point_api_Point_ (v0 : Value) (R : Ending → World → Prop) (w : World) : Prop := 
 letI X := Pan R
(DoV Tryd.prog (binS BinOp.eql 37 (Operand.tmp 3) (Operand.const (Value.slice none 0 0)) v0 (Value.slice none 0 0)) w (fun t1 w1 =>
 Br t1
(R (.returned (Value.slice none 0 0)) w1)
(DoV Tryd.prog (Instr.buildSlice 37 0 #[]) w1 (fun t2 w2 =>
 CallB Tryd.prog Builtin.append #[37, 37] 37 #[false, false] #[t2, v0] w2 (fun t3 w3 =>
 R (.returned t3) w3) X) X)) X)
theorem sh_slices_Clone___api_Point_api_Point__ok (v0 : Value) (h : sh_slices_Clone___api_Point_api_Point_ v0 R w) : Calls Tryd.prog 28 #[v0] w R :=
  calls_of_vc (c := Tryd.f28.body.getD .skip) (args := [v0]) [] [] follows_mixed Tryd.func28 rfl (of_decide_eq_true (by kernel_rfl)) (by kernel_rfl) (Eq.mp (by kernel_rfl) h)
def sh_landfalllaw15_turned (v0 v1 : Value) (R : Ending → World → Prop) (w : World) : Prop := 
 letI X := Pan R
 letI D := DoV Tryd.prog
 letI I := Value.int IntKind.i64
 letI T := Operand.tmp
 letI C := Operand.const
 letI O := BinOp.add
(JoinE [5] (fun K1 =>
 D (binS BinOp.lss 3 (T 6) (C (I 0)) v0 (I 0)) w (fun t2 w2 =>
 Br t2
(K1 [(I (-1))] w2)
(K1 [(I 1)] w2)) X)
(fun h3 w3 =>
 D (binS BinOp.mul 3 (T 8) (T 9) (h3 5) v0) w3 (fun t4 w4 =>
 D (binS BinOp.rem 3 (T 13) (C (I 10)) t4 (I 10)) w4 (fun t5 w5 =>
 D (binS BinOp.sub 3 (T 12) (T 14) t4 t5) w5 (fun t6 w6 =>
 D (binS BinOp.rem 3 (T 16) (C (I 10)) t4 (I 10)) w6 (fun t7 w7 =>
 D (binS O 3 (T 17) (C (I 1)) t7 (I 1)) w7 (fun t8 w8 =>
 D (convert 5 3 v1) w8 (fun t9 w9 =>
 D (binS BinOp.rem 3 (T 20) (C (I 9)) t9 (I 9)) w9 (fun t10 w10 =>
 D (binS O 3 (T 18) (T 21) t8 t10) w10 (fun t11 w11 =>
 D (binS BinOp.rem 3 (T 22) (C (I 10)) t11 (I 10)) w11 (fun t12 w12 =>
 D (binS O 3 (T 15) (T 23) t6 t12) w12 (fun t13 w13 =>
 D (binS BinOp.mul 3 (T 11) (T 24) (h3 5) t13) w13 (fun t14 w14 =>
 R (.returned t14) w14) X) X) X) X) X) X) X) X) X) X) X))
theorem sh_landfalllaw15_turned_ok (v0 v1 : Value) (h : sh_landfalllaw15_turned v0 v1 R w) : Calls Tryd.prog 30 #[v0, v1] w R :=
  calls_of_vc (c := Tryd.f30.body.getD .skip) (args := [v0, v1]) [] [5] follows_mixed Tryd.func30 rfl (of_decide_eq_true (by kernel_rfl)) (by kernel_rfl) (Eq.mp (by kernel_rfl) h)
def sh_chart_Digest_1 (v0 v1 : Value) (R : Ending → World → Prop) (w : World) : Prop := 
 letI X := Pan R
(DoV Tryd.prog (Instr.loadAt 45 v1) w (fun t1 w1 =>
 CallB Tryd.prog Builtin.append #[45, 45] 45 #[false, false] #[t1, v0] w1 (fun t2 w2 =>
 DoU Tryd.prog (Instr.storeAt 45 v1 t2) w2 (fun _ w3 =>
 R (.returned (Value.tuple #[])) w3) X) X) X)
theorem sh_chart_Digest_1_ok (v0 v1 : Value) (h : sh_chart_Digest_1 v0 v1 R w) : Calls Tryd.prog 31 #[v0, v1] w R :=
  calls_of_vc (c := Tryd.f31.body.getD .skip) (args := [v0, v1]) [] [] follows_mixed Tryd.func31 rfl (of_decide_eq_true (by kernel_rfl)) (by kernel_rfl) (Eq.mp (by kernel_rfl) h)
def sh_landfallref15_frame (v0 : Value) (R : Ending → World → Prop) (w : World) : Prop := 
 letI X := Pan R
 letI D := DoV Tryd.prog
 letI Q := CallF Tryd.prog
 letI I := Value.int IntKind.i64
 letI T := Operand.tmp
 letI C := Operand.const
 letI L := Instr.loadAt
 letI F := Instr.fieldAt
 letI V := Value.bool
(D (Instr.box 26 v0) w (fun t1 w1 =>
 JoinE [] (fun K2 =>
 JoinE [24] (fun K3 =>
 D (F 26 t1 0) w1 (fun t4 w4 =>
 D (L 3 t4) w4 (fun t5 w5 =>
 Q 48 #[t5, (I 1), (I 1000000)] w5 (fun t6 w6 =>
 D (Op.unary UnOp.not t6) w6 (fun t7 w7 =>
 Gd t7 false (D (F 26 t1 3) w7 (fun t8 w8 =>
 D (L 3 t8) w8 (fun t9 w9 =>
 Q 48 #[t9, (I 1), (I 4000)] w9 (fun t10 w10 =>
 D (Op.unary UnOp.not t10) w10 (fun t11 w11 =>
 Gd t11 false (D (F 26 t1 4) w11 (fun t12 w12 =>
 D (L 3 t12) w12 (fun t13 w13 =>
 Q 48 #[t13, (I 1), (I 4000)] w13 (fun t14 w14 =>
 D (Op.unary UnOp.not t14) w14 (fun t15 w15 =>
 Gd t15 false (D (F 26 t1 5) w15 (fun t16 w16 =>
 D (L 3 t16) w16 (fun t17 w17 =>
 Q 48 #[t17, (I 1), (I 10000)] w17 (fun t18 w18 =>
 D (Op.unary UnOp.not t18) w18 (fun t19 w19 =>
 K3 [t19] w19) X) X) X) X)
(K3 [(V true)] w15)) X) X) X) X)
(K3 [(V true)] w11)) X) X) X) X)
(K3 [(V true)] w7)) X) X) X) X)
(fun h20 w20 =>
 Br (h20 24)
(R (.returned (V false)) w20)
(K2 [] w20)))
(fun _ w21 =>
 JoinE [] (fun K22 =>
 JoinE [50] (fun K23 =>
 D (F 26 t1 3) w21 (fun t24 w24 =>
 D (L 3 t24) w24 (fun t25 w25 =>
 D (F 26 t1 4) w25 (fun t26 w26 =>
 D (L 3 t26) w26 (fun t27 w27 =>
 D (binS BinOp.mul 3 (T 26) (T 28) t25 t27) w27 (fun t28 w28 =>
 D (F 26 t1 6) w28 (fun t29 w29 =>
 D (L 22 t29) w29 (fun t30 w30 =>
 CallB Tryd.prog Builtin.len #[22] 3 #[false] #[t30] w30 (fun t31 w31 =>
 D (binS BinOp.neq 3 (T 29) (T 32) t28 t31) w31 (fun t32 w32 =>
 Gd t32 false (D (F 26 t1 3) w32 (fun t33 w33 =>
 D (L 3 t33) w33 (fun t34 w34 =>
 D (F 26 t1 4) w34 (fun t35 w35 =>
 D (L 3 t35) w35 (fun t36 w36 =>
 D (binS BinOp.mul 3 (T 36) (T 38) t34 t36) w36 (fun t37 w37 =>
 D (binS BinOp.gtr 3 (T 39) (C (I 4000)) t37 (I 4000)) w37 (fun t38 w38 =>
 Gd t38 false (D (F 26 t1 1) w38 (fun t39 w39 =>
 D (L 3 t39) w39 (fun t40 w40 =>
 D (F 26 t1 2) w40 (fun t41 w41 =>
 D (L 3 t41) w41 (fun t42 w42 =>
 D (Instr.build 31 #[(0, t40), (1, t42)]) w42 (fun t43 w43 =>
 Q 16 #[t43] w43 (fun t44 w44 =>
 D (Op.unary UnOp.not t44) w44 (fun t45 w45 =>
 K23 [t45] w45) X) X) X) X) X) X) X)
(K23 [(V true)] w38)) X) X) X) X) X) X)
(K23 [(V true)] w32)) X) X) X) X) X) X) X) X) X)
(fun h46 w46 =>
 Br (h46 50)
(R (.returned (V false)) w46)
(K22 [] w46)))
(fun _ w47 =>
 D (F 26 t1 1) w47 (fun t48 w48 =>
 D (L 3 t48) w48 (fun t49 w49 =>
 D (F 26 t1 3) w49 (fun t50 w50 =>
 D (L 3 t50) w50 (fun t51 w51 =>
 D (F 26 t1 5) w51 (fun t52 w52 =>
 D (L 3 t52) w52 (fun t53 w53 =>
 D (binS BinOp.mul 3 (T 54) (T 56) t51 t53) w53 (fun t54 w54 =>
 D (binS BinOp.add 3 (T 52) (T 57) t49 t54) w54 (fun t55 w55 =>
 D (binS BinOp.sub 3 (T 58) (C (I 1)) t55 (I 1)) w55 (fun t56 w56 =>
 D (F 26 t1 2) w56 (fun t57 w57 =>
 D (L 3 t57) w57 (fun t58 w58 =>
 D (F 26 t1 4) w58 (fun t59 w59 =>
 D (L 3 t59) w59 (fun t60 w60 =>
 D (F 26 t1 5) w60 (fun t61 w61 =>
 D (L 3 t61) w61 (fun t62 w62 =>
 D (binS BinOp.mul 3 (T 63) (T 65) t60 t62) w62 (fun t63 w63 =>
 D (binS BinOp.add 3 (T 61) (T 66) t58 t63) w63 (fun t64 w64 =>
 D (binS BinOp.sub 3 (T 67) (C (I 1)) t64 (I 1)) w64 (fun t65 w65 =>
 D (Instr.build 31 #[(0, t56), (1, t65)]) w65 (fun t66 w66 =>
 Q 16 #[t66] w66 (fun t67 w67 =>
 R (.returned t67) w67) X) X) X) X) X) X) X) X) X) X) X) X) X) X) X) X) X) X) X) X))) X)
theorem sh_landfallref15_frame_ok (v0 : Value) (h : sh_landfallref15_frame v0 R w) : Calls Tryd.prog 33 #[v0] w R :=
  calls_of_vc (c := Tryd.f33.body.getD .skip) (args := [v0]) [] [] follows_mixed Tryd.func33 rfl (of_decide_eq_true (by kernel_rfl)) (by kernel_rfl) (Eq.mp (by kernel_rfl) h)
def sh_landfallref15_beacons (v0 : Value) (R : Ending → World → Prop) (w : World) : Prop := 
 letI X := Pan R
 letI D := DoV Tryd.prog
 letI Q := CallF Tryd.prog
 letI B := CallB Tryd.prog
 letI I := Value.int IntKind.i64
 letI T := Operand.tmp
 letI C := Operand.const
 letI L := Instr.loadAt
 letI F := Instr.fieldAt
 letI A := Instr.indexAt
 letI V := Value.bool
(B Builtin.len #[23] 3 #[false] #[v0] w (fun t1 w1 =>
 D (binS BinOp.gtr 3 (T 6) (C (I 100)) t1 (I 100)) w1 (fun t2 w2 =>
 Br t2
(R (.returned (V false)) w2)
(LoopE [3, 4] [(I 0), undef] w2 (fun h3 w3 K3 =>
 B Builtin.len #[23] 3 #[false] #[v0] w3 (fun t4 w4 =>
 D (binS BinOp.lss 3 (T 8) (T 10) (h3 3) t4) w4 (fun t5 w5 =>
 Br t5
(JoinE [4] (fun K6 =>
 JoinE [] (fun K7 =>
 JoinE [29] (fun K8 =>
 D (A 23 v0 (h3 3)) w5 (fun t9 w9 =>
 D (F 33 t9 0) w9 (fun t10 w10 =>
 D (L 3 t10) w10 (fun t11 w11 =>
 Q 48 #[t11, (I 1), (I 1000000)] w11 (fun t12 w12 =>
 D (Op.unary UnOp.not t12) w12 (fun t13 w13 =>
 Gd t13 false (D (A 23 v0 (h3 3)) w13 (fun t14 w14 =>
 D (F 33 t14 1) w14 (fun t15 w15 =>
 D (L 31 t15) w15 (fun t16 w16 =>
 Q 16 #[t16] w16 (fun t17 w17 =>
 D (Op.unary UnOp.not t17) w17 (fun t18 w18 =>
 K8 [t18] w18) X) X) X) X) X)
(K8 [(V true)] w13)) X) X) X) X) X)
(fun h19 w19 =>
 Br (h19 29)
(R (.returned (V false)) w19)
(K7 [] w19)))
(fun _ w20 =>
 LoopE [4] [(I 0)] w20 (fun h21 w21 K21 =>
 D (binS BinOp.lss 3 (T 30) (T 31) (h21 4) (h3 3)) w21 (fun t22 w22 =>
 Br t22
(DrawE w22 (fun Rs23 Rb23 w23 =>
 DetOp Rb23 Rs23 w23 (fun w24 K24 => D (A 23 v0 (h21 4)) w24 K24 X) (fun c37_24 ψ24 =>
 DetOp Rb23 Rs23 w23 (fun w25 K25 => D (F 33 c37_24 0) w25 K25 X) (fun c38_25 ψ25 =>
 DetOp Rb23 Rs23 w23 (fun w26 K26 => D (L 3 c38_25) w26 K26 X) (fun c39_26 ψ26 =>
 DetOp Rb23 Rs23 w23 (fun w27 K27 => D (A 23 v0 (h3 3)) w27 K27 X) (fun c42_27 ψ27 =>
 DetOp Rb23 Rs23 w23 (fun w28 K28 => D (F 33 c42_27 0) w28 K28 X) (fun c43_28 ψ28 =>
 DetOp Rb23 Rs23 w23 (fun w29 K29 => D (L 3 c43_28) w29 K29 X) (fun c44_29 ψ29 =>
 ∀ w30, Rb23 w23 w30 → ((((((True ∧ ψ24 w30) ∧ ψ25 w30) ∧ ψ26 w30) ∧ ψ27 w30) ∧ ψ28 w30) ∧ ψ29 w30) →
 D (binS BinOp.eql 3 (T 39) (T 44) c39_26 c44_29) w30 (fun t31 w31 =>
 Br t31
(R (.returned (V false)) w31)
(D (binS BinOp.add 3 (T 33) (C (I 1)) (h21 4) (I 1)) w31 (fun t32 w32 =>
 K21 [t32] w32) X)) X))))))))
(K6 [(h21 4)] w22)) X)))
(fun h33 w33 =>
 D (binS BinOp.add 3 (T 12) (C (I 1)) (h3 3) (I 1)) w33 (fun t34 w34 =>
 K3 [t34, (h33 4)] w34) X))
(R (.returned (V true)) w5)) X) X))) X) X)
theorem sh_landfallref15_beacons_ok (v0 : Value) (h : sh_landfallref15_beacons v0 R w) : Calls Tryd.prog 34 #[v0] w R :=
  calls_of_vc (c := Tryd.f34.body.getD .skip) (args := [v0]) [(11, 10, false, 0)] [3, 4] follows_mixed Tryd.func34 rfl (of_decide_eq_true (by kernel_rfl)) (by kernel_rfl) (Eq.mp (by kernel_rfl) h)
def sh_landfallref15_lines (v0 : Value) (R : Ending → World → Prop) (w : World) : Prop := 
 letI X := Pan R
 letI D := DoV Tryd.prog
 letI B := CallB Tryd.prog
 letI I := Value.int IntKind.i64
 letI T := Operand.tmp
 letI C := Operand.const
 letI L := Instr.loadAt
 letI A := Instr.indexAt
 letI V := Value.bool
(B Builtin.len #[24] 3 #[false] #[v0] w (fun t1 w1 =>
 D (binS BinOp.gtr 3 (T 6) (C (I 50)) t1 (I 50)) w1 (fun t2 w2 =>
 Br t2
(R (.returned (V false)) w2)
(LoopE [3, 4] [(I 0), undef] w2 (fun h3 w3 K3 =>
 B Builtin.len #[24] 3 #[false] #[v0] w3 (fun t4 w4 =>
 D (binS BinOp.lss 3 (T 8) (T 10) (h3 3) t4) w4 (fun t5 w5 =>
 Br t5
(D (A 24 v0 (h3 3)) w5 (fun t6 w6 =>
 D (L 39 t6) w6 (fun t7 w7 =>
 CallF Tryd.prog 49 #[t7] w7 (fun t8 w8 =>
 D (Op.unary UnOp.not t8) w8 (fun t9 w9 =>
 Br t9
(R (.returned (V false)) w9)
(LoopE [4] [(I 0)] w9 (fun h10 w10 K10 =>
 D (binS BinOp.lss 3 (T 20) (T 21) (h10 4) (h3 3)) w10 (fun t11 w11 =>
 Br t11
(DrawE w11 (fun Rs12 Rb12 w12 =>
 DetOp Rb12 Rs12 w12 (fun w13 K13 => D (A 24 v0 (h10 4)) w13 K13 X) (fun c27_13 ψ13 =>
 DetOp Rb12 Rs12 w12 (fun w14 K14 => D (Instr.fieldAt 39 c27_13 0) w14 K14 X) (fun c28_14 ψ14 =>
 DetOp Rb12 Rs12 w12 (fun w15 K15 => D (L 3 c28_14) w15 K15 X) (fun c29_15 ψ15 =>
 DetOp Rb12 Rs12 w12 (fun w16 K16 => D (A 24 v0 (h3 3)) w16 K16 X) (fun c32_16 ψ16 =>
 DetOp Rb12 Rs12 w12 (fun w17 K17 => D (Instr.fieldAt 39 c32_16 0) w17 K17 X) (fun c33_17 ψ17 =>
 DetOp Rb12 Rs12 w12 (fun w18 K18 => D (L 3 c33_17) w18 K18 X) (fun c34_18 ψ18 =>
 ∀ w19, Rb12 w12 w19 → ((((((True ∧ ψ13 w19) ∧ ψ14 w19) ∧ ψ15 w19) ∧ ψ16 w19) ∧ ψ17 w19) ∧ ψ18 w19) →
 D (binS BinOp.eql 3 (T 29) (T 34) c29_15 c34_18) w19 (fun t20 w20 =>
 Br t20
(R (.returned (V false)) w20)
(D (binS BinOp.add 3 (T 23) (C (I 1)) (h10 4) (I 1)) w20 (fun t21 w21 =>
 K10 [t21] w21) X)) X))))))))
(D (binS BinOp.add 3 (T 12) (C (I 1)) (h3 3) (I 1)) w11 (fun t22 w22 =>
 K3 [t22, (h10 4)] w22) X)) X))) X) X) X) X)
(R (.returned (V true)) w5)) X) X))) X) X)
theorem sh_landfallref15_lines_ok (v0 : Value) (h : sh_landfallref15_lines v0 R w) : Calls Tryd.prog 35 #[v0] w R :=
  calls_of_vc (c := Tryd.f35.body.getD .skip) (args := [v0]) [(11, 10, false, 0)] [3, 4] follows_mixed Tryd.func35 rfl (of_decide_eq_true (by kernel_rfl)) (by kernel_rfl) (Eq.mp (by kernel_rfl) h)
def sh_landfallref15_Cell (v0 : Value) (R : Ending → World → Prop) (w : World) : Prop := 
 letI X := Pan R
 letI D := DoV Tryd.prog
 letI Q := CallF Tryd.prog
 letI I := Value.int IntKind.i64
 letI L := Instr.loadAt
 letI F := Instr.fieldAt
(D (Instr.box 74 v0) w (fun t1 w1 =>
 D (F 74 t1 0) w1 (fun t2 w2 =>
 D (F 72 t2 0) w2 (fun t3 w3 =>
 D (L 3 t3) w3 (fun t4 w4 =>
 D (F 74 t1 0) w4 (fun t5 w5 =>
 D (F 72 t5 1) w5 (fun t6 w6 =>
 D (L 3 t6) w6 (fun t7 w7 =>
 Q 48 #[t4, (I (-100000)), t7] w7 (fun t8 w8 =>
 Gd t8 true (D (F 74 t1 0) w8 (fun t9 w9 =>
 D (F 72 t9 1) w9 (fun t10 w10 =>
 D (L 3 t10) w10 (fun t11 w11 =>
 D (binS BinOp.leq 3 (Operand.tmp 13) (Operand.const (I 100000)) t11 (I 100000)) w11 (fun t12 w12 =>
 Gd t12 true (D (F 74 t1 1) w12 (fun t13 w13 =>
 D (L 3 t13) w13 (fun t14 w14 =>
 Q 48 #[t14, (I 0), (I 1000000000)] w14 (fun t15 w15 =>
 R (.returned t15) w15) X) X) X)
(R (.returned (Value.bool false)) w12)) X) X) X) X)
(R (.returned (Value.bool false)) w8)) X) X) X) X) X) X) X) X)
theorem sh_landfallref15_Cell_ok (v0 : Value) (h : sh_landfallref15_Cell v0 R w) : Calls Tryd.prog 36 #[v0] w R :=
  calls_of_vc (c := Tryd.f36.body.getD .skip) (args := [v0]) [] [] follows_mixed Tryd.func36 rfl (of_decide_eq_true (by kernel_rfl)) (by kernel_rfl) (Eq.mp (by kernel_rfl) h)
def sh_chart_isPlace (v0 : Value) (R : Ending → World → Prop) (w : World) : Prop := 
 letI X := Pan R
 letI D := DoV Tryd.prog
 letI I := Value.int IntKind.i64
(D (Instr.box 31 v0) w (fun t1 w1 =>
 D (Instr.loadAt 31 t1) w1 (fun t2 w2 =>
 D (Instr.buildSlice 37 1 #[(0, t2)]) w2 (fun t3 w3 =>
 CallF Tryd.prog 50 #[t3] w3 (fun t4 w4 =>
 D (Instr.extract t4 0) w4 (fun _ w5 =>
 D (Instr.extract t4 1) w5 (fun t6 w6 =>
 D (binS BinOp.eql 34 (Operand.tmp 11) (Operand.const (I 0)) t6 (I 0)) w6 (fun t7 w7 =>
 R (.returned t7) w7) X) X) X) X) X) X) X)
theorem sh_chart_isPlace_ok (v0 : Value) (h : sh_chart_isPlace v0 R w) : Calls Tryd.prog 37 #[v0] w R :=
  calls_of_vc (c := Tryd.f37.body.getD .skip) (args := [v0]) [] [] follows_mixed Tryd.func37 rfl (of_decide_eq_true (by kernel_rfl)) (by kernel_rfl) (Eq.mp (by kernel_rfl) h)
def sh_chart_under (v0 v1 v2 : Value) (R : Ending → World → Prop) (w : World) : Prop := 
 letI X := Pan R
 letI D := DoV Tryd.prog
(D (Instr.box 26 v0) w (fun t1 w1 =>
 D (Instr.box 31 v1) w1 (fun t2 w2 =>
 D (Instr.box 31 v2) w2 (fun t3 w3 =>
 D (Instr.makeFunc (Fn.func 51) #[] #[t1, t2, t3]) w3 (fun t4 w4 =>
 R (.returned t4) w4) X) X) X) X)
theorem sh_chart_under_ok (v0 v1 v2 : Value) (h : sh_chart_under v0 v1 v2 R w) : Calls Tryd.prog 38 #[v0, v1, v2] w R :=
  calls_of_vc (c := Tryd.f38.body.getD .skip) (args := [v0, v1, v2]) [] [] follows_mixed Tryd.func38 rfl (of_decide_eq_true (by kernel_rfl)) (by kernel_rfl) (Eq.mp (by kernel_rfl) h)
def sh_chart_isID (v0 : Value) (R : Ending → World → Prop) (w : World) : Prop := 
 letI I := Value.int IntKind.i64
(DoV Tryd.prog (binS BinOp.leq 3 (Operand.const (I 1)) (Operand.tmp 3) (I 1) v0) w (fun t1 w1 =>
 Gd t1 true (DoV Tryd.prog (binS BinOp.leq 3 (Operand.tmp 6) (Operand.const (I 1000000)) v0 (I 1000000)) w1 (fun t2 w2 =>
 R (.returned t2) w2) (Pan R))
(R (.returned (Value.bool false)) w1)) (Pan R))
theorem sh_chart_isID_ok (v0 : Value) (h : sh_chart_isID v0 R w) : Calls Tryd.prog 39 #[v0] w R :=
  calls_of_vc (c := Tryd.f39.body.getD .skip) (args := [v0]) [] [] follows_mixed Tryd.func39 rfl (of_decide_eq_true (by kernel_rfl)) (by kernel_rfl) (Eq.mp (by kernel_rfl) h)
def sh_slices_ContainsFunc___api_Cell_api_Cell_ (v0 v1 : Value) (R : Ending → World → Prop) (w : World) : Prop := 
 letI I := Value.int IntKind.i64
(CallF Tryd.prog 53 #[v0, v1] w (fun t1 w1 =>
 DoV Tryd.prog (binS BinOp.geq 3 (Operand.tmp 7) (Operand.const (I 0)) t1 (I 0)) w1 (fun t2 w2 =>
 R (.returned t2) w2) (Pan R)) (Pan R))
theorem sh_slices_ContainsFunc___api_Cell_api_Cell__ok (v0 v1 : Value) (h : sh_slices_ContainsFunc___api_Cell_api_Cell_ v0 v1 R w) : Calls Tryd.prog 40 #[v0, v1] w R :=
  calls_of_vc (c := Tryd.f40.body.getD .skip) (args := [v0, v1]) [] [] follows_mixed Tryd.func40 rfl (of_decide_eq_true (by kernel_rfl)) (by kernel_rfl) (Eq.mp (by kernel_rfl) h)
def sh_chart_Valid_1 (v0 : Value) (R : Ending → World → Prop) (w : World) : Prop := 
 letI X := Pan R
 letI D := DoV Tryd.prog
(D (Instr.box 74 v0) w (fun t1 w1 =>
 D (Instr.loadAt 74 t1) w1 (fun t2 w2 =>
 CallF Tryd.prog 42 #[t2] w2 (fun t3 w3 =>
 D (Op.unary UnOp.not t3) w3 (fun t4 w4 =>
 R (.returned t4) w4) X) X) X) X)
theorem sh_chart_Valid_1_ok (v0 : Value) (h : sh_chart_Valid_1 v0 R w) : Calls Tryd.prog 41 #[v0] w R :=
  calls_of_vc (c := Tryd.f41.body.getD .skip) (args := [v0]) [] [] follows_mixed Tryd.func41 rfl (of_decide_eq_true (by kernel_rfl)) (by kernel_rfl) (Eq.mp (by kernel_rfl) h)
def sh_chart_isCell (v0 : Value) (R : Ending → World → Prop) (w : World) : Prop := 
 letI X := Pan R
 letI D := DoV Tryd.prog
 letI I := Value.int IntKind.i64
 letI T := Operand.tmp
 letI C := Operand.const
 letI L := Instr.loadAt
 letI F := Instr.fieldAt
 letI V := Value.bool
(D (Instr.box 74 v0) w (fun t1 w1 =>
 D (F 74 t1 0) w1 (fun t2 w2 =>
 D (F 72 t2 0) w2 (fun t3 w3 =>
 D (L 3 t3) w3 (fun t4 w4 =>
 D (binS BinOp.leq 3 (C (I (-100000))) (T 5) (I (-100000)) t4) w4 (fun t5 w5 =>
 Gd t5 true (D (F 74 t1 0) w5 (fun t6 w6 =>
 D (F 72 t6 0) w6 (fun t7 w7 =>
 D (L 3 t7) w7 (fun t8 w8 =>
 D (F 74 t1 0) w8 (fun t9 w9 =>
 D (F 72 t9 1) w9 (fun t10 w10 =>
 D (L 3 t10) w10 (fun t11 w11 =>
 D (binS BinOp.leq 3 (T 10) (T 13) t8 t11) w11 (fun t12 w12 =>
 Gd t12 true (D (F 74 t1 0) w12 (fun t13 w13 =>
 D (F 72 t13 1) w13 (fun t14 w14 =>
 D (L 3 t14) w14 (fun t15 w15 =>
 D (binS BinOp.leq 3 (T 19) (C (I 100000)) t15 (I 100000)) w15 (fun t16 w16 =>
 Gd t16 true (D (F 74 t1 1) w16 (fun t17 w17 =>
 D (L 3 t17) w17 (fun t18 w18 =>
 D (binS BinOp.leq 3 (C (I 0)) (T 24) (I 0) t18) w18 (fun t19 w19 =>
 Gd t19 true (D (F 74 t1 1) w19 (fun t20 w20 =>
 D (L 3 t20) w20 (fun t21 w21 =>
 D (binS BinOp.leq 3 (T 29) (C (I 1000000000)) t21 (I 1000000000)) w21 (fun t22 w22 =>
 R (.returned t22) w22) X) X) X)
(R (.returned (V false)) w19)) X) X) X)
(R (.returned (V false)) w16)) X) X) X) X)
(R (.returned (V false)) w12)) X) X) X) X) X) X) X)
(R (.returned (V false)) w5)) X) X) X) X) X)
theorem sh_chart_isCell_ok (v0 : Value) (h : sh_chart_isCell v0 R w) : Calls Tryd.prog 42 #[v0] w R :=
  calls_of_vc (c := Tryd.f42.body.getD .skip) (args := [v0]) [] [] follows_mixed Tryd.func42 rfl (of_decide_eq_true (by kernel_rfl)) (by kernel_rfl) (Eq.mp (by kernel_rfl) h)
def sh_chart_Valid_2 (v0 : Value) (R : Ending → World → Prop) (w : World) : Prop := 
 letI X := Pan R
 letI D := DoV Tryd.prog
 letI Q := CallF Tryd.prog
(D (Instr.box 33 v0) w (fun t1 w1 =>
 D (Instr.fieldAt 33 t1 0) w1 (fun t2 w2 =>
 D (Instr.loadAt 3 t2) w2 (fun t3 w3 =>
 Q 39 #[t3] w3 (fun t4 w4 =>
 Gd t4 true (D (Instr.fieldAt 33 t1 1) w4 (fun t5 w5 =>
 D (Instr.loadAt 31 t5) w5 (fun t6 w6 =>
 Q 37 #[t6] w6 (fun t7 w7 =>
 R (.returned t7) w7) X) X) X)
(R (.returned (Value.bool false)) w4)) X) X) X) X)
theorem sh_chart_Valid_2_ok (v0 : Value) (h : sh_chart_Valid_2 v0 R w) : Calls Tryd.prog 43 #[v0] w R :=
  calls_of_vc (c := Tryd.f43.body.getD .skip) (args := [v0]) [] [] follows_mixed Tryd.func43 rfl (of_decide_eq_true (by kernel_rfl)) (by kernel_rfl) (Eq.mp (by kernel_rfl) h)
def sh_chart_areNamed_api_Beacon_ (v0 v1 v2 v3 : Value) (R : Ending → World → Prop) (w : World) : Prop := 
 letI X := Pan R
 letI D := DoV Tryd.prog
 letI B := CallB Tryd.prog
 letI I := Value.int IntKind.i64
 letI T := Operand.tmp
 letI L := Instr.loadAt
 letI V := Value.bool
(D (Instr.makeMap 29 none) w (fun t1 w1 =>
 B Builtin.len #[23] 3 #[false] #[v0] w1 (fun t2 w2 =>
 LoopE [15] [(I 0)] w2 (fun h3 w3 K3 =>
 D (binS BinOp.lss 3 (T 15) (T 14) (h3 15) t2) w3 (fun t4 w4 =>
 Br t4
(JoinE [] (fun K5 =>
 D (Instr.indexAt 23 v0 (h3 15)) w4 (fun t6 w6 =>
 D (L 33 t6) w6 (fun t7 w7 =>
 D (Instr.alloc 33 true (.tuple #[])) w7 (fun t8 w8 =>
 DoU Tryd.prog (Instr.storeAt 33 t8 t7) w8 (fun _ w9 =>
 JoinE [] (fun K10 =>
 JoinE [29] (fun K11 =>
 D (L 33 t8) w9 (fun t12 w12 =>
 CallV Tryd.prog v2 #[t12] w12 (fun t13 w13 =>
 D (Op.unary UnOp.not t13) w13 (fun t14 w14 =>
 Gd t14 false (D (L 33 t8) w14 (fun t15 w15 =>
 CallV Tryd.prog v3 #[t15] w15 (fun t16 w16 =>
 D (Instr.lookup 29 t1 t16 false) w16 (fun t17 w17 =>
 K11 [t17] w17) X) X) X)
(K11 [(V true)] w14)) X) X) X)
(fun h18 w18 =>
 Br (h18 29)
(R (.returned (V false)) w18)
(K10 [] w18)))
(fun _ w19 =>
 D (L 33 t8) w19 (fun t20 w20 =>
 CallV Tryd.prog v3 #[t20] w20 (fun t21 w21 =>
 DoU Tryd.prog (Instr.mapUpdate 29 t1 t21 (V true)) w21 (fun _ w22 =>
 K5 [] w22) X) X) X)) X) X) X) X)
(fun _ w23 =>
 D (binS BinOp.add 3 (T 15) (Operand.const (I 1)) (h3 15) (I 1)) w23 (fun t24 w24 =>
 K3 [t24] w24) X))
(B Builtin.len #[23] 3 #[false] #[v0] w4 (fun t25 w25 =>
 D (binS BinOp.leq 3 (T 36) (T 37) t25 v1) w25 (fun t26 w26 =>
 R (.returned t26) w26) X) X)) X)) X) X)
theorem sh_chart_areNamed_api_Beacon__ok (v0 v1 v2 v3 : Value) (h : sh_chart_areNamed_api_Beacon_ v0 v1 v2 v3 R w) : Calls Tryd.prog 44 #[v0, v1, v2, v3] w R :=
  calls_of_vc (c := Tryd.f44.body.getD .skip) (args := [v0, v1, v2, v3]) [] [15] follows_mixed Tryd.func44 rfl (of_decide_eq_true (by kernel_rfl)) (by kernel_rfl) (Eq.mp (by kernel_rfl) h)
def sh_chart_areNamed_api_Line_ (v0 v1 v2 v3 : Value) (R : Ending → World → Prop) (w : World) : Prop := 
 letI X := Pan R
 letI D := DoV Tryd.prog
 letI B := CallB Tryd.prog
 letI I := Value.int IntKind.i64
 letI T := Operand.tmp
 letI L := Instr.loadAt
 letI V := Value.bool
(D (Instr.makeMap 29 none) w (fun t1 w1 =>
 B Builtin.len #[24] 3 #[false] #[v0] w1 (fun t2 w2 =>
 LoopE [15] [(I 0)] w2 (fun h3 w3 K3 =>
 D (binS BinOp.lss 3 (T 15) (T 14) (h3 15) t2) w3 (fun t4 w4 =>
 Br t4
(JoinE [] (fun K5 =>
 D (Instr.indexAt 24 v0 (h3 15)) w4 (fun t6 w6 =>
 D (L 39 t6) w6 (fun t7 w7 =>
 D (Instr.alloc 39 true (.tuple #[])) w7 (fun t8 w8 =>
 DoU Tryd.prog (Instr.storeAt 39 t8 t7) w8 (fun _ w9 =>
 JoinE [] (fun K10 =>
 JoinE [29] (fun K11 =>
 D (L 39 t8) w9 (fun t12 w12 =>
 CallV Tryd.prog v2 #[t12] w12 (fun t13 w13 =>
 D (Op.unary UnOp.not t13) w13 (fun t14 w14 =>
 Gd t14 false (D (L 39 t8) w14 (fun t15 w15 =>
 CallV Tryd.prog v3 #[t15] w15 (fun t16 w16 =>
 D (Instr.lookup 29 t1 t16 false) w16 (fun t17 w17 =>
 K11 [t17] w17) X) X) X)
(K11 [(V true)] w14)) X) X) X)
(fun h18 w18 =>
 Br (h18 29)
(R (.returned (V false)) w18)
(K10 [] w18)))
(fun _ w19 =>
 D (L 39 t8) w19 (fun t20 w20 =>
 CallV Tryd.prog v3 #[t20] w20 (fun t21 w21 =>
 DoU Tryd.prog (Instr.mapUpdate 29 t1 t21 (V true)) w21 (fun _ w22 =>
 K5 [] w22) X) X) X)) X) X) X) X)
(fun _ w23 =>
 D (binS BinOp.add 3 (T 15) (Operand.const (I 1)) (h3 15) (I 1)) w23 (fun t24 w24 =>
 K3 [t24] w24) X))
(B Builtin.len #[24] 3 #[false] #[v0] w4 (fun t25 w25 =>
 D (binS BinOp.leq 3 (T 36) (T 37) t25 v1) w25 (fun t26 w26 =>
 R (.returned t26) w26) X) X)) X)) X) X)
theorem sh_chart_areNamed_api_Line__ok (v0 v1 v2 v3 : Value) (h : sh_chart_areNamed_api_Line_ v0 v1 v2 v3 R w) : Calls Tryd.prog 45 #[v0, v1, v2, v3] w R :=
  calls_of_vc (c := Tryd.f45.body.getD .skip) (args := [v0, v1, v2, v3]) [] [15] follows_mixed Tryd.func45 rfl (of_decide_eq_true (by kernel_rfl)) (by kernel_rfl) (Eq.mp (by kernel_rfl) h)
def sh_chart_isLine (v0 : Value) (R : Ending → World → Prop) (w : World) : Prop := 
 letI X := Pan R
 letI D := DoV Tryd.prog
 letI Q := CallF Tryd.prog
 letI B := CallB Tryd.prog
 letI I := Value.int IntKind.i64
 letI T := Operand.tmp
 letI L := Instr.loadAt
 letI F := Instr.fieldAt
 letI V := Value.bool
(D (Instr.box 39 v0) w (fun t1 w1 =>
 JoinE [] (fun K2 =>
 JoinE [18] (fun K3 =>
 D (F 39 t1 0) w1 (fun t4 w4 =>
 D (L 3 t4) w4 (fun t5 w5 =>
 Q 39 #[t5] w5 (fun t6 w6 =>
 D (Op.unary UnOp.not t6) w6 (fun t7 w7 =>
 Gd t7 false (D (F 39 t1 1) w7 (fun t8 w8 =>
 D (L 37 t8) w8 (fun t9 w9 =>
 B Builtin.len #[37] 3 #[false] #[t9] w9 (fun t10 w10 =>
 D (binS BinOp.lss 3 (T 10) (Operand.const (I 2)) t10 (I 2)) w10 (fun t11 w11 =>
 Gd t11 false (D (F 39 t1 1) w11 (fun t12 w12 =>
 D (L 37 t12) w12 (fun t13 w13 =>
 B Builtin.len #[37] 3 #[false] #[t13] w13 (fun t14 w14 =>
 D (binS BinOp.gtr 3 (T 16) (Operand.const (I 64)) t14 (I 64)) w14 (fun t15 w15 =>
 K3 [t15] w15) X) X) X) X)
(K3 [(V true)] w11)) X) X) X) X)
(K3 [(V true)] w7)) X) X) X) X)
(fun h16 w16 =>
 Br (h16 18)
(R (.returned (V false)) w16)
(K2 [] w16)))
(fun _ w17 =>
 JointE w17 (fun J18 =>
 JOp J18 0 [] (fun pv18 w19 K19 => D (F 39 t1 1) w19 K19 X) ∧
 JOp J18 1 [0] (fun pv18 w20 K20 => D (L 37 (vl pv18 0)) w20 K20 X) ∧
 JOp J18 2 [1] (fun pv18 w21 K21 => Q 54 #[(vl pv18 1), (Value.func (Fn.func 55) #[] #[])] w21 K21 X) ∧
 JOp J18 3 [2] (fun pv18 w22 K22 => D (Op.unary UnOp.not (vl pv18 2)) w22 K22 X) ∧
 JOp J18 4 [3, 2] (fun pv18 w23 K23 => K23 (vl pv18 3) w23) ∧
 JOpG J18 5 [4] (fun pv18 => (vl pv18 4)) true (fun pv18 w24 K24 => D (F 39 t1 1) w24 K24 X) ∧
 JOpG J18 6 [5, 4] (fun pv18 => (vl pv18 4)) true (fun pv18 w25 K25 => D (L 37 (vl pv18 5)) w25 K25 X) ∧
 JOpG J18 7 [6, 4, 4] (fun pv18 => (vl pv18 4)) true (fun pv18 w26 K26 => Q 28 #[(vl pv18 6)] w26 K26 X) ∧
 JOpG J18 8 [7, 7, 4] (fun pv18 => (vl pv18 4)) true (fun pv18 w27 K27 => Q 56 #[(vl pv18 7)] w27 K27 X) ∧
 JOpG J18 9 [8, 4] (fun pv18 => (vl pv18 4)) true (fun pv18 w28 K28 => B Builtin.len #[37] 3 #[false] #[(vl pv18 8)] w28 K28 X) ∧
 JOpG J18 10 [4] (fun pv18 => (vl pv18 4)) true (fun pv18 w29 K29 => D (F 39 t1 1) w29 K29 X) ∧
 JOpG J18 11 [10, 4] (fun pv18 => (vl pv18 4)) true (fun pv18 w30 K30 => D (L 37 (vl pv18 10)) w30 K30 X) ∧
 JOpG J18 12 [11, 4] (fun pv18 => (vl pv18 4)) true (fun pv18 w31 K31 => B Builtin.len #[37] 3 #[false] #[(vl pv18 11)] w31 K31 X) ∧
 JEnd J18 13 (fun pv18 w32 =>
 Gd (vl pv18 4) true (D (binS BinOp.eql 3 (T 28) (T 31) (vl pv18 9) (vl pv18 12)) w32 (fun t33 w33 =>
 R (.returned t33) w33) X)
(R (.returned (V false)) w32))))) X)
theorem sh_chart_isLine_ok (v0 : Value) (h : sh_chart_isLine v0 R w) : Calls Tryd.prog 46 #[v0] w R :=
  calls_of_vc (c := Tryd.f46.body.getD .skip) (args := [v0]) [(3, 13, false, 999)] [] follows_mixed Tryd.func46 rfl (of_decide_eq_true (by kernel_rfl)) (by kernel_rfl) (Eq.mp (by kernel_rfl) h)
def sh_landfallref15_in (v0 v1 v2 : Value) (R : Ending → World → Prop) (w : World) : Prop := 
 letI T := Operand.tmp
(DoV Tryd.prog (binS BinOp.geq 3 (T 7) (T 8) v0 v1) w (fun t1 w1 =>
 Gd t1 true (DoV Tryd.prog (binS BinOp.leq 3 (T 11) (T 12) v0 v2) w1 (fun t2 w2 =>
 R (.returned t2) w2) (Pan R))
(R (.returned (Value.bool false)) w1)) (Pan R))
theorem sh_landfallref15_in_ok (v0 v1 v2 : Value) (h : sh_landfallref15_in v0 v1 v2 R w) : Calls Tryd.prog 48 #[v0, v1, v2] w R :=
  calls_of_vc (c := Tryd.f48.body.getD .skip) (args := [v0, v1, v2]) [] [] follows_mixed Tryd.func48 rfl (of_decide_eq_true (by kernel_rfl)) (by kernel_rfl) (Eq.mp (by kernel_rfl) h)
def sh_landfallref15_Path (v0 : Value) (R : Ending → World → Prop) (w : World) : Prop := 
 letI X := Pan R
 letI D := DoV Tryd.prog
 letI Q := CallF Tryd.prog
 letI B := CallB Tryd.prog
 letI I := Value.int IntKind.i64
 letI T := Operand.tmp
 letI C := Operand.const
 letI L := Instr.loadAt
 letI F := Instr.fieldAt
 letI A := Instr.indexAt
 letI V := Value.bool
(D (Instr.box 39 v0) w (fun t1 w1 =>
 JoinE [] (fun K2 =>
 JoinE [14] (fun K3 =>
 D (F 39 t1 0) w1 (fun t4 w4 =>
 D (L 3 t4) w4 (fun t5 w5 =>
 Q 48 #[t5, (I 1), (I 1000000)] w5 (fun t6 w6 =>
 D (Op.unary UnOp.not t6) w6 (fun t7 w7 =>
 Gd t7 false (D (F 39 t1 1) w7 (fun t8 w8 =>
 D (L 37 t8) w8 (fun t9 w9 =>
 B Builtin.len #[37] 3 #[false] #[t9] w9 (fun t10 w10 =>
 Q 48 #[t10, (I 2), (I 64)] w10 (fun t11 w11 =>
 D (Op.unary UnOp.not t11) w11 (fun t12 w12 =>
 K3 [t12] w12) X) X) X) X) X)
(K3 [(V true)] w7)) X) X) X) X)
(fun h13 w13 =>
 Br (h13 14)
(R (.returned (V false)) w13)
(K2 [] w13)))
(fun _ w14 =>
 LoopE [3] [(I 0)] w14 (fun h15 w15 K15 =>
 D (F 39 t1 1) w15 (fun t16 w16 =>
 D (L 37 t16) w16 (fun t17 w17 =>
 B Builtin.len #[37] 3 #[false] #[t17] w17 (fun t18 w18 =>
 D (binS BinOp.lss 3 (T 15) (T 18) (h15 3) t18) w18 (fun t19 w19 =>
 Br t19
(JoinE [] (fun K20 =>
 JoinE [46] (fun K21 =>
 DrawE w19 (fun Rs22 Rb22 w22 =>
 DetOp Rb22 Rs22 w22 (fun w23 K23 => D (F 39 t1 1) w23 K23 X) (fun c22_23 ψ23 =>
 DetOp Rb22 Rs22 w22 (fun w24 K24 => D (L 37 c22_23) w24 K24 X) (fun c23_24 ψ24 =>
 DetOp Rb22 Rs22 w22 (fun w25 K25 => D (A 37 c23_24 (h15 3)) w25 K25 X) (fun c25_25 ψ25 =>
 DetOp Rb22 Rs22 w22 (fun w26 K26 => D (L 31 c25_25) w26 K26 X) (fun c26_26 ψ26 =>
 DetOp Rs22 Rb22 w22 (fun w27 K27 => Q 16 #[c26_26] w27 K27 X) (fun c27_27 ψ27 =>
 DetOp Rb22 Rs22 w22 (fun w28 K28 => D (Op.unary UnOp.not c27_27) w28 K28 X) (fun c28_28 ψ28 =>
 Gd c28_28 false (DetOp Rb22 Rs22 w22 (fun w29 K29 => D (binS BinOp.gtr 3 (T 30) (C (I 0)) (h15 3) (I 0)) w29 K29 X) (fun c31_29 ψ29 =>
 Gd c31_29 true (DetOp Rb22 Rs22 w22 (fun w30 K30 => D (F 39 t1 1) w30 K30 X) (fun c33_30 ψ30 =>
 DetOp Rb22 Rs22 w22 (fun w31 K31 => D (L 37 c33_30) w31 K31 X) (fun c34_31 ψ31 =>
 DetOp Rb22 Rs22 w22 (fun w32 K32 => D (A 37 c34_31 (h15 3)) w32 K32 X) (fun c36_32 ψ32 =>
 DetOp Rb22 Rs22 w22 (fun w33 K33 => D (L 31 c36_32) w33 K33 X) (fun c37_33 ψ33 =>
 DetOp Rb22 Rs22 w22 (fun w34 K34 => D (F 39 t1 1) w34 K34 X) (fun c38_34 ψ34 =>
 DetOp Rb22 Rs22 w22 (fun w35 K35 => D (L 37 c38_34) w35 K35 X) (fun c39_35 ψ35 =>
 DetOp Rb22 Rs22 w22 (fun w36 K36 => D (binS BinOp.sub 3 (T 40) (C (I 1)) (h15 3) (I 1)) w36 K36 X) (fun c41_36 ψ36 =>
 DetOp Rb22 Rs22 w22 (fun w37 K37 => D (A 37 c39_35 c41_36) w37 K37 X) (fun c42_37 ψ37 =>
 DetOp Rb22 Rs22 w22 (fun w38 K38 => D (L 31 c42_37) w38 K38 X) (fun c43_38 ψ38 =>
 ∀ w39, Rb22 w22 w39 → ((((((((((((((((True ∧ ψ23 w39) ∧ ψ24 w39) ∧ ψ25 w39) ∧ ψ26 w39) ∧ ψ27 w39) ∧ ψ28 w39) ∧ ψ29 w39) ∧ ψ30 w39) ∧ ψ31 w39) ∧ ψ32 w39) ∧ ψ33 w39) ∧ ψ34 w39) ∧ ψ35 w39) ∧ ψ36 w39) ∧ ψ37 w39) ∧ ψ38 w39) →
 D (binS BinOp.eql 31 (T 37) (T 43) c37_33 c43_38) w39 (fun t40 w40 =>
 K21 [t40] w40) X))))))))))
(∀ w41, Rb22 w22 w41 → (((((((True ∧ ψ23 w41) ∧ ψ24 w41) ∧ ψ25 w41) ∧ ψ26 w41) ∧ ψ27 w41) ∧ ψ28 w41) ∧ ψ29 w41) →
 K21 [(V false)] w41)))
(∀ w42, Rb22 w22 w42 → ((((((True ∧ ψ23 w42) ∧ ψ24 w42) ∧ ψ25 w42) ∧ ψ26 w42) ∧ ψ27 w42) ∧ ψ28 w42) →
 K21 [(V true)] w42)))))))))
(fun h43 w43 =>
 Br (h43 46)
(R (.returned (V false)) w43)
(K20 [] w43)))
(fun _ w44 =>
 D (binS BinOp.add 3 (T 20) (C (I 1)) (h15 3) (I 1)) w44 (fun t45 w45 =>
 K15 [t45] w45) X))
(R (.returned (V true)) w19)) X) X) X) X))) X)
theorem sh_landfallref15_Path_ok (v0 : Value) (h : sh_landfallref15_Path v0 R w) : Calls Tryd.prog 49 #[v0] w R :=
  calls_of_vc (c := Tryd.f49.body.getD .skip) (args := [v0]) [(6, 22, false, 6)] [3] follows_mixed Tryd.func49 rfl (of_decide_eq_true (by kernel_rfl)) (by kernel_rfl) (Eq.mp (by kernel_rfl) h)
def sh_hull_Hull (v0 : Value) (R : Ending → World → Prop) (w : World) : Prop := 
 letI X := Pan R
 letI D := DoV Tryd.prog
 letI Q := CallF Tryd.prog
 letI B := CallB Tryd.prog
 letI I := Value.int IntKind.i64
 letI T := Operand.tmp
 letI C := Operand.const
(JoinE [] (fun K1 =>
 B Builtin.len #[37] 3 #[false] #[v0] w (fun t2 w2 =>
 D (binS BinOp.gtr 3 (T 7) (C (I 4000)) t2 (I 4000)) w2 (fun t3 w3 =>
 Br t3
(R (.returned (Value.tuple #[(Value.slice none 0 0), (I 2)])) w3)
(JoinE [9] (fun K4 =>
 B Builtin.len #[37] 3 #[false] #[v0] w3 (fun t5 w5 =>
 D (binS BinOp.eql 3 (T 11) (C (I 0)) t5 (I 0)) w5 (fun t6 w6 =>
 Gd t6 false (Q 54 #[v0, (Value.func (Fn.func 59) #[] #[])] w6 (fun t7 w7 =>
 K4 [t7] w7) X)
(K4 [(Value.bool true)] w6)) X) X)
(fun h8 w8 =>
 Br (h8 9)
(R (.returned (Value.tuple #[(Value.slice none 0 0), (I 1)])) w8)
(K1 [] w8)))) X) X)
(fun _ w9 =>
 Q 61 #[v0] w9 (fun t10 w10 =>
 B Builtin.len #[37] 3 #[false] #[t10] w10 (fun t11 w11 =>
 D (binS BinOp.gtr 3 (T 20) (C (I 64)) t11 (I 64)) w11 (fun t12 w12 =>
 Br t12
(R (.returned (Value.tuple #[(Value.slice none 0 0), (I 2)])) w12)
(R (.returned (Value.tuple #[t10, (I 0)])) w12)) X) X) X))
theorem sh_hull_Hull_ok (v0 : Value) (h : sh_hull_Hull v0 R w) : Calls Tryd.prog 50 #[v0] w R :=
  calls_of_vc (c := Tryd.f50.body.getD .skip) (args := [v0]) [] [] follows_mixed Tryd.func50 rfl (of_decide_eq_true (by kernel_rfl)) (by kernel_rfl) (Eq.mp (by kernel_rfl) h)
def sh_chart_under_1 (v0 v1 v2 v3 : Value) (R : Ending → World → Prop) (w : World) : Prop := 
 letI X := Pan R
 letI D := DoV Tryd.prog
 letI Q := CallF Tryd.prog
 letI B := CallB Tryd.prog
 letI I := Value.int IntKind.i64
 letI T := Operand.tmp
 letI C := Operand.const
 letI L := Instr.loadAt
 letI F := Instr.fieldAt
 letI O := BinOp.add
(D (F 26 v1 2) w (fun t1 w1 =>
 D (L 3 t1) w1 (fun t2 w2 =>
 D (F 26 v1 5) w2 (fun t3 w3 =>
 D (L 3 t3) w3 (fun t4 w4 =>
 D (F 31 v2 1) w4 (fun t5 w5 =>
 D (L 3 t5) w5 (fun t6 w6 =>
 Q 52 #[t2, t4, t6] w6 (fun t7 w7 =>
 B Builtin.max #[3, 3] 3 #[true, false] #[(I 0), t7] w7 (fun t8 w8 =>
 LoopE [5, 6] [t8, undef] w8 (fun h9 w9 K9 =>
 DrawE w9 (fun Rs10 Rb10 w10 =>
 DetOp Rb10 Rs10 w10 (fun w11 K11 => D (F 26 v1 4) w11 K11 X) (fun c16_11 ψ11 =>
 DetOp Rb10 Rs10 w10 (fun w12 K12 => D (L 3 c16_11) w12 K12 X) (fun c17_12 ψ12 =>
 DetOp Rb10 Rs10 w10 (fun w13 K13 => D (binS BinOp.sub 3 (T 17) (C (I 1)) c17_12 (I 1)) w13 K13 X) (fun c18_13 ψ13 =>
 DetOp Rb10 Rs10 w10 (fun w14 K14 => D (F 26 v1 2) w14 K14 X) (fun c19_14 ψ14 =>
 DetOp Rb10 Rs10 w10 (fun w15 K15 => D (L 3 c19_14) w15 K15 X) (fun c20_15 ψ15 =>
 DetOp Rb10 Rs10 w10 (fun w16 K16 => D (F 26 v1 5) w16 K16 X) (fun c21_16 ψ16 =>
 DetOp Rb10 Rs10 w10 (fun w17 K17 => D (L 3 c21_16) w17 K17 X) (fun c22_17 ψ17 =>
 DetOp Rb10 Rs10 w10 (fun w18 K18 => D (F 31 v3 1) w18 K18 X) (fun c23_18 ψ18 =>
 DetOp Rb10 Rs10 w10 (fun w19 K19 => D (L 3 c23_18) w19 K19 X) (fun c24_19 ψ19 =>
 DetOp Rs10 Rb10 w10 (fun w20 K20 => Q 52 #[c20_15, c22_17, c24_19] w20 K20 X) (fun c25_20 ψ20 =>
 DetOp Rb10 Rs10 w10 (fun w21 K21 => B Builtin.min #[3, 3] 3 #[false, false] #[c18_13, c25_20] w21 K21 X) (fun c26_21 ψ21 =>
 ∀ w22, Rb10 w10 w22 → (((((((((((True ∧ ψ11 w22) ∧ ψ12 w22) ∧ ψ13 w22) ∧ ψ14 w22) ∧ ψ15 w22) ∧ ψ16 w22) ∧ ψ17 w22) ∧ ψ18 w22) ∧ ψ19 w22) ∧ ψ20 w22) ∧ ψ21 w22) →
 D (binS BinOp.leq 3 (T 15) (T 26) (h9 5) c26_21) w22 (fun t23 w23 =>
 Br t23
(D (F 26 v1 1) w23 (fun t24 w24 =>
 D (L 3 t24) w24 (fun t25 w25 =>
 D (F 26 v1 5) w25 (fun t26 w26 =>
 D (L 3 t26) w26 (fun t27 w27 =>
 D (F 31 v2 0) w27 (fun t28 w28 =>
 D (L 3 t28) w28 (fun t29 w29 =>
 Q 52 #[t25, t27, t29] w29 (fun t30 w30 =>
 B Builtin.max #[3, 3] 3 #[true, false] #[(I 0), t30] w30 (fun t31 w31 =>
 LoopE [6] [t31] w31 (fun h32 w32 K32 =>
 DrawE w32 (fun Rs33 Rb33 w33 =>
 DetOp Rb33 Rs33 w33 (fun w34 K34 => D (F 26 v1 3) w34 K34 X) (fun c39_34 ψ34 =>
 DetOp Rb33 Rs33 w33 (fun w35 K35 => D (L 3 c39_34) w35 K35 X) (fun c40_35 ψ35 =>
 DetOp Rb33 Rs33 w33 (fun w36 K36 => D (binS BinOp.sub 3 (T 40) (C (I 1)) c40_35 (I 1)) w36 K36 X) (fun c41_36 ψ36 =>
 DetOp Rb33 Rs33 w33 (fun w37 K37 => D (F 26 v1 1) w37 K37 X) (fun c42_37 ψ37 =>
 DetOp Rb33 Rs33 w33 (fun w38 K38 => D (L 3 c42_37) w38 K38 X) (fun c43_38 ψ38 =>
 DetOp Rb33 Rs33 w33 (fun w39 K39 => D (F 26 v1 5) w39 K39 X) (fun c44_39 ψ39 =>
 DetOp Rb33 Rs33 w33 (fun w40 K40 => D (L 3 c44_39) w40 K40 X) (fun c45_40 ψ40 =>
 DetOp Rb33 Rs33 w33 (fun w41 K41 => D (F 31 v3 0) w41 K41 X) (fun c46_41 ψ41 =>
 DetOp Rb33 Rs33 w33 (fun w42 K42 => D (L 3 c46_41) w42 K42 X) (fun c47_42 ψ42 =>
 DetOp Rs33 Rb33 w33 (fun w43 K43 => Q 52 #[c43_38, c45_40, c47_42] w43 K43 X) (fun c48_43 ψ43 =>
 DetOp Rb33 Rs33 w33 (fun w44 K44 => B Builtin.min #[3, 3] 3 #[false, false] #[c41_36, c48_43] w44 K44 X) (fun c49_44 ψ44 =>
 ∀ w45, Rb33 w33 w45 → (((((((((((True ∧ ψ34 w45) ∧ ψ35 w45) ∧ ψ36 w45) ∧ ψ37 w45) ∧ ψ38 w45) ∧ ψ39 w45) ∧ ψ40 w45) ∧ ψ41 w45) ∧ ψ42 w45) ∧ ψ43 w45) ∧ ψ44 w45) →
 D (binS BinOp.leq 3 (T 38) (T 49) (h32 6) c49_44) w45 (fun t46 w46 =>
 Br t46
(D (F 26 v1 3) w46 (fun t47 w47 =>
 D (L 3 t47) w47 (fun t48 w48 =>
 D (binS BinOp.mul 3 (T 54) (T 56) (h9 5) t48) w48 (fun t49 w49 =>
 D (binS O 3 (T 57) (T 58) t49 (h32 6)) w49 (fun t50 w50 =>
 CallV Tryd.prog v0 #[t50] w50 (fun t51 w51 =>
 D (Op.unary UnOp.not t51) w51 (fun t52 w52 =>
 Br t52
(R (.returned (Value.tuple #[])) w52)
(D (binS O 3 (T 51) (C (I 1)) (h32 6) (I 1)) w52 (fun t53 w53 =>
 K32 [t53] w53) X)) X) X) X) X) X) X)
(D (binS O 3 (T 28) (C (I 1)) (h9 5) (I 1)) w46 (fun t54 w54 =>
 K9 [t54, (h32 6)] w54) X)) X)))))))))))))) X) X) X) X) X) X) X) X)
(R (.returned (Value.tuple #[])) w23)) X)))))))))))))) X) X) X) X) X) X) X) X)
theorem sh_chart_under_1_ok (v0 v1 v2 v3 : Value) (h : sh_chart_under_1 v0 v1 v2 v3 R w) : Calls Tryd.prog 51 #[v0, v1, v2, v3] w R :=
  calls_of_vc (c := Tryd.f51.body.getD .skip) (args := [v0, v1, v2, v3]) [(1, 12, false, 11), (4, 12, false, 11)] [5, 6] follows_mixed Tryd.func51 rfl (of_decide_eq_true (by kernel_rfl)) (by kernel_rfl) (Eq.mp (by kernel_rfl) h)
def sh_chart_column (v0 v1 v2 : Value) (R : Ending → World → Prop) (w : World) : Prop := 
 letI X := Pan R
 letI D := DoV Tryd.prog
 letI T := Operand.tmp
(D (binS BinOp.lss 3 (T 7) (T 8) v2 v0) w (fun t1 w1 =>
 Br t1
(R (.returned (Value.int IntKind.i64 (-1))) w1)
(D (binS BinOp.sub 3 (T 10) (T 11) v2 v0) w1 (fun t2 w2 =>
 D (binS BinOp.quo 3 (T 12) (T 13) t2 v1) w2 (fun t3 w3 =>
 R (.returned t3) w3) X) X)) X)
theorem sh_chart_column_ok (v0 v1 v2 : Value) (h : sh_chart_column v0 v1 v2 R w) : Calls Tryd.prog 52 #[v0, v1, v2] w R :=
  calls_of_vc (c := Tryd.f52.body.getD .skip) (args := [v0, v1, v2]) [] [] follows_mixed Tryd.func52 rfl (of_decide_eq_true (by kernel_rfl)) (by kernel_rfl) (Eq.mp (by kernel_rfl) h)
def sh_slices_IndexFunc___api_Cell_api_Cell_ (v0 v1 : Value) (R : Ending → World → Prop) (w : World) : Prop := 
 letI X := Pan R
 letI D := DoV Tryd.prog
 letI I := Value.int IntKind.i64
 letI T := Operand.tmp
(CallB Tryd.prog Builtin.len #[22] 3 #[false] #[v0] w (fun t1 w1 =>
 LoopE [8] [(I 0)] w1 (fun h2 w2 K2 =>
 D (binS BinOp.lss 3 (T 8) (T 7) (h2 8) t1) w2 (fun t3 w3 =>
 Br t3
(D (Instr.indexAt 22 v0 (h2 8)) w3 (fun t4 w4 =>
 D (Instr.loadAt 74 t4) w4 (fun t5 w5 =>
 CallV Tryd.prog v1 #[t5] w5 (fun t6 w6 =>
 Br t6
(R (.returned (h2 8)) w6)
(D (binS BinOp.add 3 (T 8) (Operand.const (I 1)) (h2 8) (I 1)) w6 (fun t7 w7 =>
 K2 [t7] w7) X)) X) X) X)
(R (.returned (I (-1))) w3)) X)) X)
theorem sh_slices_IndexFunc___api_Cell_api_Cell__ok (v0 v1 : Value) (h : sh_slices_IndexFunc___api_Cell_api_Cell_ v0 v1 R w) : Calls Tryd.prog 53 #[v0, v1] w R :=
  calls_of_vc (c := Tryd.f53.body.getD .skip) (args := [v0, v1]) [] [8] follows_mixed Tryd.func53 rfl (of_decide_eq_true (by kernel_rfl)) (by kernel_rfl) (Eq.mp (by kernel_rfl) h)
def sh_slices_ContainsFunc___api_Point_api_Point_ (v0 v1 : Value) (R : Ending → World → Prop) (w : World) : Prop := 
 letI I := Value.int IntKind.i64
(CallF Tryd.prog 62 #[v0, v1] w (fun t1 w1 =>
 DoV Tryd.prog (binS BinOp.geq 3 (Operand.tmp 7) (Operand.const (I 0)) t1 (I 0)) w1 (fun t2 w2 =>
 R (.returned t2) w2) (Pan R)) (Pan R))
theorem sh_slices_ContainsFunc___api_Point_api_Point__ok (v0 v1 : Value) (h : sh_slices_ContainsFunc___api_Point_api_Point_ v0 v1 R w) : Calls Tryd.prog 54 #[v0, v1] w R :=
  calls_of_vc (c := Tryd.f54.body.getD .skip) (args := [v0, v1]) [] [] follows_mixed Tryd.func54 rfl (of_decide_eq_true (by kernel_rfl)) (by kernel_rfl) (Eq.mp (by kernel_rfl) h)
def sh_chart_isLine_1 (v0 : Value) (R : Ending → World → Prop) (w : World) : Prop := 
 letI X := Pan R
 letI D := DoV Tryd.prog
(D (Instr.box 31 v0) w (fun t1 w1 =>
 D (Instr.loadAt 31 t1) w1 (fun t2 w2 =>
 CallF Tryd.prog 37 #[t2] w2 (fun t3 w3 =>
 D (Op.unary UnOp.not t3) w3 (fun t4 w4 =>
 R (.returned t4) w4) X) X) X) X)
theorem sh_chart_isLine_1_ok (v0 : Value) (h : sh_chart_isLine_1 v0 R w) : Calls Tryd.prog 55 #[v0] w R :=
  calls_of_vc (c := Tryd.f55.body.getD .skip) (args := [v0]) [] [] follows_mixed Tryd.func55 rfl (of_decide_eq_true (by kernel_rfl)) (by kernel_rfl) (Eq.mp (by kernel_rfl) h)
def sh_slices_Compact___api_Point_api_Point_ (v0 : Value) (R : Ending → World → Prop) (w : World) : Prop := 
 letI X := Pan R
 letI D := DoV Tryd.prog
 letI B := CallB Tryd.prog
 letI I := Value.int IntKind.i64
 letI T := Operand.tmp
 letI C := Operand.const
 letI L := Instr.loadAt
 letI A := Instr.indexAt
 letI M := BinOp.lss
 letI O := BinOp.add
(B Builtin.len #[37] 3 #[false] #[v0] w (fun t1 w1 =>
 D (binS M 3 (T 7) (C (I 2)) t1 (I 2)) w1 (fun t2 w2 =>
 Br t2
(R (.returned v0) w2)
(LoopE [3, 5] [(I 1), undef] w2 (fun h3 w3 K3 =>
 B Builtin.len #[37] 3 #[false] #[v0] w3 (fun t4 w4 =>
 D (binS M 3 (T 10) (T 12) (h3 3) t4) w4 (fun t5 w5 =>
 Br t5
(DrawE w5 (fun Rs6 Rb6 w6 =>
 DetOp Rb6 Rs6 w6 (fun w7 K7 => D (A 37 v0 (h3 3)) w7 K7 X) (fun c18_7 ψ7 =>
 DetOp Rb6 Rs6 w6 (fun w8 K8 => D (L 31 c18_7) w8 K8 X) (fun c19_8 ψ8 =>
 DetOp Rb6 Rs6 w6 (fun w9 K9 => D (binS BinOp.sub 3 (T 21) (C (I 1)) (h3 3) (I 1)) w9 K9 X) (fun c22_9 ψ9 =>
 DetOp Rb6 Rs6 w6 (fun w10 K10 => D (A 37 v0 c22_9) w10 K10 X) (fun c23_10 ψ10 =>
 DetOp Rb6 Rs6 w6 (fun w11 K11 => D (L 31 c23_10) w11 K11 X) (fun c24_11 ψ11 =>
 ∀ w12, Rb6 w6 w12 → (((((True ∧ ψ7 w12) ∧ ψ8 w12) ∧ ψ9 w12) ∧ ψ10 w12) ∧ ψ11 w12) →
 D (binS BinOp.eql 31 (T 19) (T 24) c19_8 c24_11) w12 (fun t13 w13 =>
 Br t13
(D (Instr.sliceAt 37 v0 (some (h3 3)) none none) w13 (fun t14 w14 =>
 LoopE [3, 5] [(h3 3), (I 1)] w14 (fun h15 w15 K15 =>
 B Builtin.len #[37] 3 #[false] #[t14] w15 (fun t16 w16 =>
 D (binS M 3 (T 29) (T 31) (h15 5) t16) w16 (fun t17 w17 =>
 Br t17
(JoinE [3] (fun K18 =>
 DrawE w17 (fun Rs19 Rb19 w19 =>
 DetOp Rb19 Rs19 w19 (fun w20 K20 => D (A 37 t14 (h15 5)) w20 K20 X) (fun c37_20 ψ20 =>
 DetOp Rb19 Rs19 w19 (fun w21 K21 => D (L 31 c37_20) w21 K21 X) (fun c38_21 ψ21 =>
 DetOp Rb19 Rs19 w19 (fun w22 K22 => D (binS BinOp.sub 3 (T 40) (C (I 1)) (h15 5) (I 1)) w22 K22 X) (fun c41_22 ψ22 =>
 DetOp Rb19 Rs19 w19 (fun w23 K23 => D (A 37 t14 c41_22) w23 K23 X) (fun c42_23 ψ23 =>
 DetOp Rb19 Rs19 w19 (fun w24 K24 => D (L 31 c42_23) w24 K24 X) (fun c43_24 ψ24 =>
 ∀ w25, Rb19 w19 w25 → (((((True ∧ ψ20 w25) ∧ ψ21 w25) ∧ ψ22 w25) ∧ ψ23 w25) ∧ ψ24 w25) →
 D (binS BinOp.neq 31 (T 38) (T 43) c38_21 c43_24) w25 (fun t26 w26 =>
 Br t26
(D (A 37 t14 (h15 5)) w26 (fun t27 w27 =>
 D (L 31 t27) w27 (fun t28 w28 =>
 D (A 37 v0 (h15 3)) w28 (fun t29 w29 =>
 DoU Tryd.prog (Instr.storeAt 31 t29 t28) w29 (fun _ w30 =>
 D (binS O 3 (T 52) (C (I 1)) (h15 3) (I 1)) w30 (fun t31 w31 =>
 K18 [t31] w31) X) X) X) X) X)
(K18 [(h15 3)] w26)) X)))))))
(fun h32 w32 =>
 D (binS O 3 (T 33) (C (I 1)) (h15 5) (I 1)) w32 (fun t33 w33 =>
 K15 [(h32 3), t33] w33) X))
(D (Instr.sliceAt 37 v0 (some (h15 3)) none none) w17 (fun t34 w34 =>
 B Builtin.clear #[37] 0 #[false] #[t34] w34 (fun _ w35 =>
 D (Instr.sliceAt 37 v0 none (some (h15 3)) none) w35 (fun t36 w36 =>
 R (.returned t36) w36) X) X) X)) X) X)) X)
(D (binS O 3 (T 14) (C (I 1)) (h3 3) (I 1)) w13 (fun t37 w37 =>
 K3 [t37, (h3 5)] w37) X)) X)))))))
(R (.returned v0) w5)) X) X))) X) X)
theorem sh_slices_Compact___api_Point_api_Point__ok (v0 : Value) (h : sh_slices_Compact___api_Point_api_Point_ v0 R w) : Calls Tryd.prog 56 #[v0] w R :=
  calls_of_vc (c := Tryd.f56.body.getD .skip) (args := [v0]) [(6, 9, false, 0), (11, 9, false, 0)] [3, 5] follows_mixed Tryd.func56 rfl (of_decide_eq_true (by kernel_rfl)) (by kernel_rfl) (Eq.mp (by kernel_rfl) h)
def sh_hull_Hull_1 (v0 : Value) (R : Ending → World → Prop) (w : World) : Prop := 
 letI X := Pan R
 letI D := DoV Tryd.prog
(D (Instr.box 31 v0) w (fun t1 w1 =>
 D (Instr.loadAt 31 t1) w1 (fun t2 w2 =>
 CallF Tryd.prog 60 #[t2] w2 (fun t3 w3 =>
 D (Op.unary UnOp.not t3) w3 (fun t4 w4 =>
 R (.returned t4) w4) X) X) X) X)
theorem sh_hull_Hull_1_ok (v0 : Value) (h : sh_hull_Hull_1 v0 R w) : Calls Tryd.prog 59 #[v0] w R :=
  calls_of_vc (c := Tryd.f59.body.getD .skip) (args := [v0]) [] [] follows_mixed Tryd.func59 rfl (of_decide_eq_true (by kernel_rfl)) (by kernel_rfl) (Eq.mp (by kernel_rfl) h)
def sh_hull_isPlace (v0 : Value) (R : Ending → World → Prop) (w : World) : Prop := 
 letI X := Pan R
 letI D := DoV Tryd.prog
 letI B := CallB Tryd.prog
 letI I := Value.int IntKind.i64
 letI L := Instr.loadAt
 letI F := Instr.fieldAt
(D (Instr.box 31 v0) w (fun t1 w1 =>
 D (F 31 t1 0) w1 (fun t2 w2 =>
 D (L 3 t2) w2 (fun t3 w3 =>
 D (F 31 t1 0) w3 (fun t4 w4 =>
 D (L 3 t4) w4 (fun t5 w5 =>
 D (Op.unary UnOp.neg t5) w5 (fun t6 w6 =>
 D (F 31 t1 1) w6 (fun t7 w7 =>
 D (L 3 t7) w7 (fun t8 w8 =>
 D (F 31 t1 1) w8 (fun t9 w9 =>
 D (L 3 t9) w9 (fun t10 w10 =>
 D (Op.unary UnOp.neg t10) w10 (fun t11 w11 =>
 B Builtin.max #[3, 3, 3, 3] 3 #[false, false, false, false] #[t3, t6, t8, t11] w11 (fun t12 w12 =>
 D (binS BinOp.leq 3 (Operand.tmp 13) (Operand.const (I 500000)) t12 (I 500000)) w12 (fun t13 w13 =>
 Gd t13 true (D (F 31 t1 0) w13 (fun t14 w14 =>
 D (L 3 t14) w14 (fun t15 w15 =>
 D (F 31 t1 1) w15 (fun t16 w16 =>
 D (L 3 t16) w16 (fun t17 w17 =>
 B Builtin.min #[3, 3] 3 #[false, false] #[t15, t17] w17 (fun t18 w18 =>
 D (binS BinOp.geq 3 (Operand.tmp 20) (Operand.const (I (-500000))) t18 (I (-500000))) w18 (fun t19 w19 =>
 R (.returned t19) w19) X) X) X) X) X) X)
(R (.returned (Value.bool false)) w13)) X) X) X) X) X) X) X) X) X) X) X) X) X)
theorem sh_hull_isPlace_ok (v0 : Value) (h : sh_hull_isPlace v0 R w) : Calls Tryd.prog 60 #[v0] w R :=
  calls_of_vc (c := Tryd.f60.body.getD .skip) (args := [v0]) [] [] follows_mixed Tryd.func60 rfl (of_decide_eq_true (by kernel_rfl)) (by kernel_rfl) (Eq.mp (by kernel_rfl) h)
def sh_hull_around (v0 : Value) (R : Ending → World → Prop) (w : World) : Prop := 
 letI X := Pan R
 letI D := DoV Tryd.prog
 letI U := DoU Tryd.prog
 letI Q := CallF Tryd.prog
 letI B := CallB Tryd.prog
 letI I := Value.int IntKind.i64
 letI T := Operand.tmp
 letI C := Operand.const
 letI L := Instr.loadAt
 letI S := Instr.storeAt
 letI N := Instr.alloc
(Q 28 #[v0] w (fun t1 w1 =>
 Q 66 #[t1, (Value.func (Fn.func 67) #[] #[])] w1 (fun _ w2 =>
 Q 56 #[t1] w2 (fun t3 w3 =>
 B Builtin.len #[37] 3 #[false] #[t3] w3 (fun t4 w4 =>
 D (binS BinOp.lss 3 (T 18) (C (I 3)) t4 (I 3)) w4 (fun t5 w5 =>
 Br t5
(R (.returned t3) w5)
(D (N 107 true (.tuple #[])) w5 (fun t6 w6 =>
 D (N 107 true (.tuple #[])) w6 (fun t7 w7 =>
 D (Instr.makeFunc (Fn.func 69) #[t6] #[]) w7 (fun t8 w8 =>
 D (N 108 true (.tuple #[])) w8 (fun t9 w9 =>
 U (S 108 t9 t8) w9 (fun _ w10 =>
 B Builtin.len #[37] 3 #[false] #[t3] w10 (fun t11 w11 =>
 LoopE [24] [(I 0)] w11 (fun h12 w12 K12 =>
 D (binS BinOp.lss 3 (T 24) (T 23) (h12 24) t11) w12 (fun t13 w13 =>
 Br t13
(D (Instr.indexAt 37 t3 (h12 24)) w13 (fun t14 w14 =>
 D (L 31 t14) w14 (fun t15 w15 =>
 D (N 31 true (.tuple #[])) w15 (fun t16 w16 =>
 U (S 31 t16 t15) w16 (fun _ w17 =>
 D (L 108 t9) w17 (fun t18 w18 =>
 D (L 31 t16) w18 (fun t19 w19 =>
 CallV Tryd.prog t18 #[t19] w19 (fun _ w20 =>
 D (binS BinOp.add 3 (T 24) (C (I 1)) (h12 24) (I 1)) w20 (fun t21 w21 =>
 K12 [t21] w21) X) X) X) X) X) X) X) X)
(D (Instr.makeFunc (Fn.func 69) #[t7] #[]) w13 (fun t22 w22 =>
 U (S 108 t9 t22) w22 (fun _ w23 =>
 Q 70 #[t3] w23 (fun t24 w24 =>
 RangeE Tryd.prog t24 2 w24 (fun D25 xs25 w26 J25 =>
 D (N 31 true (.tuple #[])) w26 (fun t27 w27 =>
 U (S 31 t27 (nth xs25 1)) w27 (fun _ w28 =>
(KeepL D25 w26 w28 ∧ ∀ o29,
 D (L 108 t9) (w28.putObj (D25 + 1) o29) (fun t30 w30 =>
 D (L 31 t27) w30 (fun t31 w31 =>
 CallV Tryd.prog t30 #[t31] w31 (fun _ w32 =>
(KeepL D25 (w28.putObj (D25 + 1) o29) w32 ∧ ∀ o33, J25 .normal (w32.putObj (D25 + 1) o33))) NoX) NoX) NoX)) NoX) NoX)
(fun D34 w35 =>
 DrawE w35 (fun Rs36 Rb36 w36 =>
 DetOp Rb36 Rs36 w36 (fun w37 K37 => D (L 107 t6) w37 K37 NoX) (fun c40_37 ψ37 =>
 DetOp Rb36 Rs36 w36 (fun w38 K38 => D (L 107 t6) w38 K38 NoX) (fun c41_38 ψ38 =>
 DetOp Rb36 Rs36 w36 (fun w39 K39 => B Builtin.len #[107] 3 #[false] #[c41_38] w39 K39 NoX) (fun c42_39 ψ39 =>
 DetOp Rb36 Rs36 w36 (fun w40 K40 => D (binS BinOp.sub 3 (T 42) (C (I 1)) c42_39 (I 1)) w40 K40 NoX) (fun c43_40 ψ40 =>
 DetOp Rb36 Rs36 w36 (fun w41 K41 => D (L 107 t6) w41 K41 NoX) (fun c44_41 ψ41 =>
 DetOp Rb36 Rs36 w36 (fun w42 K42 => B Builtin.len #[107] 3 #[false] #[c44_41] w42 K42 NoX) (fun c45_42 ψ42 =>
 DetOp Rb36 Rs36 w36 (fun w43 K43 => D (binS BinOp.sub 3 (T 45) (C (I 1)) c45_42 (I 1)) w43 K43 NoX) (fun c46_43 ψ43 =>
 DetOp Rb36 Rs36 w36 (fun w44 K44 => D (Instr.sliceAt 107 c40_37 none (some c43_40) (some c46_43)) w44 K44 NoX) (fun c47_44 ψ44 =>
 DetOp Rb36 Rs36 w36 (fun w45 K45 => D (L 107 t7) w45 K45 NoX) (fun c48_45 ψ45 =>
 DetOp Rb36 Rs36 w36 (fun w46 K46 => D (L 107 t7) w46 K46 NoX) (fun c49_46 ψ46 =>
 DetOp Rb36 Rs36 w36 (fun w47 K47 => B Builtin.len #[107] 3 #[false] #[c49_46] w47 K47 NoX) (fun c50_47 ψ47 =>
 DetOp Rb36 Rs36 w36 (fun w48 K48 => D (binS BinOp.sub 3 (T 50) (C (I 1)) c50_47 (I 1)) w48 K48 NoX) (fun c51_48 ψ48 =>
 DetOp Rb36 Rs36 w36 (fun w49 K49 => D (Instr.sliceAt 107 c48_45 none (some c51_48) none) w49 K49 NoX) (fun c52_49 ψ49 =>
 ∀ w50, Rb36 w36 w50 → (((((((((((((True ∧ ψ37 w50) ∧ ψ38 w50) ∧ ψ39 w50) ∧ ψ40 w50) ∧ ψ41 w50) ∧ ψ42 w50) ∧ ψ43 w50) ∧ ψ44 w50) ∧ ψ45 w50) ∧ ψ46 w50) ∧ ψ47 w50) ∧ ψ48 w50) ∧ ψ49 w50) →
 B Builtin.append #[107, 107] 107 #[false, false] #[c47_44, c52_49] w50 (fun t51 w51 =>
 MarkE D34 w51 (fun w52 => R (.returned t51) w52)) NoX)))))))))))))))
(fun D53 w54 =>
 MarkE D53 w54 (fun w55 => R (.returned (Value.slice none 0 0)) w55))
[]) X) X) X)) X)) X) X) X) X) X) X)) X) X) X) X) X)
theorem sh_hull_around_ok (v0 : Value) (h : sh_hull_around v0 R w) : Calls Tryd.prog 61 #[v0] w R :=
  calls_of_vcM (c := Tryd.f61.body.getD .skip) (args := [v0]) [(17, 13, false, 0)] [24] follows_mixed Tryd.func61 rfl (of_decide_eq_true (by kernel_rfl)) (by kernel_rfl) (Eq.mp (by kernel_rfl) h)
def sh_slices_IndexFunc___api_Point_api_Point_ (v0 v1 : Value) (R : Ending → World → Prop) (w : World) : Prop := 
 letI X := Pan R
 letI D := DoV Tryd.prog
 letI I := Value.int IntKind.i64
 letI T := Operand.tmp
(CallB Tryd.prog Builtin.len #[37] 3 #[false] #[v0] w (fun t1 w1 =>
 LoopE [8] [(I 0)] w1 (fun h2 w2 K2 =>
 D (binS BinOp.lss 3 (T 8) (T 7) (h2 8) t1) w2 (fun t3 w3 =>
 Br t3
(D (Instr.indexAt 37 v0 (h2 8)) w3 (fun t4 w4 =>
 D (Instr.loadAt 31 t4) w4 (fun t5 w5 =>
 CallV Tryd.prog v1 #[t5] w5 (fun t6 w6 =>
 Br t6
(R (.returned (h2 8)) w6)
(D (binS BinOp.add 3 (T 8) (Operand.const (I 1)) (h2 8) (I 1)) w6 (fun t7 w7 =>
 K2 [t7] w7) X)) X) X) X)
(R (.returned (I (-1))) w3)) X)) X)
theorem sh_slices_IndexFunc___api_Point_api_Point__ok (v0 v1 : Value) (h : sh_slices_IndexFunc___api_Point_api_Point_ v0 v1 R w) : Calls Tryd.prog 62 #[v0, v1] w R :=
  calls_of_vc (c := Tryd.f62.body.getD .skip) (args := [v0, v1]) [] [8] follows_mixed Tryd.func62 rfl (of_decide_eq_true (by kernel_rfl)) (by kernel_rfl) (Eq.mp (by kernel_rfl) h)
def sh_slices_SortFunc___api_Point_api_Point_ (v0 v1 : Value) (R : Ending → World → Prop) (w : World) : Prop := 
 letI X := Pan R
 letI Q := CallF Tryd.prog
(CallB Tryd.prog Builtin.len #[37] 3 #[false] #[v0] w (fun t1 w1 =>
 DoV Tryd.prog (convert 3 115 t1) w1 (fun t2 w2 =>
 Q 73 #[t2] w2 (fun t3 w3 =>
 Q 72 #[v0, (Value.int IntKind.i64 0), t1, t3, v1] w3 (fun _ w4 =>
 R (.returned (Value.tuple #[])) w4) X) X) X) X)
theorem sh_slices_SortFunc___api_Point_api_Point__ok (v0 v1 : Value) (h : sh_slices_SortFunc___api_Point_api_Point_ v0 v1 R w) : Calls Tryd.prog 66 #[v0, v1] w R :=
  calls_of_vc (c := Tryd.f66.body.getD .skip) (args := [v0, v1]) [] [] follows_mixed Tryd.func66 rfl (of_decide_eq_true (by kernel_rfl)) (by kernel_rfl) (Eq.mp (by kernel_rfl) h)
def sh_slices_pdqsortCmpFunc_api_Point_ (v0 v1 v2 v3 v4 : Value) (R : Ending → World → Prop) (w : World) : Prop := 
 letI X := Pan R
 letI D := DoV Tryd.prog
 letI Q := CallF Tryd.prog
 letI I := Value.int IntKind.i64
 letI T := Operand.tmp
 letI C := Operand.const
 letI E := Instr.extract
 letI V := Value.bool
 letI J := BinOp.eql
(LoopE [1, 2, 3, 10, 11, 13, 14] [v1, v2, v3, (V true), (V true), undef, undef] w (fun h1 w1 K1 =>
 D (binS BinOp.sub 3 (T 21) (T 22) (h1 2) (h1 1)) w1 (fun t2 w2 =>
 D (binS BinOp.leq 3 (T 24) (C (I 12)) t2 (I 12)) w2 (fun t3 w3 =>
 Br t3
(Q 82 #[v0, (h1 1), (h1 2), v4] w3 (fun _ w4 =>
 R (.returned (Value.tuple #[])) w4) X)
(D (binS J 3 (T 31) (C (I 0)) (h1 3) (I 0)) w3 (fun t5 w5 =>
 Br t5
(Q 83 #[v0, (h1 1), (h1 2), v4] w5 (fun _ w6 =>
 R (.returned (Value.tuple #[])) w6) X)
(JoinE [3] (fun K7 =>
 D (Op.unary UnOp.not (h1 10)) w5 (fun t8 w8 =>
 Br t8
(Q 84 #[v0, (h1 1), (h1 2), v4] w8 (fun _ w9 =>
 D (binS BinOp.sub 3 (T 45) (C (I 1)) (h1 3) (I 1)) w9 (fun t10 w10 =>
 K7 [t10] w10) X) X)
(K7 [(h1 3)] w8)) X)
(fun h11 w11 =>
 Q 85 #[v0, (h1 1), (h1 2), v4] w11 (fun t12 w12 =>
 D (E t12 0) w12 (fun t13 w13 =>
 D (E t12 1) w13 (fun t14 w14 =>
 JoinE [13, 14] (fun K15 =>
 D (binS J 127 (T 55) (C (I 2)) t14 (I 2)) w14 (fun t16 w16 =>
 Br t16
(Q 86 #[v0, (h1 1), (h1 2), v4] w16 (fun _ w17 =>
 D (binS BinOp.sub 3 (T 62) (C (I 1)) (h1 2) (I 1)) w17 (fun t18 w18 =>
 D (binS BinOp.sub 3 (T 64) (T 65) t13 (h1 1)) w18 (fun t19 w19 =>
 D (binS BinOp.sub 3 (T 63) (T 66) t18 t19) w19 (fun t20 w20 =>
 K15 [t20, (I 1)] w20) X) X) X) X)
(K15 [t13, t14] w16)) X)
(fun h21 w21 =>
 JoinE [] (fun K22 =>
 JoinE [75] (fun K23 =>
 Gd (h1 10) true (Gd (h1 11) true (D (binS J 127 (T 73) (C (I 1)) (h21 14) (I 1)) w21 (fun t24 w24 =>
 K23 [t24] w24) X)
(K23 [(V false)] w21))
(K23 [(V false)] w21))
(fun h25 w25 =>
 Br (h25 75)
(Q 87 #[v0, (h1 1), (h1 2), v4] w25 (fun t26 w26 =>
 Br t26
(R (.returned (Value.tuple #[])) w26)
(K22 [] w26)) X)
(K22 [] w25)))
(fun _ w27 =>
 JoinE [1] (fun K28 =>
 JoinE [97] (fun K29 =>
 DrawE w27 (fun Rs30 Rb30 w30 =>
 DetOp Rb30 Rs30 w30 (fun w31 K31 => D (binS BinOp.gtr 3 (T 81) (C (I 0)) (h1 1) (I 0)) w31 K31 X) (fun c82_31 ψ31 =>
 Gd c82_31 true (DetOp Rb30 Rs30 w30 (fun w32 K32 => D (binS BinOp.sub 3 (T 86) (C (I 1)) (h1 1) (I 1)) w32 K32 X) (fun c87_32 ψ32 =>
 DetOp Rb30 Rs30 w30 (fun w33 K33 => D (Instr.indexAt 37 v0 c87_32) w33 K33 X) (fun c88_33 ψ33 =>
 DetOp Rb30 Rs30 w30 (fun w34 K34 => D (Instr.loadAt 31 c88_33) w34 K34 X) (fun c89_34 ψ34 =>
 DetOp Rb30 Rs30 w30 (fun w35 K35 => D (Instr.indexAt 37 v0 (h21 13)) w35 K35 X) (fun c92_35 ψ35 =>
 DetOp Rb30 Rs30 w30 (fun w36 K36 => D (Instr.loadAt 31 c92_35) w36 K36 X) (fun c93_36 ψ36 =>
 ∀ w37, Rb30 w30 w37 → ((((((True ∧ ψ31 w37) ∧ ψ32 w37) ∧ ψ33 w37) ∧ ψ34 w37) ∧ ψ35 w37) ∧ ψ36 w37) →
 CallV Tryd.prog v4 #[c89_34, c93_36] w37 (fun t38 w38 =>
 D (binS BinOp.lss 3 (T 94) (C (I 0)) t38 (I 0)) w38 (fun t39 w39 =>
 D (Op.unary UnOp.not t39) w39 (fun t40 w40 =>
 K29 [t40] w40) X) X) X))))))
(∀ w41, Rb30 w30 w41 → (True ∧ ψ31 w41) →
 K29 [(V false)] w41))))
(fun h42 w42 =>
 Br (h42 97)
(Q 88 #[v0, (h1 1), (h1 2), (h21 13), v4] w42 (fun t43 w43 =>
 K1 [t43, (h1 2), (h11 3), (h1 10), (h1 11), (h21 13), (h21 14)] w43) X)
(K28 [(h1 1)] w42)))
(fun h44 w44 =>
 Q 89 #[v0, (h44 1), (h1 2), (h21 13), v4] w44 (fun t45 w45 =>
 D (E t45 0) w45 (fun t46 w46 =>
 D (E t45 1) w46 (fun t47 w47 =>
 D (binS BinOp.sub 3 (T 115) (T 116) t46 (h44 1)) w47 (fun t48 w48 =>
 D (binS BinOp.sub 3 (T 118) (T 119) (h1 2) t46) w48 (fun t49 w49 =>
 D (binS BinOp.quo 3 (T 121) (C (I 8)) t2 (I 8)) w49 (fun t50 w50 =>
 D (binS BinOp.lss 3 (T 123) (T 124) t48 t49) w50 (fun t51 w51 =>
 Br t51
(D (binS BinOp.geq 3 (T 126) (T 127) t48 t50) w51 (fun t52 w52 =>
 Q 72 #[v0, (h44 1), t46, (h11 3), v4] w52 (fun _ w53 =>
 D (binS BinOp.add 3 (T 135) (C (I 1)) t46 (I 1)) w53 (fun t54 w54 =>
 K1 [t54, (h1 2), (h11 3), t52, t47, (h21 13), (h21 14)] w54) X) X) X)
(D (binS BinOp.geq 3 (T 137) (T 138) t49 t50) w51 (fun t55 w55 =>
 D (binS BinOp.add 3 (T 141) (C (I 1)) t46 (I 1)) w55 (fun t56 w56 =>
 Q 72 #[v0, t56, (h1 2), (h11 3), v4] w56 (fun _ w57 =>
 K1 [(h44 1), t46, (h11 3), t55, t47, (h21 13), (h21 14)] w57) X) X) X)) X) X) X) X) X) X) X)))) X) X) X))) X)) X) X))
theorem sh_slices_pdqsortCmpFunc_api_Point__ok (v0 v1 v2 v3 v4 : Value) (h : sh_slices_pdqsortCmpFunc_api_Point_ v0 v1 v2 v3 v4 R w) : Calls Tryd.prog 72 #[v0, v1, v2, v3, v4] w R :=
  calls_of_vc (c := Tryd.f72.body.getD .skip) (args := [v0, v1, v2, v3, v4]) [(17, 13, false, 0)] [1, 2, 3, 10, 11, 13, 14] follows_mixed Tryd.func72 rfl (of_decide_eq_true (by kernel_rfl)) (by kernel_rfl) (Eq.mp (by kernel_rfl) h)
def sh_math_bits_Len (v0 : Value) (R : Ending → World → Prop) (w : World) : Prop := 
(CallF Tryd.prog 91 #[v0] w (fun t1 w1 =>
 R (.returned t1) w1) (Pan R))
theorem sh_math_bits_Len_ok (v0 : Value) (h : sh_math_bits_Len v0 R w) : Calls Tryd.prog 73 #[v0] w R :=
  calls_of_vc (c := Tryd.f73.body.getD .skip) (args := [v0]) [] [] follows_mixed Tryd.func73 rfl (of_decide_eq_true (by kernel_rfl)) (by kernel_rfl) (Eq.mp (by kernel_rfl) h)
def sh_slices_insertionSortCmpFunc_api_Point_ (v0 v1 v2 v3 : Value) (R : Ending → World → Prop) (w : World) : Prop := 
 letI X := Pan R
 letI D := DoV Tryd.prog
 letI I := Value.int IntKind.i64
 letI T := Operand.tmp
 letI C := Operand.const
 letI L := Instr.loadAt
 letI A := Instr.indexAt
 letI O := BinOp.add
(D (binS O 3 (T 10) (C (I 1)) v1 (I 1)) w (fun t1 w1 =>
 LoopE [8, 9] [t1, undef] w1 (fun h2 w2 K2 =>
 D (binS BinOp.lss 3 (T 12) (T 13) (h2 8) v2) w2 (fun t3 w3 =>
 Br t3
(LoopE [9] [(h2 8)] w3 (fun h4 w4 K4 =>
 JoinE [] (fun K5 =>
 DrawE w4 (fun Rs6 Rb6 w6 =>
 DetOp Rb6 Rs6 w6 (fun w7 K7 => D (binS BinOp.gtr 3 (T 18) (T 19) (h4 9) v1) w7 K7 X) (fun c20_7 ψ7 =>
 Gd c20_7 true (DetOp Rb6 Rs6 w6 (fun w8 K8 => D (A 37 v0 (h4 9)) w8 K8 X) (fun c25_8 ψ8 =>
 DetOp Rb6 Rs6 w6 (fun w9 K9 => D (L 31 c25_8) w9 K9 X) (fun c26_9 ψ9 =>
 DetOp Rb6 Rs6 w6 (fun w10 K10 => D (binS BinOp.sub 3 (T 28) (C (I 1)) (h4 9) (I 1)) w10 K10 X) (fun c29_10 ψ10 =>
 DetOp Rb6 Rs6 w6 (fun w11 K11 => D (A 37 v0 c29_10) w11 K11 X) (fun c30_11 ψ11 =>
 DetOp Rb6 Rs6 w6 (fun w12 K12 => D (L 31 c30_11) w12 K12 X) (fun c31_12 ψ12 =>
 ∀ w13, Rb6 w6 w13 → ((((((True ∧ ψ7 w13) ∧ ψ8 w13) ∧ ψ9 w13) ∧ ψ10 w13) ∧ ψ11 w13) ∧ ψ12 w13) →
 CallV Tryd.prog v3 #[c26_9, c31_12] w13 (fun t14 w14 =>
 D (binS BinOp.lss 3 (T 32) (C (I 0)) t14 (I 0)) w14 (fun t15 w15 =>
 Br t15
(K5 [] w15)
(D (binS O 3 (T 15) (C (I 1)) (h2 8) (I 1)) w15 (fun t16 w16 =>
 K2 [t16, (h4 9)] w16) X)) X) X))))))
(∀ w17, Rb6 w6 w17 → (True ∧ ψ7 w17) →
 D (binS O 3 (T 15) (C (I 1)) (h2 8) (I 1)) w17 (fun t18 w18 =>
 K2 [t18, (h4 9)] w18) X))))
(fun _ w19 =>
 DrawE w19 (fun Rs20 Rb20 w20 =>
 DetOp Rb20 Rs20 w20 (fun w21 K21 => D (binS BinOp.sub 3 (T 40) (C (I 1)) (h4 9) (I 1)) w21 K21 X) (fun c41_21 ψ21 =>
 DetOp Rb20 Rs20 w20 (fun w22 K22 => D (binS BinOp.sub 3 (T 43) (C (I 1)) (h4 9) (I 1)) w22 K22 X) (fun c44_22 ψ22 =>
 DetOp Rb20 Rs20 w20 (fun w23 K23 => D (A 37 v0 c44_22) w23 K23 X) (fun c45_23 ψ23 =>
 DetOp Rb20 Rs20 w20 (fun w24 K24 => D (L 31 c45_23) w24 K24 X) (fun c46_24 ψ24 =>
 DetOp Rb20 Rs20 w20 (fun w25 K25 => D (A 37 v0 (h4 9)) w25 K25 X) (fun c49_25 ψ25 =>
 DetOp Rb20 Rs20 w20 (fun w26 K26 => D (L 31 c49_25) w26 K26 X) (fun c50_26 ψ26 =>
 DetOp Rb20 Rs20 w20 (fun w27 K27 => D (A 37 v0 (h4 9)) w27 K27 X) (fun c51_27 ψ27 =>
 DetOp Rb20 Rs20 w20 (fun w28 K28 => DoU Tryd.prog (Instr.storeAt 31 c51_27 c46_24) w28 K28 X) (fun c_28 ψ28 =>
 ∀ w29, Rb20 w20 w29 → ((((((((True ∧ ψ21 w29) ∧ ψ22 w29) ∧ ψ23 w29) ∧ ψ24 w29) ∧ ψ25 w29) ∧ ψ26 w29) ∧ ψ27 w29) ∧ ψ28 w29) →
 D (A 37 v0 c41_21) w29 (fun t30 w30 =>
 DoU Tryd.prog (Instr.storeAt 31 t30 c50_26) w30 (fun _ w31 =>
 D (binS BinOp.sub 3 (T 35) (C (I 1)) (h4 9) (I 1)) w31 (fun t32 w32 =>
 K4 [t32] w32) X) X) X))))))))))))
(R (.returned (Value.tuple #[])) w3)) X)) X)
theorem sh_slices_insertionSortCmpFunc_api_Point__ok (v0 v1 v2 v3 : Value) (h : sh_slices_insertionSortCmpFunc_api_Point_ v0 v1 v2 v3 R w) : Calls Tryd.prog 82 #[v0, v1, v2, v3] w R :=
  calls_of_vc (c := Tryd.f82.body.getD .skip) (args := [v0, v1, v2, v3]) [(4, 14, false, 0), (6, 16, false, 0)] [8, 9] follows_mixed Tryd.func82 rfl (of_decide_eq_true (by kernel_rfl)) (by kernel_rfl) (Eq.mp (by kernel_rfl) h)
def sh_math_bits_Len64 (v0 : Value) (R : Ending → World → Prop) (w : World) : Prop := 
 letI X := Pan R
 letI D := DoV Tryd.prog
 letI I := Value.int IntKind.i64
 letI T := Operand.tmp
 letI C := Operand.const
 letI O := BinOp.add
(JoinE [0, 2] (fun K1 =>
 D (binS BinOp.geq 47 (T 3) (C (Value.int IntKind.u64 4294967296)) v0 (Value.int IntKind.u64 4294967296)) w (fun t2 w2 =>
 Br t2
(D (binS BinOp.shr 47 (T 5) (C (Value.int IntKind.u64 32)) v0 (Value.int IntKind.u64 32)) w2 (fun t3 w3 =>
 K1 [t3, (I 32)] w3) X)
(K1 [v0, (I 0)] w2)) X)
(fun h4 w4 =>
 JoinE [0, 2] (fun K5 =>
 D (binS BinOp.geq 47 (T 7) (C (Value.int IntKind.u64 65536)) (h4 0) (Value.int IntKind.u64 65536)) w4 (fun t6 w6 =>
 Br t6
(D (binS BinOp.shr 47 (T 9) (C (Value.int IntKind.u64 16)) (h4 0) (Value.int IntKind.u64 16)) w6 (fun t7 w7 =>
 D (binS O 3 (T 11) (C (I 16)) (h4 2) (I 16)) w7 (fun t8 w8 =>
 K5 [t7, t8] w8) X) X)
(K5 [(h4 0), (h4 2)] w6)) X)
(fun h9 w9 =>
 JoinE [0, 2] (fun K10 =>
 D (binS BinOp.geq 47 (T 13) (C (Value.int IntKind.u64 256)) (h9 0) (Value.int IntKind.u64 256)) w9 (fun t11 w11 =>
 Br t11
(D (binS BinOp.shr 47 (T 15) (C (Value.int IntKind.u64 8)) (h9 0) (Value.int IntKind.u64 8)) w11 (fun t12 w12 =>
 D (binS O 3 (T 17) (C (I 8)) (h9 2) (I 8)) w12 (fun t13 w13 =>
 K10 [t12, t13] w13) X) X)
(K10 [(h9 0), (h9 2)] w11)) X)
(fun h14 w14 =>
 D (convert 47 5 (h14 0)) w14 (fun t15 w15 =>
 D (Instr.index 9 (Value.string { data := (((((([0, 1, 2, 2, 3, 3, 3, 3, 4, 4, 4, 4, 4, 4, 4, 4, 5, 5, 5, 5, 5, 5, 5, 5, 5, 5, 5, 5, 5, 5, 5, 5, 6, 6, 6, 6, 6, 6, 6, 6, 6, 6, 6, 6, 6, 6, 6, 6, 6, 6, 6, 6, 6, 6, 6, 6, 6, 6, 6, 6, 6, 6, 6, 6]).append [7, 7, 7, 7, 7, 7, 7, 7, 7, 7, 7, 7, 7, 7, 7, 7, 7, 7, 7, 7, 7, 7, 7, 7, 7, 7, 7, 7, 7, 7, 7, 7, 7, 7, 7, 7, 7, 7, 7, 7, 7, 7, 7, 7, 7, 7, 7, 7, 7, 7, 7, 7, 7, 7, 7, 7, 7, 7, 7, 7, 7, 7, 7, 7])).append (([8, 8, 8, 8, 8, 8, 8, 8, 8, 8, 8, 8, 8, 8, 8, 8, 8, 8, 8, 8, 8, 8, 8, 8, 8, 8, 8, 8, 8, 8, 8, 8, 8, 8, 8, 8, 8, 8, 8, 8, 8, 8, 8, 8, 8, 8, 8, 8, 8, 8, 8, 8, 8, 8, 8, 8, 8, 8, 8, 8, 8, 8, 8, 8]).append [8, 8, 8, 8, 8, 8, 8, 8, 8, 8, 8, 8, 8, 8, 8, 8, 8, 8, 8, 8, 8, 8, 8, 8, 8, 8, 8, 8, 8, 8, 8, 8, 8, 8, 8, 8, 8, 8, 8, 8, 8, 8, 8, 8, 8, 8, 8, 8, 8, 8, 8, 8, 8, 8, 8, 8, 8, 8, 8, 8, 8, 8, 8, 8]))).toArray) }) t15) w15 (fun t16 w16 =>
 D (convert 5 3 t16) w16 (fun t17 w17 =>
 D (binS O 3 (T 19) (T 23) (h14 2) t17) w17 (fun t18 w18 =>
 R (.returned t18) w18) X) X) X) X))))
theorem sh_math_bits_Len64_ok (v0 : Value) (h : sh_math_bits_Len64 v0 R w) : Calls Tryd.prog 91 #[v0] w R :=
  calls_of_vc (c := Tryd.f91.body.getD .skip) (args := [v0]) [] [0, 2] follows_mixed Tryd.func91 rfl (of_decide_eq_true (by kernel_rfl)) (by kernel_rfl) (Eq.mp (by kernel_rfl) h)
end Go.Proofs.YtdfpdfahcbflpabDoor
