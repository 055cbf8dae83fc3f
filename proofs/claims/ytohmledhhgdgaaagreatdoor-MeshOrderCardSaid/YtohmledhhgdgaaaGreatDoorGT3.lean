/- The chains of operations of some functions of the program. -/
import Derived.Test.YtohmledhhgdgaaaGreatDoorGT2
import Derived.Test.YtohmledhhgdgaaaGreatDoorGBaseA
import Derived.Test.YtohmledhhgdgaaaGreatDoorProg
import Derived.KernelRfl
set_option linter.unusedVariables false
set_option linter.unusedSimpArgs false
namespace Go.Proofs.YtohmledhhgdgaaaGreatDoor
open Sh
variable {R : Ending → World → Prop} {w : World}
set_option maxRecDepth 100000
def sh_landfalllaw26_MeshOrder (v0 v1 v2 : Value) (R : Ending → World → Prop) (w : World) : Prop := 
 letI X := Pan R
 letI D := DoV Tryz.prog
 letI U := DoU Tryz.prog
 letI Q := CallF Tryz.prog
 letI B := CallB Tryz.prog
 letI I := Value.int IntKind.i64
 letI T := Operand.tmp
 letI C := Operand.const
 letI L := Instr.loadAt
 letI S := Instr.storeAt
 letI E := Instr.extract
 letI N := Instr.alloc
 letI V := Value.bool
(D (Instr.box 24 v0) w (fun t1 w1 =>
 Q 9 #[] w1 (fun t2 w2 =>
 JoinE [] (fun K3 =>
 JoinE [36] (fun K4 =>
 D (Instr.fieldAt 24 t1 1) w2 (fun t5 w5 =>
 D (L 22 t5) w5 (fun t6 w6 =>
 Q 10 #[t6] w6 (fun t7 w7 =>
 D (Op.unary UnOp.not t7) w7 (fun t8 w8 =>
 Gd t8 false (Q 10 #[v1] w8 (fun t9 w9 =>
 D (Op.unary UnOp.not t9) w9 (fun t10 w10 =>
 Gd t10 false (B Builtin.len #[22] 3 #[false] #[v1] w10 (fun t11 w11 =>
 D (binS BinOp.gtr 3 (T 29) (C (I 10)) t11 (I 10)) w11 (fun t12 w12 =>
 Gd t12 false (D (L 24 t1) w12 (fun t13 w13 =>
 Q 14 #[t13] w13 (fun t14 w14 =>
 D (Op.unary UnOp.not t14) w14 (fun t15 w15 =>
 K4 [t15] w15) X) X) X)
(K4 [(V true)] w12)) X) X)
(K4 [(V true)] w10)) X) X)
(K4 [(V true)] w8)) X) X) X) X)
(fun h16 w16 =>
 Br (h16 36)
(R (.returned t2) w16)
(K3 [] w16)))
(fun _ w17 =>
 JointE w17 (fun J18 =>
 JOp J18 0 [] (fun pv18 w19 K19 => D (L 24 t1) w19 K19 X) ∧
 JOp J18 1 [] (fun pv18 w20 K20 => D (L 24 t1) w20 K20 X) ∧
 JOp J18 2 [] (fun pv18 w21 K21 => D (N 24 true (.tuple #[])) w21 K21 X) ∧
 JOp J18 3 [] (fun pv18 w22 K22 => D (N 24 true (.tuple #[])) w22 K22 X) ∧
 JOp J18 4 [2, 0, 0, 2, 3] (fun pv18 w23 K23 => U (S 24 (vl pv18 2) (vl pv18 0)) w23 K23 X) ∧
 JEnd J18 5 (fun pv18 w24 =>
 U (S 24 (vl pv18 3) (vl pv18 1)) w24 (fun _ w25 =>
 B Builtin.len #[22] 3 #[false] #[v1] w25 (fun t26 w26 =>
 LoopE [42, 59] [(I 0), undef] w26 (fun h27 w27 K27 =>
 D (binS BinOp.lss 3 (T 42) (T 41) (h27 42) t26) w27 (fun t28 w28 =>
 Br t28
(JoinE [59] (fun K29 =>
 DrawR w28 (fun R30 S30 w30 =>
 DetOp R30 (Both R30 S30) w30 (fun w31 K31 => D (L 24 (vl pv18 2)) w31 K31 X) (fun c46_31 ψ31 =>
 DetOp R30 (Both R30 S30) w30 (fun w32 K32 => D (Instr.indexAt 22 v1 (h27 42)) w32 K32 X) (fun c49_32 ψ32 =>
 DetOp R30 (Both R30 S30) w30 (fun w33 K33 => D (L 30 c49_32) w33 K33 X) (fun c50_33 ψ33 =>
 ThrE R30 S30 0 w30 (fun Θ30_0 T30_0 =>
 NdC R30 S30 0 w30 Θ30_0 (fun w34 K34 => Q 11 #[c46_31, c50_33, v2] w34 K34 X) (fun v52_34 φ34 =>
 NdC R30 S30 0 w30 φ34 (fun w35 K35 => K35 v52_34 w35) (fun v45_35 φ35 =>
 NdC R30 S30 0 w30 φ35 (fun w36 K36 => D (E v45_35 0) w36 K36 X) (fun v53_36 φ36 =>
 NdC R30 S30 0 w30 φ36 (fun w37 K37 => D (E v45_35 1) w37 K37 X) (fun v54_37 φ37 =>
 NdC R30 S30 0 w30 φ37 (fun w38 K38 => D (E v45_35 2) w38 K38 X) (fun v55_38 φ38 =>
 T30_0 [v52_34, v45_35, v53_36, v54_37, v55_38] φ38)))))) (fun Φ30_0 =>
 ThrE R30 S30 1 w30 (fun Θ30_1 T30_1 =>
 NdC R30 S30 1 w30 Θ30_1 (fun w39 K39 => D (N 24 true (.tuple #[])) w39 K39 X) (fun v11_39 φ39 =>
 T30_1 [v11_39] φ39)) (fun Φ30_1 =>
 ∀ (h40 : Nat → Value) (w41 : World), R30 w30 w41 → (((True ∧ ψ31 w41) ∧ ψ32 w41) ∧ ψ33 w41) ∧ ((True ∧ Φ30_0 [(h40 52), (h40 45), (h40 53), (h40 54), (h40 55)] w41) ∧ Φ30_1 [(h40 11)] w41) →
 U (S 24 (h40 11) (h40 53)) w41 (fun _ w42 =>
 JoinE [] (fun K43 =>
 D (binS BinOp.eql 33 (T 56) (C (I 0)) (h40 55) (I 0)) w42 (fun t44 w44 =>
 Br t44
(D (L 24 (h40 11)) w44 (fun t45 w45 =>
 U (S 24 (vl pv18 2) t45) w45 (fun _ w46 =>
 K43 [] w46) X) X)
(K43 [] w44)) X)
(fun _ w47 =>
 LoopE [59] [(I 0)] w47 (fun h48 w48 K48 =>
 D (binS BinOp.lss 3 (T 59) (C (I 2)) (h48 59) (I 2)) w48 (fun t49 w49 =>
 Br t49
(JoinE [] (fun K50 =>
 DrawR w49 (fun R51 S51 w51 =>
 DetOp R51 (Both R51 S51) w51 (fun w52 K52 => D (L 24 (vl pv18 3)) w52 K52 X) (fun c62_52 ψ52 =>
 DetOp R51 (Both R51 S51) w51 (fun w53 K53 => B Builtin.len #[22] 3 #[false] #[v1] w53 K53 X) (fun c65_53 ψ53 =>
 DetOp R51 (Both R51 S51) w51 (fun w54 K54 => D (binS BinOp.sub 3 (T 65) (C (I 1)) c65_53 (I 1)) w54 K54 X) (fun c66_54 ψ54 =>
 DetOp R51 (Both R51 S51) w51 (fun w55 K55 => D (binS BinOp.sub 3 (T 66) (T 67) c66_54 (h27 42)) w55 K55 X) (fun c68_55 ψ55 =>
 DetOp R51 (Both R51 S51) w51 (fun w56 K56 => D (Instr.indexAt 22 v1 c68_55) w56 K56 X) (fun c69_56 ψ56 =>
 DetOp R51 (Both R51 S51) w51 (fun w57 K57 => D (L 30 c69_56) w57 K57 X) (fun c70_57 ψ57 =>
 ThrE R51 S51 0 w51 (fun Θ51_0 T51_0 =>
 NdC R51 S51 0 w51 Θ51_0 (fun w58 K58 => Q 11 #[c62_52, c70_57, v2] w58 K58 X) (fun v72_58 φ58 =>
 NdC R51 S51 0 w51 φ58 (fun w59 K59 => K59 v72_58 w59) (fun v61_59 φ59 =>
 NdC R51 S51 0 w51 φ59 (fun w60 K60 => D (E v61_59 0) w60 K60 X) (fun v73_60 φ60 =>
 NdC R51 S51 0 w51 φ60 (fun w61 K61 => D (E v61_59 1) w61 K61 X) (fun v74_61 φ61 =>
 NdC R51 S51 0 w51 φ61 (fun w62 K62 => D (E v61_59 2) w62 K62 X) (fun v75_62 φ62 =>
 T51_0 [v72_58, v61_59, v73_60, v74_61, v75_62] φ62)))))) (fun Φ51_0 =>
 ThrE R51 S51 1 w51 (fun Θ51_1 T51_1 =>
 NdC R51 S51 1 w51 Θ51_1 (fun w63 K63 => D (N 24 true (.tuple #[])) w63 K63 X) (fun v14_63 φ63 =>
 T51_1 [v14_63] φ63)) (fun Φ51_1 =>
 ∀ (h64 : Nat → Value) (w65 : World), R51 w51 w65 → ((((((True ∧ ψ52 w65) ∧ ψ53 w65) ∧ ψ54 w65) ∧ ψ55 w65) ∧ ψ56 w65) ∧ ψ57 w65) ∧ ((True ∧ Φ51_0 [(h64 72), (h64 61), (h64 73), (h64 74), (h64 75)] w65) ∧ Φ51_1 [(h64 14)] w65) →
 U (S 24 (h64 14) (h64 73)) w65 (fun _ w66 =>
 D (binS BinOp.eql 33 (T 76) (C (I 0)) (h64 75) (I 0)) w66 (fun t67 w67 =>
 Br t67
(D (L 24 (h64 14)) w67 (fun t68 w68 =>
 U (S 24 (vl pv18 3) t68) w68 (fun _ w69 =>
 K50 [] w69) X) X)
(K50 [] w67)) X) X))))))))))
(fun _ w70 =>
 D (binS BinOp.add 3 (T 59) (C (I 1)) (h48 59) (I 1)) w70 (fun t71 w71 =>
 K48 [t71] w71) X))
(K29 [(h48 59)] w49)) X))) X)))))))
(fun h72 w72 =>
 D (binS BinOp.add 3 (T 42) (C (I 1)) (h27 42) (I 1)) w72 (fun t73 w73 =>
 K27 [t73, (h72 59)] w73) X))
(Gd t2 true (D (L 24 (vl pv18 2)) w28 (fun t74 w74 =>
 D (L 24 (vl pv18 3)) w74 (fun t75 w75 =>
 Q 15 #[t74, t75] w75 (fun t76 w76 =>
 Gd t76 true (D (L 24 (vl pv18 2)) w76 (fun t77 w77 =>
 Q 13 #[t77] w77 (fun t78 w78 =>
 R (.returned t78) w78) X) X)
(R (.returned (V false)) w76)) X) X) X)
(R (.returned (V false)) w28))) X)) X) X)))) X) X)
theorem sh_landfalllaw26_MeshOrder_ok (v0 v1 v2 : Value) (h : sh_landfalllaw26_MeshOrder v0 v1 v2 R w) : Calls Tryz.prog 5 #[v0, v1, v2] w R :=
  calls_of_vc (c := Tryz.f5.body.getD .skip) (args := [v0, v1, v2]) [(4, 5, false, 999), (8, 12, false, 18406966248), (13, 16, false, 75394929656808)] [42, 59] follows_mixed Tryz.func5 rfl (of_decide_eq_true (by kernel_rfl)) (by kernel_rfl) (Eq.mp (by kernel_rfl) h)
def sh_landfalllaw26_head (R : Ending → World → Prop) (w : World) : Prop := 
 letI X := Pan R
 letI D := DoV Tryz.prog
 letI U := DoU Tryz.prog
 letI Q := CallF Tryz.prog
 letI B := CallB Tryz.prog
 letI I := Value.int IntKind.i64
 letI T := Operand.tmp
 letI C := Operand.const
 letI L := Instr.loadAt
 letI S := Instr.storeAt
 letI E := Instr.extract
 letI A := Instr.indexAt
 letI N := Instr.alloc
 letI V := Value.bool
 letI J := BinOp.eql
(Q 28 #[(I 6)] w (fun t1 w1 =>
 D (N 52 true (.tuple #[])) w1 (fun t2 w2 =>
 U (S 52 t2 t1) w2 (fun _ w3 =>
 D (Instr.build 24 #[(0, (I 1))]) w3 (fun t4 w4 =>
 D (N 24 true (.tuple #[])) w4 (fun t5 w5 =>
 U (S 24 t5 t4) w5 (fun _ w6 =>
 D (Instr.build 64 #[(0, (I 6)), (1, (I 6))]) w6 (fun t7 w7 =>
 D (Instr.build 64 #[(0, (I 2)), (1, (I 4))]) w7 (fun t8 w8 =>
 D (Instr.build 64 #[(0, (I 1)), (1, (I 2))]) w8 (fun t9 w9 =>
 D (Instr.buildSlice 65 3 #[(0, t7), (1, t8), (2, t9)]) w9 (fun t10 w10 =>
 B Builtin.len #[65] 3 #[false] #[t10] w10 (fun t11 w11 =>
 LoopE [39] [(I 0)] w11 (fun h12 w12 K12 =>
 D (binS BinOp.lss 3 (T 39) (T 38) (h12 39) t11) w12 (fun t13 w13 =>
 Br t13
(JoinE [] (fun K14 =>
 D (A 65 t10 (h12 39)) w13 (fun t15 w15 =>
 D (L 64 t15) w15 (fun t16 w16 =>
 D (N 64 true (.tuple #[])) w16 (fun t17 w17 =>
 U (S 64 t17 t16) w17 (fun _ w18 =>
 D (L 52 t2) w18 (fun t19 w19 =>
 D (A 64 t17 (I 0)) w19 (fun t20 w20 =>
 D (L 3 t20) w20 (fun t21 w21 =>
 D (A 64 t17 (I 1)) w21 (fun t22 w22 =>
 D (L 3 t22) w22 (fun t23 w23 =>
 Q 29 #[t19, t21, t23, (I 5), (I 7)] w23 (fun t24 w24 =>
 D (E t24 0) w24 (fun t25 w25 =>
 D (E t24 1) w25 (fun t26 w26 =>
 D (N 30 true (.tuple #[])) w26 (fun t27 w27 =>
 U (S 30 t27 t25) w27 (fun _ w28 =>
 D (L 24 t5) w28 (fun t29 w29 =>
 D (L 30 t27) w29 (fun t30 w30 =>
 Q 11 #[t29, t30, (I 1024)] w30 (fun t31 w31 =>
 D (E t31 0) w31 (fun t32 w32 =>
 D (E t31 1) w32 (fun t33 w33 =>
 D (E t31 2) w33 (fun t34 w34 =>
 D (N 24 true (.tuple #[])) w34 (fun t35 w35 =>
 U (S 24 t35 t32) w35 (fun _ w36 =>
 JoinE [] (fun K37 =>
 JoinE [68] (fun K38 =>
 D (binS BinOp.neq 33 (T 59) (C (I 0)) t26 (I 0)) w36 (fun t39 w39 =>
 Gd t39 false (D (binS BinOp.neq 33 (T 62) (C (I 0)) t34 (I 0)) w39 (fun t40 w40 =>
 Gd t40 false (D (Op.unary UnOp.not t33) w40 (fun t41 w41 =>
 K38 [t41] w41) X)
(K38 [(V true)] w40)) X)
(K38 [(V true)] w39)) X)
(fun h42 w42 =>
 Br (h42 68)
(R (.returned (V false)) w42)
(K37 [] w42)))
(fun _ w43 =>
 D (L 24 t35) w43 (fun t44 w44 =>
 U (S 24 t5 t44) w44 (fun _ w45 =>
 K14 [] w45) X) X)) X) X) X) X) X) X) X) X) X) X) X) X) X) X) X) X) X) X) X) X) X) X)
(fun _ w46 =>
 D (binS BinOp.add 3 (T 39) (C (I 1)) (h12 39) (I 1)) w46 (fun t47 w47 =>
 K12 [t47] w47) X))
(D (L 24 t5) w13 (fun t48 w48 =>
 Q 18 #[t48, (I 3)] w48 (fun t49 w49 =>
 D (E t49 0) w49 (fun t50 w50 =>
 D (E t49 1) w50 (fun _ w51 =>
 D (E t49 2) w51 (fun t52 w52 =>
 D (L 24 t5) w52 (fun t53 w53 =>
 Q 18 #[t53, (I 4)] w53 (fun t54 w54 =>
 D (E t54 0) w54 (fun t55 w55 =>
 D (E t54 1) w55 (fun t56 w56 =>
 D (E t54 2) w56 (fun t57 w57 =>
 D (L 52 t2) w57 (fun t58 w58 =>
 Q 29 #[t58, (I 5), (I 5), (I 5), (I 8)] w58 (fun t59 w59 =>
 D (E t59 0) w59 (fun t60 w60 =>
 D (E t59 1) w60 (fun t61 w61 =>
 D (N 30 true (.tuple #[])) w61 (fun t62 w62 =>
 U (S 30 t62 t60) w62 (fun _ w63 =>
 D (L 24 t5) w63 (fun t64 w64 =>
 D (L 30 t62) w64 (fun t65 w65 =>
 Q 11 #[t64, t65, (I 4096)] w65 (fun t66 w66 =>
 D (E t66 0) w66 (fun t67 w67 =>
 D (E t66 1) w67 (fun t68 w68 =>
 D (E t66 2) w68 (fun t69 w69 =>
 D (N 24 true (.tuple #[])) w69 (fun t70 w70 =>
 U (S 24 t70 t67) w70 (fun _ w71 =>
 D (L 24 t5) w71 (fun t72 w72 =>
 D (L 30 t62) w72 (fun t73 w73 =>
 Q 11 #[t72, t73, (I 1024)] w73 (fun t74 w74 =>
 D (E t74 0) w74 (fun t75 w75 =>
 D (E t74 1) w75 (fun t76 w76 =>
 D (E t74 2) w76 (fun t77 w77 =>
 D (N 24 true (.tuple #[])) w77 (fun t78 w78 =>
 U (S 24 t78 t75) w78 (fun _ w79 =>
 D (L 24 t78) w79 (fun t80 w80 =>
 Q 18 #[t80, (I 3)] w80 (fun t81 w81 =>
 D (E t81 0) w81 (fun t82 w82 =>
 D (E t81 1) w82 (fun t83 w83 =>
 D (E t81 2) w83 (fun t84 w84 =>
 D (L 52 t2) w84 (fun t85 w85 =>
 Q 26 #[t85, (I 6)] w85 (fun t86 w86 =>
 D (E t86 0) w86 (fun t87 w87 =>
 D (E t86 1) w87 (fun t88 w88 =>
 D (L 24 t5) w88 (fun t89 w89 =>
 D (Instr.build 24 #[]) w89 (fun t90 w90 =>
 Q 16 #[t89, t90] w90 (fun t91 w91 =>
 D (E t91 0) w91 (fun t92 w92 =>
 D (E t91 1) w92 (fun t93 w93 =>
 D (N 24 true (.tuple #[])) w93 (fun t94 w94 =>
 U (S 24 t94 t92) w94 (fun _ w95 =>
 JoinE [31] (fun K96 =>
 D (binS J 33 (T 119) (C (I 0)) t52 (I 0)) w95 (fun t97 w97 =>
 Gd t97 true (D (binS J 33 (T 122) (C (I 0)) t57 (I 0)) w97 (fun t98 w98 =>
 Gd t98 true (D (binS J 33 (T 126) (C (I 0)) t61 (I 0)) w98 (fun t99 w99 =>
 Gd t99 true (D (binS J 33 (T 130) (C (I 0)) t69 (I 0)) w99 (fun t100 w100 =>
 Gd t100 true (D (binS J 33 (T 134) (C (I 0)) t77 (I 0)) w100 (fun t101 w101 =>
 Gd t101 true (D (binS J 33 (T 138) (C (I 0)) t84 (I 0)) w101 (fun t102 w102 =>
 Gd t102 true (D (binS J 33 (T 142) (C (I 0)) t88 (I 0)) w102 (fun t103 w103 =>
 Gd t103 true (D (binS J 33 (T 146) (C (I 1)) t93 (I 1)) w103 (fun t104 w104 =>
 K96 [t104] w104) X)
(K96 [(V false)] w103)) X)
(K96 [(V false)] w102)) X)
(K96 [(V false)] w101)) X)
(K96 [(V false)] w100)) X)
(K96 [(V false)] w99)) X)
(K96 [(V false)] w98)) X)
(K96 [(V false)] w97)) X)
(fun h105 w105 =>
 Gd (h105 31) true (D (Op.unary UnOp.not t68) w105 (fun t106 w106 =>
 Gd t106 true (Gd t76 true (D (L 24 t70) w106 (fun t107 w107 =>
 D (L 24 t5) w107 (fun t108 w108 =>
 Q 15 #[t107, t108] w108 (fun t109 w109 =>
 Gd t109 true (D (Instr.fieldAt 52 t2 2) w109 (fun t110 w110 =>
 D (L 25 t110) w110 (fun t111 w111 =>
 D (Instr.sliceAt 25 t111 none (some (I 4)) none) w111 (fun t112 w112 =>
 Q 20 #[t50, t112] w112 (fun t113 w113 =>
 Gd t113 true (B Builtin.len #[25] 3 #[false] #[t55] w113 (fun t114 w114 =>
 D (binS J 3 (T 171) (C (I 0)) t114 (I 0)) w114 (fun t115 w115 =>
 Gd t115 true (Q 30 #[(I 4)] w115 (fun t116 w116 =>
 D (binS J 26 (T 175) (T 176) t56 t116) w116 (fun t117 w117 =>
 Gd t117 true (D (Instr.fieldAt 52 t2 2) w117 (fun t118 w118 =>
 D (L 25 t118) w118 (fun t119 w119 =>
 Q 20 #[t82, t119] w119 (fun t120 w120 =>
 Gd t120 true (D (binS J 26 (T 186) (T 187) t83 t87) w120 (fun t121 w121 =>
 R (.returned t121) w121) X)
(R (.returned (V false)) w120)) X) X) X)
(R (.returned (V false)) w117)) X) X)
(R (.returned (V false)) w115)) X) X)
(R (.returned (V false)) w113)) X) X) X) X)
(R (.returned (V false)) w109)) X) X) X)
(R (.returned (V false)) w106))
(R (.returned (V false)) w106)) X)
(R (.returned (V false)) w105))) X) X) X) X) X) X) X) X) X) X) X) X) X) X) X) X) X) X) X) X) X) X) X) X) X) X) X) X) X) X) X) X) X) X) X) X) X) X) X) X) X) X) X) X) X) X) X) X)) X)) X) X) X) X) X) X) X) X) X) X) X)
theorem sh_landfalllaw26_head_ok (h : sh_landfalllaw26_head  R w) : Calls Tryz.prog 9 #[] w R :=
  calls_of_vc (c := Tryz.f9.body.getD .skip) (args := []) [] [31, 39] follows_mixed Tryz.func9 rfl (of_decide_eq_true (by kernel_rfl)) (by kernel_rfl) (Eq.mp (by kernel_rfl) h)
def sh_landfallref26_Few (v0 : Value) (R : Ending → World → Prop) (w : World) : Prop := 
 letI X := Pan R
 letI D := DoV Tryz.prog
 letI B := CallB Tryz.prog
 letI I := Value.int IntKind.i64
 letI T := Operand.tmp
 letI C := Operand.const
(LoopE [3] [(I 0)] w (fun h1 w1 K1 =>
 JoinE [] (fun K2 =>
 B Builtin.len #[22] 3 #[false] #[v0] w1 (fun t3 w3 =>
 D (binS BinOp.lss 3 (T 4) (T 6) (h1 3) t3) w3 (fun t4 w4 =>
 Gd t4 true (D (binS BinOp.lss 3 (T 9) (C (I 21)) (h1 3) (I 21)) w4 (fun t5 w5 =>
 Br t5
(K2 [] w5)
(B Builtin.len #[22] 3 #[false] #[v0] w5 (fun t6 w6 =>
 D (binS BinOp.leq 3 (T 22) (C (I 20)) t6 (I 20)) w6 (fun t7 w7 =>
 R (.returned t7) w7) X) X)) X)
(B Builtin.len #[22] 3 #[false] #[v0] w4 (fun t8 w8 =>
 D (binS BinOp.leq 3 (T 22) (C (I 20)) t8 (I 20)) w8 (fun t9 w9 =>
 R (.returned t9) w9) X) X)) X) X)
(fun _ w10 =>
 D (Instr.indexAt 22 v0 (h1 3)) w10 (fun t11 w11 =>
 D (Instr.fieldAt 30 t11 2) w11 (fun t12 w12 =>
 D (Instr.loadAt 25 t12) w12 (fun t13 w13 =>
 B Builtin.len #[25] 3 #[false] #[t13] w13 (fun t14 w14 =>
 D (binS BinOp.gtr 3 (T 19) (C (I 20)) t14 (I 20)) w14 (fun t15 w15 =>
 Br t15
(R (.returned (Value.bool false)) w15)
(D (binS BinOp.add 3 (T 12) (C (I 1)) (h1 3) (I 1)) w15 (fun t16 w16 =>
 K1 [t16] w16) X)) X) X) X) X) X)))
theorem sh_landfallref26_Few_ok (v0 : Value) (h : sh_landfallref26_Few v0 R w) : Calls Tryz.prog 10 #[v0] w R :=
  calls_of_vc (c := Tryz.f10.body.getD .skip) (args := [v0]) [] [3] follows_mixed Tryz.func10 rfl (of_decide_eq_true (by kernel_rfl)) (by kernel_rfl) (Eq.mp (by kernel_rfl) h)
def sh_mesh_Add (v0 v1 v2 : Value) (R : Ending → World → Prop) (w : World) : Prop := 
 letI X := Pan R
 letI D := DoV Tryz.prog
 letI U := DoU Tryz.prog
 letI Q := CallF Tryz.prog
 letI I := Value.int IntKind.i64
 letI L := Instr.loadAt
 letI F := Instr.fieldAt
 letI S := Instr.storeAt
 letI V := Value.bool
(D (Instr.box 24 v0) w (fun t1 w1 =>
 D (Instr.box 30 v1) w1 (fun t2 w2 =>
 D (Instr.alloc 24 true (.tuple #[])) w2 (fun t3 w3 =>
 D (L 24 t1) w3 (fun t4 w4 =>
 Q 13 #[t4] w4 (fun t5 w5 =>
 D (Op.unary UnOp.not t5) w5 (fun t6 w6 =>
 Br t6
(D (Instr.build 24 #[]) w6 (fun t7 w7 =>
 U (S 24 t3 t7) w7 (fun _ w8 =>
 Res Tryz.prog [.cell t3 24, .tmp (V false), .tmp (I 1)] w8 R) X) X)
(D (L 30 t2) w6 (fun t9 w9 =>
 Q 21 #[t9, v2] w9 (fun t10 w10 =>
 D (Instr.extract t10 0) w10 (fun t11 w11 =>
 D (Instr.extract t10 1) w11 (fun t12 w12 =>
 D (binS BinOp.neq 33 (Operand.tmp 22) (Operand.const (I 0)) t12 (I 0)) w12 (fun t13 w13 =>
 Br t13
(D (Instr.build 24 #[]) w13 (fun t14 w14 =>
 U (S 24 t3 t14) w14 (fun _ w15 =>
 Res Tryz.prog [.cell t3 24, .tmp (V false), .tmp t12] w15 R) X) X)
(D (Op.unary UnOp.not t11) w13 (fun t16 w16 =>
 Br t16
(D (L 24 t1) w16 (fun t17 w17 =>
 U (S 24 t3 t17) w17 (fun _ w18 =>
 Res Tryz.prog [.cell t3 24, .tmp (V false), .tmp (I 0)] w18 R) X) X)
(D (F 24 t1 1) w16 (fun t19 w19 =>
 D (L 22 t19) w19 (fun t20 w20 =>
 D (L 30 t2) w20 (fun t21 w21 =>
 Q 31 #[t20, t21] w21 (fun t22 w22 =>
 D (F 24 t1 1) w22 (fun t23 w23 =>
 U (S 22 t23 t22) w23 (fun _ w24 =>
 D (F 24 t1 1) w24 (fun t25 w25 =>
 D (L 22 t25) w25 (fun t26 w26 =>
 CallB Tryz.prog Builtin.len #[22] 3 #[false] #[t26] w26 (fun t27 w27 =>
 D (binS BinOp.gtr 3 (Operand.tmp 37) (Operand.const (I 500)) t27 (I 500)) w27 (fun t28 w28 =>
 Br t28
(D (Instr.build 24 #[]) w28 (fun t29 w29 =>
 U (S 24 t3 t29) w29 (fun _ w30 =>
 Res Tryz.prog [.cell t3 24, .tmp (V false), .tmp (I 2)] w30 R) X) X)
(D (L 24 t1) w28 (fun t31 w31 =>
 U (S 24 t3 t31) w31 (fun _ w32 =>
 Res Tryz.prog [.cell t3 24, .tmp (V true), .tmp (I 0)] w32 R) X) X)) X) X) X) X) X) X) X) X) X) X)) X)) X) X) X) X) X)) X) X) X) X) X) X)
theorem sh_mesh_Add_ok (v0 v1 v2 : Value) (h : sh_mesh_Add v0 v1 v2 R w) : Calls Tryz.prog 11 #[v0, v1, v2] w R :=
  calls_of_vc (c := Tryz.f11.body.getD .skip) (args := [v0, v1, v2]) [] [] follows_mixed Tryz.func11 rfl (of_decide_eq_true (by kernel_rfl)) (by kernel_rfl) (Eq.mp (by kernel_rfl) h)
def sh_mesh_Valid (v0 : Value) (R : Ending → World → Prop) (w : World) : Prop := 
 letI X := Pan R
 letI D := DoV Tryz.prog
 letI Q := CallF Tryz.prog
 letI B := CallB Tryz.prog
 letI I := Value.int IntKind.i64
 letI T := Operand.tmp
 letI C := Operand.const
 letI L := Instr.loadAt
 letI F := Instr.fieldAt
 letI V := Value.bool
(D (Instr.box 24 v0) w (fun t1 w1 =>
 JoinE [] (fun K2 =>
 JoinE [14] (fun K3 =>
 D (F 24 t1 0) w1 (fun t4 w4 =>
 D (L 3 t4) w4 (fun t5 w5 =>
 Q 34 #[t5] w5 (fun t6 w6 =>
 D (Op.unary UnOp.not t6) w6 (fun t7 w7 =>
 Gd t7 false (D (F 24 t1 1) w7 (fun t8 w8 =>
 D (L 22 t8) w8 (fun t9 w9 =>
 B Builtin.len #[22] 3 #[false] #[t9] w9 (fun t10 w10 =>
 D (binS BinOp.gtr 3 (T 12) (C (I 500)) t10 (I 500)) w10 (fun t11 w11 =>
 K3 [t11] w11) X) X) X) X)
(K3 [(V true)] w7)) X) X) X) X)
(fun h12 w12 =>
 Br (h12 14)
(R (.returned (V false)) w12)
(K2 [] w12)))
(fun _ w13 =>
 D (F 24 t1 1) w13 (fun t14 w14 =>
 D (L 22 t14) w14 (fun t15 w15 =>
 Q 37 #[t15, (Value.func (Fn.func 35) #[] #[])] w15 (fun t16 w16 =>
 Br t16
(R (.returned (V false)) w16)
(LoopE [4] [(I 1)] w16 (fun h17 w17 K17 =>
 D (F 24 t1 1) w17 (fun t18 w18 =>
 D (L 22 t18) w18 (fun t19 w19 =>
 B Builtin.len #[22] 3 #[false] #[t19] w19 (fun t20 w20 =>
 D (binS BinOp.lss 3 (T 19) (T 22) (h17 4) t20) w20 (fun t21 w21 =>
 Br t21
(DrawE w21 (fun Rs22 Rb22 w22 =>
 DetOp Rb22 Rs22 w22 (fun w23 K23 => D (F 24 t1 1) w23 K23 X) (fun c26_23 ψ23 =>
 DetOp Rb22 Rs22 w22 (fun w24 K24 => D (L 22 c26_23) w24 K24 X) (fun c27_24 ψ24 =>
 DetOp Rb22 Rs22 w22 (fun w25 K25 => D (binS BinOp.sub 3 (T 28) (C (I 1)) (h17 4) (I 1)) w25 K25 X) (fun c29_25 ψ25 =>
 DetOp Rb22 Rs22 w22 (fun w26 K26 => D (Instr.indexAt 22 c27_24 c29_25) w26 K26 X) (fun c30_26 ψ26 =>
 DetOp Rb22 Rs22 w22 (fun w27 K27 => D (L 30 c30_26) w27 K27 X) (fun c31_27 ψ27 =>
 DetOp Rb22 Rs22 w22 (fun w28 K28 => D (F 24 t1 1) w28 K28 X) (fun c32_28 ψ28 =>
 DetOp Rb22 Rs22 w22 (fun w29 K29 => D (L 22 c32_28) w29 K29 X) (fun c33_29 ψ29 =>
 DetOp Rb22 Rs22 w22 (fun w30 K30 => D (Instr.indexAt 22 c33_29 (h17 4)) w30 K30 X) (fun c35_30 ψ30 =>
 DetOp Rb22 Rs22 w22 (fun w31 K31 => D (L 30 c35_30) w31 K31 X) (fun c36_31 ψ31 =>
 ∀ w32, Rb22 w22 w32 → (((((((((True ∧ ψ23 w32) ∧ ψ24 w32) ∧ ψ25 w32) ∧ ψ26 w32) ∧ ψ27 w32) ∧ ψ28 w32) ∧ ψ29 w32) ∧ ψ30 w32) ∧ ψ31 w32) →
 Q 38 #[c31_27, c36_31] w32 (fun t33 w33 =>
 D (binS BinOp.geq 3 (T 37) (C (I 0)) t33 (I 0)) w33 (fun t34 w34 =>
 Br t34
(R (.returned (V false)) w34)
(D (binS BinOp.add 3 (T 24) (C (I 1)) (h17 4) (I 1)) w34 (fun t35 w35 =>
 K17 [t35] w35) X)) X) X)))))))))))
(R (.returned (V true)) w21)) X) X) X) X))) X) X) X)) X)
theorem sh_mesh_Valid_ok (v0 : Value) (h : sh_mesh_Valid v0 R w) : Calls Tryz.prog 13 #[v0] w R :=
  calls_of_vc (c := Tryz.f13.body.getD .skip) (args := [v0]) [(9, 11, false, 0)] [4] follows_mixed Tryz.func13 rfl (of_decide_eq_true (by kernel_rfl)) (by kernel_rfl) (Eq.mp (by kernel_rfl) h)
def sh_landfallref26_Valid (v0 : Value) (R : Ending → World → Prop) (w : World) : Prop := 
 letI X := Pan R
 letI D := DoV Tryz.prog
 letI Q := CallF Tryz.prog
 letI B := CallB Tryz.prog
 letI I := Value.int IntKind.i64
 letI T := Operand.tmp
 letI C := Operand.const
 letI L := Instr.loadAt
 letI F := Instr.fieldAt
 letI A := Instr.indexAt
 letI V := Value.bool
(D (Instr.box 24 v0) w (fun t1 w1 =>
 JoinE [] (fun K2 =>
 JoinE [19] (fun K3 =>
 D (F 24 t1 0) w1 (fun t4 w4 =>
 D (L 3 t4) w4 (fun t5 w5 =>
 D (binS BinOp.lss 3 (T 7) (C (I 1)) t5 (I 1)) w5 (fun t6 w6 =>
 Gd t6 false (D (F 24 t1 0) w6 (fun t7 w7 =>
 D (L 3 t7) w7 (fun t8 w8 =>
 D (binS BinOp.gtr 3 (T 11) (C (I 1000000)) t8 (I 1000000)) w8 (fun t9 w9 =>
 Gd t9 false (D (F 24 t1 1) w9 (fun t10 w10 =>
 D (L 22 t10) w10 (fun t11 w11 =>
 B Builtin.len #[22] 3 #[false] #[t11] w11 (fun t12 w12 =>
 D (binS BinOp.gtr 3 (T 17) (C (I 500)) t12 (I 500)) w12 (fun t13 w13 =>
 K3 [t13] w13) X) X) X) X)
(K3 [(V true)] w9)) X) X) X)
(K3 [(V true)] w6)) X) X) X)
(fun h14 w14 =>
 Br (h14 19)
(R (.returned (V false)) w14)
(K2 [] w14)))
(fun _ w15 =>
 LoopE [3] [(I 0)] w15 (fun h16 w16 K16 =>
 D (F 24 t1 1) w16 (fun t17 w17 =>
 D (L 22 t17) w17 (fun t18 w18 =>
 B Builtin.len #[22] 3 #[false] #[t18] w18 (fun t19 w19 =>
 D (binS BinOp.lss 3 (T 20) (T 23) (h16 3) t19) w19 (fun t20 w20 =>
 Br t20
(JoinE [] (fun K21 =>
 D (F 24 t1 1) w20 (fun t22 w22 =>
 D (L 22 t22) w22 (fun t23 w23 =>
 D (A 22 t23 (h16 3)) w23 (fun t24 w24 =>
 D (L 30 t24) w24 (fun t25 w25 =>
 Q 39 #[t25] w25 (fun t26 w26 =>
 D (Op.unary UnOp.not t26) w26 (fun t27 w27 =>
 Br t27
(R (.returned (V false)) w27)
(D (binS BinOp.gtr 3 (T 35) (C (I 0)) (h16 3) (I 0)) w27 (fun t28 w28 =>
 Br t28
(DrawE w28 (fun Rs29 Rb29 w29 =>
 DetOp Rb29 Rs29 w29 (fun w30 K30 => D (F 24 t1 1) w30 K30 X) (fun c37_30 ψ30 =>
 DetOp Rb29 Rs29 w29 (fun w31 K31 => D (L 22 c37_30) w31 K31 X) (fun c38_31 ψ31 =>
 DetOp Rb29 Rs29 w29 (fun w32 K32 => D (binS BinOp.sub 3 (T 39) (C (I 1)) (h16 3) (I 1)) w32 K32 X) (fun c40_32 ψ32 =>
 DetOp Rb29 Rs29 w29 (fun w33 K33 => D (A 22 c38_31 c40_32) w33 K33 X) (fun c41_33 ψ33 =>
 DetOp Rb29 Rs29 w29 (fun w34 K34 => D (L 30 c41_33) w34 K34 X) (fun c42_34 ψ34 =>
 DetOp Rb29 Rs29 w29 (fun w35 K35 => D (F 24 t1 1) w35 K35 X) (fun c43_35 ψ35 =>
 DetOp Rb29 Rs29 w29 (fun w36 K36 => D (L 22 c43_35) w36 K36 X) (fun c44_36 ψ36 =>
 DetOp Rb29 Rs29 w29 (fun w37 K37 => D (A 22 c44_36 (h16 3)) w37 K37 X) (fun c46_37 ψ37 =>
 DetOp Rb29 Rs29 w29 (fun w38 K38 => D (L 30 c46_37) w38 K38 X) (fun c47_38 ψ38 =>
 ∀ w39, Rb29 w29 w39 → (((((((((True ∧ ψ30 w39) ∧ ψ31 w39) ∧ ψ32 w39) ∧ ψ33 w39) ∧ ψ34 w39) ∧ ψ35 w39) ∧ ψ36 w39) ∧ ψ37 w39) ∧ ψ38 w39) →
 Q 40 #[c42_34, c47_38] w39 (fun t40 w40 =>
 D (Op.unary UnOp.not t40) w40 (fun t41 w41 =>
 Br t41
(R (.returned (V false)) w41)
(K21 [] w41)) X) X)))))))))))
(K21 [] w28)) X)) X) X) X) X) X) X)
(fun _ w42 =>
 D (binS BinOp.add 3 (T 25) (C (I 1)) (h16 3) (I 1)) w42 (fun t43 w43 =>
 K16 [t43] w43) X))
(R (.returned (V true)) w20)) X) X) X) X))) X)
theorem sh_landfallref26_Valid_ok (v0 : Value) (h : sh_landfallref26_Valid v0 R w) : Calls Tryz.prog 14 #[v0] w R :=
  calls_of_vc (c := Tryz.f14.body.getD .skip) (args := [v0]) [(10, 11, false, 0)] [3] follows_mixed Tryz.func14 rfl (of_decide_eq_true (by kernel_rfl)) (by kernel_rfl) (Eq.mp (by kernel_rfl) h)
def sh_landfallref26_Same (v0 v1 : Value) (R : Ending → World → Prop) (w : World) : Prop := 
 letI X := Pan R
 letI D := DoV Tryz.prog
 letI B := CallB Tryz.prog
 letI I := Value.int IntKind.i64
 letI T := Operand.tmp
 letI L := Instr.loadAt
 letI F := Instr.fieldAt
 letI V := Value.bool
(D (Instr.box 24 v0) w (fun t1 w1 =>
 D (Instr.box 24 v1) w1 (fun t2 w2 =>
 JoinE [] (fun K3 =>
 JoinE [20] (fun K4 =>
 D (F 24 t1 0) w2 (fun t5 w5 =>
 D (L 3 t5) w5 (fun t6 w6 =>
 D (F 24 t2 0) w6 (fun t7 w7 =>
 D (L 3 t7) w7 (fun t8 w8 =>
 D (binS BinOp.neq 3 (T 8) (T 10) t6 t8) w8 (fun t9 w9 =>
 Gd t9 false (D (F 24 t1 1) w9 (fun t10 w10 =>
 D (L 22 t10) w10 (fun t11 w11 =>
 B Builtin.len #[22] 3 #[false] #[t11] w11 (fun t12 w12 =>
 D (F 24 t2 1) w12 (fun t13 w13 =>
 D (L 22 t13) w13 (fun t14 w14 =>
 B Builtin.len #[22] 3 #[false] #[t14] w14 (fun t15 w15 =>
 D (binS BinOp.neq 3 (T 15) (T 18) t12 t15) w15 (fun t16 w16 =>
 K4 [t16] w16) X) X) X) X) X) X) X)
(K4 [(V true)] w9)) X) X) X) X) X)
(fun h17 w17 =>
 Br (h17 20)
(R (.returned (V false)) w17)
(K3 [] w17)))
(fun _ w18 =>
 LoopE [5] [(I 0)] w18 (fun h19 w19 K19 =>
 D (F 24 t1 1) w19 (fun t20 w20 =>
 D (L 22 t20) w20 (fun t21 w21 =>
 B Builtin.len #[22] 3 #[false] #[t21] w21 (fun t22 w22 =>
 D (binS BinOp.lss 3 (T 21) (T 24) (h19 5) t22) w22 (fun t23 w23 =>
 Br t23
(DrawE w23 (fun Rs24 Rb24 w24 =>
 DetOp Rb24 Rs24 w24 (fun w25 K25 => D (F 24 t1 1) w25 K25 X) (fun c28_25 ψ25 =>
 DetOp Rb24 Rs24 w24 (fun w26 K26 => D (L 22 c28_25) w26 K26 X) (fun c29_26 ψ26 =>
 DetOp Rb24 Rs24 w24 (fun w27 K27 => D (Instr.indexAt 22 c29_26 (h19 5)) w27 K27 X) (fun c31_27 ψ27 =>
 DetOp Rb24 Rs24 w24 (fun w28 K28 => D (L 30 c31_27) w28 K28 X) (fun c32_28 ψ28 =>
 DetOp Rb24 Rs24 w24 (fun w29 K29 => D (F 24 t2 1) w29 K29 X) (fun c33_29 ψ29 =>
 DetOp Rb24 Rs24 w24 (fun w30 K30 => D (L 22 c33_29) w30 K30 X) (fun c34_30 ψ30 =>
 DetOp Rb24 Rs24 w24 (fun w31 K31 => D (Instr.indexAt 22 c34_30 (h19 5)) w31 K31 X) (fun c36_31 ψ31 =>
 DetOp Rb24 Rs24 w24 (fun w32 K32 => D (L 30 c36_31) w32 K32 X) (fun c37_32 ψ32 =>
 ∀ w33, Rb24 w24 w33 → ((((((((True ∧ ψ25 w33) ∧ ψ26 w33) ∧ ψ27 w33) ∧ ψ28 w33) ∧ ψ29 w33) ∧ ψ30 w33) ∧ ψ31 w33) ∧ ψ32 w33) →
 CallF Tryz.prog 41 #[c32_28, c37_32] w33 (fun t34 w34 =>
 D (Op.unary UnOp.not t34) w34 (fun t35 w35 =>
 Br t35
(R (.returned (V false)) w35)
(D (binS BinOp.add 3 (T 26) (Operand.const (I 1)) (h19 5) (I 1)) w35 (fun t36 w36 =>
 K19 [t36] w36) X)) X) X))))))))))
(R (.returned (V true)) w23)) X) X) X) X))) X) X)
theorem sh_landfallref26_Same_ok (v0 v1 : Value) (h : sh_landfallref26_Same v0 v1 R w) : Calls Tryz.prog 15 #[v0, v1] w R :=
  calls_of_vc (c := Tryz.f15.body.getD .skip) (args := [v0, v1]) [(6, 10, false, 0)] [5] follows_mixed Tryz.func15 rfl (of_decide_eq_true (by kernel_rfl)) (by kernel_rfl) (Eq.mp (by kernel_rfl) h)
def sh_mesh_Merge (v0 v1 : Value) (R : Ending → World → Prop) (w : World) : Prop := 
 letI X := Pan R
 letI D := DoV Tryz.prog
 letI U := DoU Tryz.prog
 letI Q := CallF Tryz.prog
 letI I := Value.int IntKind.i64
 letI L := Instr.loadAt
 letI F := Instr.fieldAt
 letI S := Instr.storeAt
(D (Instr.box 24 v0) w (fun t1 w1 =>
 D (Instr.box 24 v1) w1 (fun t2 w2 =>
 D (Instr.alloc 24 true (.tuple #[])) w2 (fun t3 w3 =>
 JoinE [] (fun K4 =>
 JoinE [14] (fun K5 =>
 D (L 24 t1) w3 (fun t6 w6 =>
 Q 13 #[t6] w6 (fun t7 w7 =>
 D (Op.unary UnOp.not t7) w7 (fun t8 w8 =>
 Gd t8 false (D (L 24 t2) w8 (fun t9 w9 =>
 Q 13 #[t9] w9 (fun t10 w10 =>
 D (Op.unary UnOp.not t10) w10 (fun t11 w11 =>
 K5 [t11] w11) X) X) X)
(K5 [(Value.bool true)] w8)) X) X) X)
(fun h12 w12 =>
 Br (h12 14)
(D (Instr.build 24 #[]) w12 (fun t13 w13 =>
 U (S 24 t3 t13) w13 (fun _ w14 =>
 Res Tryz.prog [.cell t3 24, .tmp (I 1)] w14 R) X) X)
(K4 [] w12)))
(fun _ w15 =>
 D (F 24 t1 1) w15 (fun t16 w16 =>
 D (L 22 t16) w16 (fun t17 w17 =>
 D (F 24 t2 1) w17 (fun t18 w18 =>
 D (L 22 t18) w18 (fun t19 w19 =>
 D (Instr.buildSlice 117 2 #[(0, t17), (1, t19)]) w19 (fun t20 w20 =>
 Q 42 #[t20] w20 (fun t21 w21 =>
 Q 43 #[t21, (Value.func (Fn.func 38) #[] #[])] w21 (fun _ w22 =>
 Q 44 #[t21, (Value.func (Fn.func 45) #[] #[])] w22 (fun t23 w23 =>
 CallB Tryz.prog Builtin.len #[22] 3 #[false] #[t23] w23 (fun t24 w24 =>
 D (binS BinOp.gtr 3 (Operand.tmp 27) (Operand.const (I 500)) t24 (I 500)) w24 (fun t25 w25 =>
 Br t25
(D (Instr.build 24 #[]) w25 (fun t26 w26 =>
 U (S 24 t3 t26) w26 (fun _ w27 =>
 Res Tryz.prog [.cell t3 24, .tmp (I 2)] w27 R) X) X)
(D (F 24 t1 0) w25 (fun t28 w28 =>
 D (L 3 t28) w28 (fun t29 w29 =>
 D (Instr.build 24 #[(0, t29), (1, t23)]) w29 (fun t30 w30 =>
 U (S 24 t3 t30) w30 (fun _ w31 =>
 Res Tryz.prog [.cell t3 24, .tmp (I 0)] w31 R) X) X) X) X)) X) X) X) X) X) X) X) X) X) X)) X) X) X)
theorem sh_mesh_Merge_ok (v0 v1 : Value) (h : sh_mesh_Merge v0 v1 R w) : Calls Tryz.prog 16 #[v0, v1] w R :=
  calls_of_vc (c := Tryz.f16.body.getD .skip) (args := [v0, v1]) [] [] follows_mixed Tryz.func16 rfl (of_decide_eq_true (by kernel_rfl)) (by kernel_rfl) (Eq.mp (by kernel_rfl) h)
def sh_mesh_Known (v0 v1 : Value) (R : Ending → World → Prop) (w : World) : Prop := 
 letI X := Pan R
 letI D := DoV Tryz.prog
 letI U := DoU Tryz.prog
 letI Q := CallF Tryz.prog
 letI B := CallB Tryz.prog
 letI I := Value.int IntKind.i64
 letI T := Operand.tmp
 letI C := Operand.const
 letI L := Instr.loadAt
 letI F := Instr.fieldAt
 letI S := Instr.storeAt
 letI A := Instr.indexAt
 letI N := Instr.alloc
(D (Instr.box 24 v0) w (fun t1 w1 =>
 JoinE [4, 5, 6] (fun K2 =>
 JoinE [18] (fun K3 =>
 D (L 24 t1) w1 (fun t4 w4 =>
 Q 13 #[t4] w4 (fun t5 w5 =>
 D (Op.unary UnOp.not t5) w5 (fun t6 w6 =>
 Gd t6 false (Q 34 #[v1] w6 (fun t7 w7 =>
 D (Op.unary UnOp.not t7) w7 (fun t8 w8 =>
 K3 [t8] w8) X) X)
(K3 [(Value.bool true)] w6)) X) X) X)
(fun h9 w9 =>
 Br (h9 18)
(R (.returned (Value.tuple #[(Value.slice none 0 0), (Value.int IntKind.u64 0), (I 1)])) w9)
(K2 [(Value.slice none 0 0), (Value.int IntKind.u64 0), (I 0)] w9)))
(fun h10 w10 =>
 D (Instr.buildSlice 91 1 #[(0, v1)]) w10 (fun t11 w11 =>
 Q 46 #[t11] w11 (fun t12 w12 =>
 D (Instr.buildSlice 80 1 #[(0, t12)]) w12 (fun t13 w13 =>
 D (Instr.build 82 #[(0, v1), (2, t13)]) w13 (fun t14 w14 =>
 D (Instr.box 82 t14) w14 (fun t15 w15 =>
 D (N 78 true (.tuple #[])) w15 (fun t16 w16 =>
 U (S 78 t16 t15) w16 (fun _ w17 =>
 D (L 78 t16) w17 (fun t18 w18 =>
 D (F 24 t1 1) w18 (fun t19 w19 =>
 D (L 22 t19) w19 (fun t20 w20 =>
 Q 47 #[t18, t20] w20 (fun t21 w21 =>
 RangeE Tryz.prog t21 1 w21 (fun D22 xs22 w23 J22 =>
 D (N 30 true (.tuple #[])) w23 (fun t24 w24 =>
 U (S 30 t24 (nth xs22 0)) w24 (fun _ w25 =>
(KeepL D22 w23 w25 ∧ ∀ o26,
 DrawE (w25.putObj (D22 + 1) o26) (fun Rs27 Rb27 w27 =>
 DetOp Rb27 Rs27 w27 (fun w28 K28 => D (F 30 t24 2) w28 K28 NoX) (fun c31_28 ψ28 =>
 DetOp Rb27 Rs27 w27 (fun w29 K29 => D (L 25 c31_28) w29 K29 NoX) (fun c32_29 ψ29 =>
 DetOp Rb27 Rs27 w27 (fun w30 K30 => D (L 78 t16) w30 K30 NoX) (fun c33_30 ψ30 =>
 DetOp Rb27 Rs27 w27 (fun w31 K31 => NilC Tryz.prog c33_30 w31 K31 NoX) (fun c34_31 ψ31 =>
 DetOp Rb27 Rs27 w27 (fun w32 K32 => D (F 82 c34_31 1) w32 K32 NoX) (fun c35_32 ψ32 =>
 DetOp Rb27 Rs27 w27 (fun w33 K33 => D (L 25 c35_32) w33 K33 NoX) (fun c36_33 ψ33 =>
 DetOp Rb27 Rs27 w27 (fun w34 K34 => B Builtin.len #[25] 3 #[false] #[c36_33] w34 K34 NoX) (fun c37_34 ψ34 =>
 DetOp Rb27 Rs27 w27 (fun w35 K35 => D (F 30 t24 1) w35 K35 NoX) (fun c38_35 ψ35 =>
 DetOp Rb27 Rs27 w27 (fun w36 K36 => D (L 3 c38_35) w36 K36 NoX) (fun c39_36 ψ36 =>
 DetOp Rb27 Rs27 w27 (fun w37 K37 => D (binS BinOp.sub 3 (T 37) (T 39) c37_34 c39_36) w37 K37 NoX) (fun c40_37 ψ37 =>
 DetOp Rb27 Rs27 w27 (fun w38 K38 => D (binS BinOp.add 3 (T 40) (C (I 1)) c40_37 (I 1)) w38 K38 NoX) (fun c41_38 ψ38 =>
 DetOp Rb27 Rs27 w27 (fun w39 K39 => D (Instr.sliceAt 25 c32_29 (some c41_38) none none) w39 K39 NoX) (fun c42_39 ψ39 =>
 DetOp Rb27 Rs27 w27 (fun w40 K40 => B Builtin.len #[25] 3 #[false] #[c42_39] w40 K40 NoX) (fun c43_40 ψ40 =>
 ∀ w41, Rb27 w27 w41 → (((((((((((((True ∧ ψ28 w41) ∧ ψ29 w41) ∧ ψ30 w41) ∧ ψ31 w41) ∧ ψ32 w41) ∧ ψ33 w41) ∧ ψ34 w41) ∧ ψ35 w41) ∧ ψ36 w41) ∧ ψ37 w41) ∧ ψ38 w41) ∧ ψ39 w41) ∧ ψ40 w41) →
 LoopE [44] [(I 0)] w41 (fun h42 w42 K42 =>
 D (binS BinOp.lss 3 (T 44) (T 43) (h42 44) c43_40) w42 (fun t43 w43 =>
 Br t43
(D (A 25 c42_39 (h42 44)) w43 (fun t44 w44 =>
 D (L 89 t44) w44 (fun t45 w45 =>
 D (N 89 true (.tuple #[])) w45 (fun t46 w46 =>
 U (S 89 t46 t45) w46 (fun _ w47 =>
 DrawR w47 (fun R48 S48 w48 =>
 DetOp R48 (Both R48 S48) w48 (fun w49 K49 => D (L 78 t16) w49 K49 NoX) (fun c48_49 ψ49 =>
 DetOp R48 (Both R48 S48) w48 (fun w50 K50 => D (L 78 t16) w50 K50 NoX) (fun c49_50 ψ50 =>
 DetOp R48 (Both R48 S48) w48 (fun w51 K51 => NilC Tryz.prog c49_50 w51 K51 NoX) (fun c50_51 ψ51 =>
 DetOp R48 (Both R48 S48) w48 (fun w52 K52 => D (F 82 c50_51 1) w52 K52 NoX) (fun c51_52 ψ52 =>
 DetOp R48 (Both R48 S48) w48 (fun w53 K53 => D (L 25 c51_52) w53 K53 NoX) (fun c52_53 ψ53 =>
 DetOp R48 (Both R48 S48) w48 (fun w54 K54 => D (L 89 t46) w54 K54 NoX) (fun c53_54 ψ54 =>
 ThrE R48 S48 0 w48 (fun Θ48_0 T48_0 =>
 NdC R48 S48 0 w48 Θ48_0 (fun w55 K55 => D (Instr.buildSlice 25 1 #[(0, c53_54)]) w55 K55 NoX) (fun v54_55 φ55 =>
 NdC R48 S48 0 w48 φ55 (fun w56 K56 => B Builtin.append #[25, 25] 25 #[false, false] #[c52_53, v54_55] w56 K56 NoX) (fun v55_56 φ56 =>
 T48_0 [v54_55, v55_56] φ56))) (fun Φ48_0 =>
 ∀ (h57 : Nat → Value) (w58 : World), R48 w48 w58 → ((((((True ∧ ψ49 w58) ∧ ψ50 w58) ∧ ψ51 w58) ∧ ψ52 w58) ∧ ψ53 w58) ∧ ψ54 w58) ∧ (True ∧ Φ48_0 [(h57 54), (h57 55)] w58) →
 NilC Tryz.prog c48_49 w58 (fun t59 w59 =>
 D (F 82 t59 1) w59 (fun t60 w60 =>
 U (S 25 t60 (h57 55)) w60 (fun _ w61 =>
 DrawR w61 (fun R62 S62 w62 =>
 DetOp R62 (Both R62 S62) w62 (fun w63 K63 => D (L 78 t16) w63 K63 NoX) (fun c58_63 ψ63 =>
 DetOp R62 (Both R62 S62) w62 (fun w64 K64 => D (L 78 t16) w64 K64 NoX) (fun c59_64 ψ64 =>
 DetOp R62 (Both R62 S62) w62 (fun w65 K65 => NilC Tryz.prog c59_64 w65 K65 NoX) (fun c60_65 ψ65 =>
 DetOp R62 (Both R62 S62) w62 (fun w66 K66 => D (F 82 c60_65 2) w66 K66 NoX) (fun c61_66 ψ66 =>
 DetOp R62 (Both R62 S62) w62 (fun w67 K67 => D (L 80 c61_66) w67 K67 NoX) (fun c62_67 ψ67 =>
 DetOp R62 (Both R62 S62) w62 (fun w68 K68 => D (L 78 t16) w68 K68 NoX) (fun c63_68 ψ68 =>
 DetOp R62 (Both R62 S62) w62 (fun w69 K69 => NilC Tryz.prog c63_68 w69 K69 NoX) (fun c64_69 ψ69 =>
 DetOp R62 (Both R62 S62) w62 (fun w70 K70 => D (F 82 c64_69 2) w70 K70 NoX) (fun c65_70 ψ70 =>
 DetOp R62 (Both R62 S62) w62 (fun w71 K71 => D (L 80 c65_70) w71 K71 NoX) (fun c66_71 ψ71 =>
 DetOp R62 (Both R62 S62) w62 (fun w72 K72 => D (L 78 t16) w72 K72 NoX) (fun c67_72 ψ72 =>
 DetOp R62 (Both R62 S62) w62 (fun w73 K73 => NilC Tryz.prog c67_72 w73 K73 NoX) (fun c68_73 ψ73 =>
 DetOp R62 (Both R62 S62) w62 (fun w74 K74 => D (F 82 c68_73 2) w74 K74 NoX) (fun c69_74 ψ74 =>
 DetOp R62 (Both R62 S62) w62 (fun w75 K75 => D (L 80 c69_74) w75 K75 NoX) (fun c70_75 ψ75 =>
 DetOp R62 (Both R62 S62) w62 (fun w76 K76 => B Builtin.len #[80] 3 #[false] #[c70_75] w76 K76 NoX) (fun c71_76 ψ76 =>
 DetOp R62 (Both R62 S62) w62 (fun w77 K77 => D (binS BinOp.sub 3 (T 71) (C (I 1)) c71_76 (I 1)) w77 K77 NoX) (fun c72_77 ψ77 =>
 DetOp R62 (Both R62 S62) w62 (fun w78 K78 => D (A 80 c66_71 c72_77) w78 K78 NoX) (fun c73_78 ψ78 =>
 DetOp R62 (Both R62 S62) w62 (fun w79 K79 => D (L 26 c73_78) w79 K79 NoX) (fun c74_79 ψ79 =>
 DetOp R62 (Both R62 S62) w62 (fun w80 K80 => D (L 89 t46) w80 K80 NoX) (fun c75_80 ψ80 =>
 ThrE R62 S62 0 w62 (fun Θ62_0 T62_0 =>
 NdC R62 S62 0 w62 Θ62_0 (fun w81 K81 => Q 49 #[c75_80] w81 K81 NoX) (fun v76_81 φ81 =>
 NdC R62 S62 0 w62 φ81 (fun w82 K82 => Q 48 #[c74_79, v76_81] w82 K82 NoX) (fun v77_82 φ82 =>
 NdC R62 S62 0 w62 φ82 (fun w83 K83 => D (Instr.buildSlice 80 1 #[(0, v77_82)]) w83 K83 NoX) (fun v78_83 φ83 =>
 NdC R62 S62 0 w62 φ83 (fun w84 K84 => B Builtin.append #[80, 80] 80 #[false, false] #[c62_67, v78_83] w84 K84 NoX) (fun v79_84 φ84 =>
 T62_0 [v76_81, v77_82, v78_83, v79_84] φ84))))) (fun Φ62_0 =>
 ∀ (h85 : Nat → Value) (w86 : World), R62 w62 w86 → ((((((((((((((((((True ∧ ψ63 w86) ∧ ψ64 w86) ∧ ψ65 w86) ∧ ψ66 w86) ∧ ψ67 w86) ∧ ψ68 w86) ∧ ψ69 w86) ∧ ψ70 w86) ∧ ψ71 w86) ∧ ψ72 w86) ∧ ψ73 w86) ∧ ψ74 w86) ∧ ψ75 w86) ∧ ψ76 w86) ∧ ψ77 w86) ∧ ψ78 w86) ∧ ψ79 w86) ∧ ψ80 w86) ∧ (True ∧ Φ62_0 [(h85 76), (h85 77), (h85 78), (h85 79)] w86) →
 NilC Tryz.prog c58_63 w86 (fun t87 w87 =>
 D (F 82 t87 2) w87 (fun t88 w88 =>
 U (S 80 t88 (h85 79)) w88 (fun _ w89 =>
 D (binS BinOp.add 3 (T 44) (C (I 1)) (h42 44) (I 1)) w89 (fun t90 w90 =>
 K42 [t90] w90) NoX) NoX) NoX) NoX))))))))))))))))))))) NoX) NoX) NoX))))))))) NoX) NoX) NoX) NoX)
((KeepL D22 (w25.putObj (D22 + 1) o26) w43 ∧ ∀ o91, J22 .normal (w43.putObj (D22 + 1) o91)))) NoX))))))))))))))))) NoX) NoX)
(fun D92 w93 =>
 DrawE w93 (fun Rs94 Rb94 w94 =>
 DetOp Rb94 Rs94 w94 (fun w95 K95 => D (L 78 t16) w95 K95 NoX) (fun c83_95 ψ95 =>
 DetOp Rb94 Rs94 w94 (fun w96 K96 => NilC Tryz.prog c83_95 w96 K96 NoX) (fun c84_96 ψ96 =>
 DetOp Rb94 Rs94 w94 (fun w97 K97 => D (F 82 c84_96 1) w97 K97 NoX) (fun c85_97 ψ97 =>
 DetOp Rb94 Rs94 w94 (fun w98 K98 => D (L 25 c85_97) w98 K98 NoX) (fun c86_98 ψ98 =>
 DetOp Rb94 Rs94 w94 (fun w99 K99 => D (L 78 t16) w99 K99 NoX) (fun c87_99 ψ99 =>
 DetOp Rb94 Rs94 w94 (fun w100 K100 => NilC Tryz.prog c87_99 w100 K100 NoX) (fun c88_100 ψ100 =>
 DetOp Rb94 Rs94 w94 (fun w101 K101 => D (F 82 c88_100 2) w101 K101 NoX) (fun c89_101 ψ101 =>
 DetOp Rb94 Rs94 w94 (fun w102 K102 => D (L 80 c89_101) w102 K102 NoX) (fun c90_102 ψ102 =>
 DetOp Rb94 Rs94 w94 (fun w103 K103 => D (L 78 t16) w103 K103 NoX) (fun c91_103 ψ103 =>
 DetOp Rb94 Rs94 w94 (fun w104 K104 => NilC Tryz.prog c91_103 w104 K104 NoX) (fun c92_104 ψ104 =>
 DetOp Rb94 Rs94 w94 (fun w105 K105 => D (F 82 c92_104 2) w105 K105 NoX) (fun c93_105 ψ105 =>
 DetOp Rb94 Rs94 w94 (fun w106 K106 => D (L 80 c93_105) w106 K106 NoX) (fun c94_106 ψ106 =>
 DetOp Rb94 Rs94 w94 (fun w107 K107 => B Builtin.len #[80] 3 #[false] #[c94_106] w107 K107 NoX) (fun c95_107 ψ107 =>
 DetOp Rb94 Rs94 w94 (fun w108 K108 => D (binS BinOp.sub 3 (T 95) (C (I 1)) c95_107 (I 1)) w108 K108 NoX) (fun c96_108 ψ108 =>
 DetOp Rb94 Rs94 w94 (fun w109 K109 => D (A 80 c90_102 c96_108) w109 K109 NoX) (fun c97_109 ψ109 =>
 DetOp Rb94 Rs94 w94 (fun w110 K110 => D (L 26 c97_109) w110 K110 NoX) (fun c98_110 ψ110 =>
 ∀ w111, Rb94 w94 w111 → ((((((((((((((((True ∧ ψ95 w111) ∧ ψ96 w111) ∧ ψ97 w111) ∧ ψ98 w111) ∧ ψ99 w111) ∧ ψ100 w111) ∧ ψ101 w111) ∧ ψ102 w111) ∧ ψ103 w111) ∧ ψ104 w111) ∧ ψ105 w111) ∧ ψ106 w111) ∧ ψ107 w111) ∧ ψ108 w111) ∧ ψ109 w111) ∧ ψ110 w111) →
 MarkE D92 w111 (fun w112 => R (.returned (Value.tuple #[c86_98, c98_110, (I 0)])) w112)))))))))))))))))))
(fun D113 w114 =>
 MarkE D113 w114 (fun w115 => R (.returned (Value.tuple #[(h10 4), (h10 5), (h10 6)])) w115))
[]) X) X) X) X) X) X) X) X) X) X) X)) X)
theorem sh_mesh_Known_ok (v0 v1 : Value) (h : sh_mesh_Known v0 v1 R w) : Calls Tryz.prog 18 #[v0, v1] w R :=
  calls_of_vcM (c := Tryz.f18.body.getD .skip) (args := [v0, v1]) [(6, 14, false, 0), (9, 8, false, 2360296), (10, 22, false, 10538423128046961640), (12, 17, false, 0)] [4, 5, 6, 44] follows_mixed Tryz.func18 rfl (of_decide_eq_true (by kernel_rfl)) (by kernel_rfl) (Eq.mp (by kernel_rfl) h)
def sh_landfalllaw26_example (v0 : Value) (R : Ending → World → Prop) (w : World) : Prop := 
 letI X := Pan R
 letI D := DoV Tryz.prog
 letI U := DoU Tryz.prog
 letI I := Value.int IntKind.i64
 letI T := Operand.tmp
 letI C := Operand.const
 letI S := Instr.storeAt
(D (Instr.alloc 52 true (.tuple #[])) w (fun t1 w1 =>
 D (Instr.build 104 #[]) w1 (fun t2 w2 =>
 D (Instr.buildSlice 105 1 #[(0, t2)]) w2 (fun t3 w3 =>
 D (Instr.buildSlice 50 1 #[(0, t3)]) w3 (fun t4 w4 =>
 D (Instr.build 52 #[(0, (I 3)), (1, t4)]) w4 (fun t5 w5 =>
 D (Instr.alloc 52 true (.tuple #[])) w5 (fun t6 w6 =>
 U (S 52 t6 t5) w6 (fun _ w7 =>
 LoopE [10] [(I 0)] w7 (fun h8 w8 K8 =>
 D (binS BinOp.lss 3 (T 10) (T 9) (h8 10) v0) w8 (fun t9 w9 =>
 Br t9
(D (Instr.fieldAt 52 t6 2) w9 (fun t10 w10 =>
 D (Instr.loadAt 25 t10) w10 (fun t11 w11 =>
 D (binS BinOp.add 3 (T 15) (C (I 1)) (h8 10) (I 1)) w11 (fun t12 w12 =>
 D (binS BinOp.mul 3 (C (I 10)) (T 17) (I 10) (h8 10)) w12 (fun t13 w13 =>
 D (Instr.build 87 #[(0, (h8 10)), (1, (I 50))]) w13 (fun t14 w14 =>
 D (Instr.build 89 #[(0, t12), (1, t13), (2, (I 3)), (3, (I 1)), (4, (I 7)), (7, t14)]) w14 (fun t15 w15 =>
 D (Instr.buildSlice 25 1 #[(0, t15)]) w15 (fun t16 w16 =>
 CallB Tryz.prog Builtin.append #[25, 25] 25 #[false, false] #[t11, t16] w16 (fun t17 w17 =>
 D (Instr.fieldAt 52 t6 2) w17 (fun t18 w18 =>
 U (S 25 t18 t17) w18 (fun _ w19 =>
 D (binS BinOp.add 3 (T 10) (C (I 1)) (h8 10) (I 1)) w19 (fun t20 w20 =>
 K8 [t20] w20) X) X) X) X) X) X) X) X) X) X) X)
(D (Instr.loadAt 52 t6) w9 (fun t21 w21 =>
 U (S 52 t1 t21) w21 (fun _ w22 =>
 Res Tryz.prog [.cell t1 52] w22 R) X) X)) X)) X) X) X) X) X) X) X)
theorem sh_landfalllaw26_example_ok (v0 : Value) (h : sh_landfalllaw26_example v0 R w) : Calls Tryz.prog 28 #[v0] w R :=
  calls_of_vc (c := Tryz.f28.body.getD .skip) (args := [v0]) [] [10] follows_mixed Tryz.func28 rfl (of_decide_eq_true (by kernel_rfl)) (by kernel_rfl) (Eq.mp (by kernel_rfl) h)
def sh_mesh_put (v0 v1 : Value) (R : Ending → World → Prop) (w : World) : Prop := 
 letI X := Pan R
 letI D := DoV Tryz.prog
 letI Q := CallF Tryz.prog
 letI L := Instr.loadAt
(D (Instr.box 30 v1) w (fun t1 w1 =>
 D (L 30 t1) w1 (fun t2 w2 =>
 Q 65 #[v0, t2, (Value.func (Fn.func 38) #[] #[])] w2 (fun t3 w3 =>
 D (Instr.extract t3 0) w3 (fun t4 w4 =>
 D (Instr.extract t3 1) w4 (fun t5 w5 =>
 Br t5
(R (.returned v0) w5)
(D (Instr.fieldAt 30 t1 2) w5 (fun t6 w6 =>
 D (L 25 t6) w6 (fun t7 w7 =>
 Q 62 #[t7] w7 (fun t8 w8 =>
 D (Instr.fieldAt 30 t1 2) w8 (fun t9 w9 =>
 DoU Tryz.prog (Instr.storeAt 25 t9 t8) w9 (fun _ w10 =>
 DrawR w10 (fun R11 S11 w11 =>
 DetOp R11 (Both R11 S11) w11 (fun w12 K12 => D (L 30 t1) w12 K12 X) (fun c22_12 ψ12 =>
 ThrE R11 S11 0 w11 (fun Θ11_0 T11_0 =>
 NdC R11 S11 0 w11 Θ11_0 (fun w13 K13 => Q 67 #[v0] w13 K13 X) (fun v20_13 φ13 =>
 T11_0 [v20_13] φ13)) (fun Φ11_0 =>
 ThrE R11 S11 1 w11 (fun Θ11_1 T11_1 =>
 NdC R11 S11 1 w11 Θ11_1 (fun w14 K14 => D (Instr.buildSlice 22 1 #[(0, c22_12)]) w14 K14 X) (fun v23_14 φ14 =>
 T11_1 [v23_14] φ14)) (fun Φ11_1 =>
 ∀ (h15 : Nat → Value) (w16 : World), R11 w11 w16 → (True ∧ ψ12 w16) ∧ ((True ∧ Φ11_0 [(h15 20)] w16) ∧ Φ11_1 [(h15 23)] w16) →
 Q 66 #[(h15 20), t4, (h15 23)] w16 (fun t17 w17 =>
 R (.returned t17) w17) X))))) X) X) X) X) X)) X) X) X) X) X)
theorem sh_mesh_put_ok (v0 v1 : Value) (h : sh_mesh_put v0 v1 R w) : Calls Tryz.prog 31 #[v0, v1] w R :=
  calls_of_vc (c := Tryz.f31.body.getD .skip) (args := [v0, v1]) [(5, 5, false, 9200)] [] follows_mixed Tryz.func31 rfl (of_decide_eq_true (by kernel_rfl)) (by kernel_rfl) (Eq.mp (by kernel_rfl) h)
def sh_mesh_isID (v0 : Value) (R : Ending → World → Prop) (w : World) : Prop := 
 letI I := Value.int IntKind.i64
(DoV Tryz.prog (binS BinOp.geq 3 (Operand.tmp 3) (Operand.const (I 1)) v0 (I 1)) w (fun t1 w1 =>
 Gd t1 true (DoV Tryz.prog (binS BinOp.leq 3 (Operand.tmp 6) (Operand.const (I 1000000)) v0 (I 1000000)) w1 (fun t2 w2 =>
 R (.returned t2) w2) (Pan R))
(R (.returned (Value.bool false)) w1)) (Pan R))
theorem sh_mesh_isID_ok (v0 : Value) (h : sh_mesh_isID v0 R w) : Calls Tryz.prog 34 #[v0] w R :=
  calls_of_vc (c := Tryz.f34.body.getD .skip) (args := [v0]) [] [] follows_mixed Tryz.func34 rfl (of_decide_eq_true (by kernel_rfl)) (by kernel_rfl) (Eq.mp (by kernel_rfl) h)
def sh_mesh_Valid_1 (v0 : Value) (R : Ending → World → Prop) (w : World) : Prop := 
 letI X := Pan R
 letI D := DoV Tryz.prog
(D (Instr.box 30 v0) w (fun t1 w1 =>
 D (Instr.loadAt 30 t1) w1 (fun t2 w2 =>
 CallF Tryz.prog 36 #[t2] w2 (fun t3 w3 =>
 D (Op.unary UnOp.not t3) w3 (fun t4 w4 =>
 R (.returned t4) w4) X) X) X) X)
theorem sh_mesh_Valid_1_ok (v0 : Value) (h : sh_mesh_Valid_1 v0 R w) : Calls Tryz.prog 35 #[v0] w R :=
  calls_of_vc (c := Tryz.f35.body.getD .skip) (args := [v0]) [] [] follows_mixed Tryz.func35 rfl (of_decide_eq_true (by kernel_rfl)) (by kernel_rfl) (Eq.mp (by kernel_rfl) h)
def sh_mesh_formed (v0 : Value) (R : Ending → World → Prop) (w : World) : Prop := 
 letI X := Pan R
 letI D := DoV Tryz.prog
 letI I := Value.int IntKind.i64
(D (Instr.box 30 v0) w (fun t1 w1 =>
 D (Instr.build 28 #[]) w1 (fun t2 w2 =>
 D (Instr.fieldAt 30 t1 5) w2 (fun t3 w3 =>
 DoU Tryz.prog (Instr.storeAt 28 t3 t2) w3 (fun _ w4 =>
 D (Instr.loadAt 30 t1) w4 (fun t5 w5 =>
 CallF Tryz.prog 21 #[t5, (I 4)] w5 (fun t6 w6 =>
 D (Instr.extract t6 0) w6 (fun _ w7 =>
 D (Instr.extract t6 1) w7 (fun t8 w8 =>
 D (binS BinOp.eql 33 (Operand.tmp 12) (Operand.const (I 0)) t8 (I 0)) w8 (fun t9 w9 =>
 R (.returned t9) w9) X) X) X) X) X) X) X) X) X)
theorem sh_mesh_formed_ok (v0 : Value) (h : sh_mesh_formed v0 R w) : Calls Tryz.prog 36 #[v0] w R :=
  calls_of_vc (c := Tryz.f36.body.getD .skip) (args := [v0]) [] [] follows_mixed Tryz.func36 rfl (of_decide_eq_true (by kernel_rfl)) (by kernel_rfl) (Eq.mp (by kernel_rfl) h)
def sh_slices_ContainsFunc___api_Report_api_Report_ (v0 v1 : Value) (R : Ending → World → Prop) (w : World) : Prop := 
 letI I := Value.int IntKind.i64
(CallF Tryz.prog 72 #[v0, v1] w (fun t1 w1 =>
 DoV Tryz.prog (binS BinOp.geq 3 (Operand.tmp 7) (Operand.const (I 0)) t1 (I 0)) w1 (fun t2 w2 =>
 R (.returned t2) w2) (Pan R)) (Pan R))
theorem sh_slices_ContainsFunc___api_Report_api_Report__ok (v0 v1 : Value) (h : sh_slices_ContainsFunc___api_Report_api_Report_ v0 v1 R w) : Calls Tryz.prog 37 #[v0, v1] w R :=
  calls_of_vc (c := Tryz.f37.body.getD .skip) (args := [v0, v1]) [] [] follows_mixed Tryz.func37 rfl (of_decide_eq_true (by kernel_rfl)) (by kernel_rfl) (Eq.mp (by kernel_rfl) h)
def sh_mesh_order (v0 v1 : Value) (R : Ending → World → Prop) (w : World) : Prop := 
 letI X := Pan R
 letI D := DoV Tryz.prog
 letI Q := CallF Tryz.prog
(D (Instr.box 30 v0) w (fun t1 w1 =>
 D (Instr.box 30 v1) w1 (fun t2 w2 =>
 DrawR w2 (fun R3 S3 w3 =>
 DetOp R3 (Both R3 S3) w3 (fun w4 K4 => D (Instr.loadAt 30 t1) w4 K4 X) (fun c5_4 ψ4 =>
 DetOp R3 (Both R3 S3) w3 (fun w5 K5 => D (Instr.loadAt 30 t2) w5 K5 X) (fun c7_5 ψ5 =>
 ThrE R3 S3 0 w3 (fun Θ3_0 T3_0 =>
 NdC R3 S3 0 w3 Θ3_0 (fun w6 K6 => Q 74 #[c5_4] w6 K6 X) (fun v6_6 φ6 =>
 T3_0 [v6_6] φ6)) (fun Φ3_0 =>
 ∀ (h7 : Nat → Value) (w8 : World), R3 w3 w8 → ((True ∧ ψ4 w8) ∧ ψ5 w8) ∧ (True ∧ Φ3_0 [(h7 6)] w8) →
 Q 74 #[c7_5] w8 (fun t9 w9 =>
 Q 73 #[(h7 6), t9] w9 (fun t10 w10 =>
 R (.returned t10) w10) X) X))))) X) X)
theorem sh_mesh_order_ok (v0 v1 : Value) (h : sh_mesh_order v0 v1 R w) : Calls Tryz.prog 38 #[v0, v1] w R :=
  calls_of_vc (c := Tryz.f38.body.getD .skip) (args := [v0, v1]) [(1, 3, false, 1008)] [] follows_mixed Tryz.func38 rfl (of_decide_eq_true (by kernel_rfl)) (by kernel_rfl) (Eq.mp (by kernel_rfl) h)
def sh_landfallref26_Less (v0 v1 : Value) (R : Ending → World → Prop) (w : World) : Prop := 
 letI X := Pan R
 letI D := DoV Tryz.prog
 letI Q := CallF Tryz.prog
 letI B := CallB Tryz.prog
 letI I := Value.int IntKind.i64
 letI T := Operand.tmp
 letI L := Instr.loadAt
 letI A := Instr.indexAt
 letI M := BinOp.lss
(D (Instr.box 30 v0) w (fun t1 w1 =>
 D (Instr.box 30 v1) w1 (fun t2 w2 =>
 D (L 30 t1) w2 (fun t3 w3 =>
 Q 75 #[t3] w3 (fun t4 w4 =>
 D (L 30 t2) w4 (fun t5 w5 =>
 Q 75 #[t5] w5 (fun t6 w6 =>
 LoopE [7] [(I 0)] w6 (fun h7 w7 K7 =>
 JoinE [] (fun K8 =>
 B Builtin.len #[91] 3 #[false] #[t4] w7 (fun t9 w9 =>
 D (binS M 3 (T 12) (T 14) (h7 7) t9) w9 (fun t10 w10 =>
 Gd t10 true (B Builtin.len #[91] 3 #[false] #[t6] w10 (fun t11 w11 =>
 D (binS M 3 (T 17) (T 19) (h7 7) t11) w11 (fun t12 w12 =>
 Br t12
(K8 [] w12)
(B Builtin.len #[91] 3 #[false] #[t4] w12 (fun t13 w13 =>
 B Builtin.len #[91] 3 #[false] #[t6] w13 (fun t14 w14 =>
 D (binS M 3 (T 43) (T 45) t13 t14) w14 (fun t15 w15 =>
 R (.returned t15) w15) X) X) X)) X) X)
(B Builtin.len #[91] 3 #[false] #[t4] w10 (fun t16 w16 =>
 B Builtin.len #[91] 3 #[false] #[t6] w16 (fun t17 w17 =>
 D (binS M 3 (T 43) (T 45) t16 t17) w17 (fun t18 w18 =>
 R (.returned t18) w18) X) X) X)) X) X)
(fun _ w19 =>
 DrawE w19 (fun Rs20 Rb20 w20 =>
 DetOp Rb20 Rs20 w20 (fun w21 K21 => D (A 91 t4 (h7 7)) w21 K21 X) (fun c26_21 ψ21 =>
 DetOp Rb20 Rs20 w20 (fun w22 K22 => D (L 3 c26_21) w22 K22 X) (fun c27_22 ψ22 =>
 DetOp Rb20 Rs20 w20 (fun w23 K23 => D (A 91 t6 (h7 7)) w23 K23 X) (fun c30_23 ψ23 =>
 DetOp Rb20 Rs20 w20 (fun w24 K24 => D (L 3 c30_23) w24 K24 X) (fun c31_24 ψ24 =>
 ∀ w25, Rb20 w20 w25 → ((((True ∧ ψ21 w25) ∧ ψ22 w25) ∧ ψ23 w25) ∧ ψ24 w25) →
 D (binS BinOp.neq 3 (T 27) (T 31) c27_22 c31_24) w25 (fun t26 w26 =>
 Br t26
(DrawE w26 (fun Rs27 Rb27 w27 =>
 DetOp Rb27 Rs27 w27 (fun w28 K28 => D (A 91 t4 (h7 7)) w28 K28 X) (fun c35_28 ψ28 =>
 DetOp Rb27 Rs27 w27 (fun w29 K29 => D (L 3 c35_28) w29 K29 X) (fun c36_29 ψ29 =>
 DetOp Rb27 Rs27 w27 (fun w30 K30 => D (A 91 t6 (h7 7)) w30 K30 X) (fun c39_30 ψ30 =>
 DetOp Rb27 Rs27 w27 (fun w31 K31 => D (L 3 c39_30) w31 K31 X) (fun c40_31 ψ31 =>
 ∀ w32, Rb27 w27 w32 → ((((True ∧ ψ28 w32) ∧ ψ29 w32) ∧ ψ30 w32) ∧ ψ31 w32) →
 D (binS M 3 (T 36) (T 40) c36_29 c40_31) w32 (fun t33 w33 =>
 R (.returned t33) w33) X))))))
(D (binS BinOp.add 3 (T 22) (Operand.const (I 1)) (h7 7) (I 1)) w26 (fun t34 w34 =>
 K7 [t34] w34) X)) X)))))))) X) X) X) X) X) X)
theorem sh_landfallref26_Less_ok (v0 v1 : Value) (h : sh_landfallref26_Less v0 v1 R w) : Calls Tryz.prog 40 #[v0, v1] w R :=
  calls_of_vc (c := Tryz.f40.body.getD .skip) (args := [v0, v1]) [(6, 8, false, 0), (7, 8, false, 0)] [7] follows_mixed Tryz.func40 rfl (of_decide_eq_true (by kernel_rfl)) (by kernel_rfl) (Eq.mp (by kernel_rfl) h)
def sh_slices_Concat___api_Report_api_Report_ (v0 : Value) (R : Ending → World → Prop) (w : World) : Prop := 
 letI X := Pan R
 letI D := DoV Tryz.prog
 letI B := CallB Tryz.prog
 letI I := Value.int IntKind.i64
 letI T := Operand.tmp
 letI C := Operand.const
 letI M := BinOp.lss
 letI O := BinOp.add
(B Builtin.len #[117] 3 #[false] #[v0] w (fun t1 w1 =>
 LoopE [3, 11] [(I 0), (I 0)] w1 (fun h2 w2 K2 =>
 D (binS M 3 (T 11) (T 10) (h2 11) t1) w2 (fun t3 w3 =>
 Br t3
(JoinE [3] (fun K4 =>
 D (Instr.indexAt 117 v0 (h2 11)) w3 (fun t5 w5 =>
 D (Instr.loadAt 22 t5) w5 (fun t6 w6 =>
 B Builtin.len #[22] 3 #[false] #[t6] w6 (fun t7 w7 =>
 D (binS O 3 (T 15) (T 17) (h2 3) t7) w7 (fun t8 w8 =>
 D (binS M 3 (T 19) (C (I 0)) t8 (I 0)) w8 (fun t9 w9 =>
 Br t9
(D (Instr.makeInterface 9 (Value.string { data := #[108, 101, 110, 32, 111, 117, 116, 32, 111, 102, 32, 114, 97, 110, 103, 101] })) w9 (fun t10 w10 =>
 D (Instr.panic t10) w10 (fun _ w11 =>
 K4 [t8] w11) X) X)
(K4 [t8] w9)) X) X) X) X) X)
(fun h12 w12 =>
 D (binS O 3 (T 11) (C (I 1)) (h2 11) (I 1)) w12 (fun t13 w13 =>
 K2 [(h12 3), t13] w13) X))
(CallF Tryz.prog 76 #[(Value.slice none 0 0), (h2 3)] w3 (fun t14 w14 =>
 B Builtin.len #[117] 3 #[false] #[v0] w14 (fun t15 w15 =>
 LoopE [6, 27] [t14, (I 0)] w15 (fun h16 w16 K16 =>
 D (binS M 3 (T 27) (T 26) (h16 27) t15) w16 (fun t17 w17 =>
 Br t17
(D (Instr.indexAt 117 v0 (h16 27)) w17 (fun t18 w18 =>
 D (Instr.loadAt 22 t18) w18 (fun t19 w19 =>
 B Builtin.append #[22, 22] 22 #[false, false] #[(h16 6), t19] w19 (fun t20 w20 =>
 D (binS O 3 (T 27) (C (I 1)) (h16 27) (I 1)) w20 (fun t21 w21 =>
 K16 [t20, t21] w21) X) X) X) X)
(R (.returned (h16 6)) w17)) X)) X) X)) X)) X)
theorem sh_slices_Concat___api_Report_api_Report__ok (v0 : Value) (h : sh_slices_Concat___api_Report_api_Report_ v0 R w) : Calls Tryz.prog 42 #[v0] w R :=
  calls_of_vc (c := Tryz.f42.body.getD .skip) (args := [v0]) [] [3, 6, 11, 27] follows_mixed Tryz.func42 rfl (of_decide_eq_true (by kernel_rfl)) (by kernel_rfl) (Eq.mp (by kernel_rfl) h)
def sh_slices_CompactFunc___api_Report_api_Report_ (v0 v1 : Value) (R : Ending → World → Prop) (w : World) : Prop := 
 letI X := Pan R
 letI D := DoV Tryz.prog
 letI B := CallB Tryz.prog
 letI I := Value.int IntKind.i64
 letI T := Operand.tmp
 letI C := Operand.const
 letI L := Instr.loadAt
 letI A := Instr.indexAt
 letI M := BinOp.lss
 letI O := BinOp.add
(B Builtin.len #[22] 3 #[false] #[v0] w (fun t1 w1 =>
 D (binS M 3 (T 9) (C (I 2)) t1 (I 2)) w1 (fun t2 w2 =>
 Br t2
(R (.returned v0) w2)
(LoopE [5, 7] [(I 1), undef] w2 (fun h3 w3 K3 =>
 B Builtin.len #[22] 3 #[false] #[v0] w3 (fun t4 w4 =>
 D (binS M 3 (T 12) (T 14) (h3 5) t4) w4 (fun t5 w5 =>
 Br t5
(DrawE w5 (fun Rs6 Rb6 w6 =>
 DetOp Rb6 Rs6 w6 (fun w7 K7 => D (A 22 v0 (h3 5)) w7 K7 X) (fun c21_7 ψ7 =>
 DetOp Rb6 Rs6 w6 (fun w8 K8 => D (L 30 c21_7) w8 K8 X) (fun c22_8 ψ8 =>
 DetOp Rb6 Rs6 w6 (fun w9 K9 => D (binS BinOp.sub 3 (T 24) (C (I 1)) (h3 5) (I 1)) w9 K9 X) (fun c25_9 ψ9 =>
 DetOp Rb6 Rs6 w6 (fun w10 K10 => D (A 22 v0 c25_9) w10 K10 X) (fun c26_10 ψ10 =>
 DetOp Rb6 Rs6 w6 (fun w11 K11 => D (L 30 c26_10) w11 K11 X) (fun c27_11 ψ11 =>
 ∀ w12, Rb6 w6 w12 → (((((True ∧ ψ7 w12) ∧ ψ8 w12) ∧ ψ9 w12) ∧ ψ10 w12) ∧ ψ11 w12) →
 CallV Tryz.prog v1 #[c22_8, c27_11] w12 (fun t13 w13 =>
 Br t13
(D (Instr.sliceAt 22 v0 (some (h3 5)) none none) w13 (fun t14 w14 =>
 LoopE [5, 7] [(h3 5), (I 1)] w14 (fun h15 w15 K15 =>
 B Builtin.len #[22] 3 #[false] #[t14] w15 (fun t16 w16 =>
 D (binS M 3 (T 32) (T 34) (h15 7) t16) w16 (fun t17 w17 =>
 Br t17
(JoinE [5] (fun K18 =>
 DrawE w17 (fun Rs19 Rb19 w19 =>
 DetOp Rb19 Rs19 w19 (fun w20 K20 => D (A 22 t14 (h15 7)) w20 K20 X) (fun c41_20 ψ20 =>
 DetOp Rb19 Rs19 w19 (fun w21 K21 => D (L 30 c41_20) w21 K21 X) (fun c42_21 ψ21 =>
 DetOp Rb19 Rs19 w19 (fun w22 K22 => D (binS BinOp.sub 3 (T 44) (C (I 1)) (h15 7) (I 1)) w22 K22 X) (fun c45_22 ψ22 =>
 DetOp Rb19 Rs19 w19 (fun w23 K23 => D (A 22 t14 c45_22) w23 K23 X) (fun c46_23 ψ23 =>
 DetOp Rb19 Rs19 w19 (fun w24 K24 => D (L 30 c46_23) w24 K24 X) (fun c47_24 ψ24 =>
 ∀ w25, Rb19 w19 w25 → (((((True ∧ ψ20 w25) ∧ ψ21 w25) ∧ ψ22 w25) ∧ ψ23 w25) ∧ ψ24 w25) →
 CallV Tryz.prog v1 #[c42_21, c47_24] w25 (fun t26 w26 =>
 D (Op.unary UnOp.not t26) w26 (fun t27 w27 =>
 Br t27
(D (A 22 t14 (h15 7)) w27 (fun t28 w28 =>
 D (L 30 t28) w28 (fun t29 w29 =>
 D (A 22 v0 (h15 5)) w29 (fun t30 w30 =>
 DoU Tryz.prog (Instr.storeAt 30 t30 t29) w30 (fun _ w31 =>
 D (binS O 3 (T 57) (C (I 1)) (h15 5) (I 1)) w31 (fun t32 w32 =>
 K18 [t32] w32) X) X) X) X) X)
(K18 [(h15 5)] w27)) X) X)))))))
(fun h33 w33 =>
 D (binS O 3 (T 36) (C (I 1)) (h15 7) (I 1)) w33 (fun t34 w34 =>
 K15 [(h33 5), t34] w34) X))
(D (Instr.sliceAt 22 v0 (some (h15 5)) none none) w17 (fun t35 w35 =>
 B Builtin.clear #[22] 0 #[false] #[t35] w35 (fun _ w36 =>
 D (Instr.sliceAt 22 v0 none (some (h15 5)) none) w36 (fun t37 w37 =>
 R (.returned t37) w37) X) X) X)) X) X)) X)
(D (binS O 3 (T 16) (C (I 1)) (h3 5) (I 1)) w13 (fun t38 w38 =>
 K3 [t38, (h3 7)] w38) X)) X)))))))
(R (.returned v0) w5)) X) X))) X) X)
theorem sh_slices_CompactFunc___api_Report_api_Report__ok (v0 v1 : Value) (h : sh_slices_CompactFunc___api_Report_api_Report_ v0 v1 R w) : Calls Tryz.prog 44 #[v0, v1] w R :=
  calls_of_vc (c := Tryz.f44.body.getD .skip) (args := [v0, v1]) [(6, 10, false, 0), (11, 10, false, 0)] [5, 7] follows_mixed Tryz.func44 rfl (of_decide_eq_true (by kernel_rfl)) (by kernel_rfl) (Eq.mp (by kernel_rfl) h)
def sh_mesh_Merge_1 (v0 v1 : Value) (R : Ending → World → Prop) (w : World) : Prop := 
 letI X := Pan R
 letI D := DoV Tryz.prog
 letI I := Value.int IntKind.i64
(D (Instr.box 30 v0) w (fun t1 w1 =>
 D (Instr.box 30 v1) w1 (fun t2 w2 =>
 D (Instr.loadAt 30 t1) w2 (fun t3 w3 =>
 D (Instr.loadAt 30 t2) w3 (fun t4 w4 =>
 CallF Tryz.prog 38 #[t3, t4] w4 (fun t5 w5 =>
 D (binS BinOp.eql 3 (Operand.tmp 7) (Operand.const (I 0)) t5 (I 0)) w5 (fun t6 w6 =>
 R (.returned t6) w6) X) X) X) X) X) X)
theorem sh_mesh_Merge_1_ok (v0 v1 : Value) (h : sh_mesh_Merge_1 v0 v1 R w) : Calls Tryz.prog 45 #[v0, v1] w R :=
  calls_of_vc (c := Tryz.f45.body.getD .skip) (args := [v0, v1]) [] [] follows_mixed Tryz.func45 rfl (of_decide_eq_true (by kernel_rfl)) (by kernel_rfl) (Eq.mp (by kernel_rfl) h)
def sh_mesh_joined_next (v0 v1 : Value) (R : Ending → World → Prop) (w : World) : Prop := 
 letI X := Pan R
 letI D := DoV Tryz.prog
(D (Instr.box 78 v0) w (fun t1 w1 =>
 D (Instr.box 22 v1) w1 (fun t2 w2 =>
 D (Instr.makeFunc (Fn.func 79) #[] #[t2, t1]) w2 (fun t3 w3 =>
 R (.returned t3) w3) X) X) X)
theorem sh_mesh_joined_next_ok (v0 v1 : Value) (h : sh_mesh_joined_next v0 v1 R w) : Calls Tryz.prog 47 #[v0, v1] w R :=
  calls_of_vc (c := Tryz.f47.body.getD .skip) (args := [v0, v1]) [] [] follows_mixed Tryz.func47 rfl (of_decide_eq_true (by kernel_rfl)) (by kernel_rfl) (Eq.mp (by kernel_rfl) h)
def sh_mesh_entry (v0 : Value) (R : Ending → World → Prop) (w : World) : Prop := 
 letI X := Pan R
 letI D := DoV Tryz.prog
 letI L := Instr.loadAt
 letI F := Instr.fieldAt
(D (Instr.box 89 v0) w (fun t1 w1 =>
 D (F 89 t1 0) w1 (fun t2 w2 =>
 D (L 3 t2) w2 (fun t3 w3 =>
 D (F 89 t1 1) w3 (fun t4 w4 =>
 D (L 3 t4) w4 (fun t5 w5 =>
 D (F 89 t1 2) w5 (fun t6 w6 =>
 D (L 3 t6) w6 (fun t7 w7 =>
 D (F 89 t1 3) w7 (fun t8 w8 =>
 D (L 3 t8) w8 (fun t9 w9 =>
 D (F 89 t1 4) w9 (fun t10 w10 =>
 D (L 3 t10) w10 (fun t11 w11 =>
 D (F 89 t1 5) w11 (fun t12 w12 =>
 D (L 3 t12) w12 (fun t13 w13 =>
 D (F 89 t1 6) w13 (fun t14 w14 =>
 D (L 3 t14) w14 (fun t15 w15 =>
 D (F 89 t1 7) w15 (fun t16 w16 =>
 D (F 87 t16 0) w16 (fun t17 w17 =>
 D (L 3 t17) w17 (fun t18 w18 =>
 D (F 89 t1 7) w18 (fun t19 w19 =>
 D (F 87 t19 1) w19 (fun t20 w20 =>
 D (L 3 t20) w20 (fun t21 w21 =>
 D (F 89 t1 8) w21 (fun t22 w22 =>
 D (L 3 t22) w22 (fun t23 w23 =>
 D (F 89 t1 9) w23 (fun t24 w24 =>
 D (L 3 t24) w24 (fun t25 w25 =>
 D (F 89 t1 10) w25 (fun t26 w26 =>
 D (L 3 t26) w26 (fun t27 w27 =>
 D (Instr.buildSlice 91 12 #[(0, t3), (1, t5), (2, t7), (3, t9), (4, t11), (5, t13), (6, t15), (7, t18), (8, t21), (9, t23), (10, t25), (11, t27)]) w27 (fun t28 w28 =>
 CallF Tryz.prog 83 #[t28] w28 (fun t29 w29 =>
 R (.returned t29) w29) X) X) X) X) X) X) X) X) X) X) X) X) X) X) X) X) X) X) X) X) X) X) X) X) X) X) X) X) X)
theorem sh_mesh_entry_ok (v0 : Value) (h : sh_mesh_entry v0 R w) : Calls Tryz.prog 49 #[v0] w R :=
  calls_of_vc (c := Tryz.f49.body.getD .skip) (args := [v0]) [] [] follows_mixed Tryz.func49 rfl (of_decide_eq_true (by kernel_rfl)) (by kernel_rfl) (Eq.mp (by kernel_rfl) h)
def sh_slices_BinarySearchFunc___api_Report_api_Report_api_Report_ (v0 v1 v2 : Value) (R : Ending → World → Prop) (w : World) : Prop := 
 letI X := Pan R
 letI D := DoV Tryz.prog
 letI I := Value.int IntKind.i64
 letI T := Operand.tmp
 letI C := Operand.const
 letI L := Instr.loadAt
 letI M := BinOp.lss
(D (Instr.box 30 v1) w (fun t1 w1 =>
 CallB Tryz.prog Builtin.len #[22] 3 #[false] #[v0] w1 (fun t2 w2 =>
 LoopE [9, 10] [(I 0), t2] w2 (fun h3 w3 K3 =>
 D (binS M 3 (T 15) (T 16) (h3 9) (h3 10)) w3 (fun t4 w4 =>
 Br t4
(D (binS BinOp.add 3 (T 18) (T 19) (h3 9) (h3 10)) w4 (fun t5 w5 =>
 D (convert 3 121 t5) w5 (fun t6 w6 =>
 D (binS BinOp.shr 121 (T 21) (C (Value.int IntKind.u64 1)) t6 (Value.int IntKind.u64 1)) w6 (fun t7 w7 =>
 D (convert 121 3 t7) w7 (fun t8 w8 =>
 DrawE w8 (fun Rs9 Rb9 w9 =>
 DetOp Rb9 Rs9 w9 (fun w10 K10 => D (Instr.indexAt 22 v0 t8) w10 K10 X) (fun c27_10 ψ10 =>
 DetOp Rb9 Rs9 w9 (fun w11 K11 => D (L 30 c27_10) w11 K11 X) (fun c28_11 ψ11 =>
 DetOp Rb9 Rs9 w9 (fun w12 K12 => D (L 30 t1) w12 K12 X) (fun c29_12 ψ12 =>
 ∀ w13, Rb9 w9 w13 → (((True ∧ ψ10 w13) ∧ ψ11 w13) ∧ ψ12 w13) →
 CallV Tryz.prog v2 #[c28_11, c29_12] w13 (fun t14 w14 =>
 D (binS M 3 (T 30) (C (I 0)) t14 (I 0)) w14 (fun t15 w15 =>
 Br t15
(D (binS BinOp.add 3 (T 32) (C (I 1)) t8 (I 1)) w15 (fun t16 w16 =>
 K3 [t16, (h3 10)] w16) X)
(K3 [(h3 9), t8] w15)) X) X))))) X) X) X) X)
(DrawE w4 (fun Rs17 Rb17 w17 =>
 DetOp Rb17 Rs17 w17 (fun w18 K18 => D (binS M 3 (T 36) (T 37) (h3 9) t2) w18 K18 X) (fun c38_18 ψ18 =>
 Gd c38_18 true (DetOp Rb17 Rs17 w17 (fun w19 K19 => D (Instr.indexAt 22 v0 (h3 9)) w19 K19 X) (fun c43_19 ψ19 =>
 DetOp Rb17 Rs17 w17 (fun w20 K20 => D (L 30 c43_19) w20 K20 X) (fun c44_20 ψ20 =>
 DetOp Rb17 Rs17 w17 (fun w21 K21 => D (L 30 t1) w21 K21 X) (fun c45_21 ψ21 =>
 DetOp Rs17 Rb17 w17 (fun w22 K22 => CallV Tryz.prog v2 #[c44_20, c45_21] w22 K22 X) (fun c46_22 ψ22 =>
 DetOp Rb17 Rs17 w17 (fun w23 K23 => D (binS BinOp.eql 3 (T 46) (C (I 0)) c46_22 (I 0)) w23 K23 X) (fun c47_23 ψ23 =>
 ∀ w24, Rb17 w17 w24 → ((((((True ∧ ψ18 w24) ∧ ψ19 w24) ∧ ψ20 w24) ∧ ψ21 w24) ∧ ψ22 w24) ∧ ψ23 w24) →
 R (.returned (Value.tuple #[(h3 9), c47_23])) w24))))))
(∀ w25, Rb17 w17 w25 → (True ∧ ψ18 w25) →
 R (.returned (Value.tuple #[(h3 9), (Value.bool false)])) w25))))) X)) X) X)
theorem sh_slices_BinarySearchFunc___api_Report_api_Report_api_Report__ok (v0 v1 v2 : Value) (h : sh_slices_BinarySearchFunc___api_Report_api_Report_api_Report_ v0 v1 v2 R w) : Calls Tryz.prog 65 #[v0, v1, v2] w R :=
  calls_of_vc (c := Tryz.f65.body.getD .skip) (args := [v0, v1, v2]) [(5, 6, false, 0), (8, 15, false, 12)] [9, 10] follows_mixed Tryz.func65 rfl (of_decide_eq_true (by kernel_rfl)) (by kernel_rfl) (Eq.mp (by kernel_rfl) h)
def sh_slices_Insert___api_Report_api_Report_ (v0 v1 v2 : Value) (R : Ending → World → Prop) (w : World) : Prop := 
 letI X := Pan R
 letI D := DoV Tryz.prog
 letI B := CallB Tryz.prog
 letI I := Value.int IntKind.i64
 letI T := Operand.tmp
 letI O := BinOp.add
(D (Instr.sliceAt 22 v0 (some v1) none none) w (fun _ w1 =>
 B Builtin.len #[22] 3 #[false] #[v2] w1 (fun t2 w2 =>
 D (binS BinOp.eql 3 (T 15) (Operand.const (I 0)) t2 (I 0)) w2 (fun t3 w3 =>
 Br t3
(R (.returned v0) w3)
(B Builtin.len #[22] 3 #[false] #[v0] w3 (fun t4 w4 =>
 D (binS BinOp.eql 3 (T 20) (T 21) v1 t4) w4 (fun t5 w5 =>
 Br t5
(B Builtin.append #[22, 22] 22 #[false, false] #[v0, v2] w5 (fun t6 w6 =>
 R (.returned t6) w6) X)
(D (binS O 3 (T 26) (T 27) t4 t2) w5 (fun t7 w7 =>
 B Builtin.cap #[22] 3 #[false] #[v0] w7 (fun t8 w8 =>
 D (binS BinOp.gtr 3 (T 28) (T 30) t7 t8) w8 (fun t9 w9 =>
 Br t9
(D (Instr.sliceAt 22 v0 none (some v1) none) w9 (fun t10 w10 =>
 D (binS O 3 (T 35) (T 36) t4 t2) w10 (fun t11 w11 =>
 D (binS BinOp.sub 3 (T 37) (T 38) t11 v1) w11 (fun t12 w12 =>
 B Builtin.append #[22, 3] 22 #[false, false] #[t10, t12] w12 (fun t13 w13 =>
 D (Instr.sliceAt 22 t13 (some v1) none none) w13 (fun t14 w14 =>
 B Builtin.copy #[22, 22] 3 #[false, false] #[t14, v2] w14 (fun _ w15 =>
 DrawE w15 (fun Rs16 Rb16 w16 =>
 DetOp Rb16 Rs16 w16 (fun w17 K17 => D (binS O 3 (T 47) (T 48) v1 t2) w17 K17 X) (fun c49_17 ψ17 =>
 DetOp Rb16 Rs16 w16 (fun w18 K18 => D (Instr.sliceAt 22 t13 (some c49_17) none none) w18 K18 X) (fun c50_18 ψ18 =>
 DetOp Rb16 Rs16 w16 (fun w19 K19 => D (Instr.sliceAt 22 v0 (some v1) none none) w19 K19 X) (fun c53_19 ψ19 =>
 ∀ w20, Rb16 w16 w20 → (((True ∧ ψ17 w20) ∧ ψ18 w20) ∧ ψ19 w20) →
 B Builtin.copy #[22, 22] 3 #[false, false] #[c50_18, c53_19] w20 (fun _ w21 =>
 R (.returned t13) w21) X))))) X) X) X) X) X) X)
(D (binS O 3 (T 57) (T 58) t4 t2) w9 (fun t22 w22 =>
 D (Instr.sliceAt 22 v0 none (some t22) none) w22 (fun t23 w23 =>
 D (binS O 3 (T 63) (T 64) v1 t2) w23 (fun t24 w24 =>
 D (Instr.sliceAt 22 t23 (some t24) none none) w24 (fun t25 w25 =>
 CallX Tryz.prog 98 #[v2, t25] w25 (fun t26 w26 =>
 D (Op.unary UnOp.not t26) w26 (fun t27 w27 =>
 Br t27
(DrawE w27 (fun Rs28 Rb28 w28 =>
 DetOp Rb28 Rs28 w28 (fun w29 K29 => D (binS O 3 (T 70) (T 71) v1 t2) w29 K29 X) (fun c72_29 ψ29 =>
 DetOp Rb28 Rs28 w28 (fun w30 K30 => D (Instr.sliceAt 22 t23 (some c72_29) none none) w30 K30 X) (fun c73_30 ψ30 =>
 DetOp Rb28 Rs28 w28 (fun w31 K31 => D (Instr.sliceAt 22 t23 (some v1) none none) w31 K31 X) (fun c76_31 ψ31 =>
 ∀ w32, Rb28 w28 w32 → (((True ∧ ψ29 w32) ∧ ψ30 w32) ∧ ψ31 w32) →
 B Builtin.copy #[22, 22] 3 #[false, false] #[c73_30, c76_31] w32 (fun _ w33 =>
 D (Instr.sliceAt 22 t23 (some v1) none none) w33 (fun t34 w34 =>
 B Builtin.copy #[22, 22] 3 #[false, false] #[t34, v2] w34 (fun _ w35 =>
 R (.returned t23) w35) X) X) X)))))
(D (Instr.sliceAt 22 t23 (some t4) none none) w27 (fun t36 w36 =>
 B Builtin.copy #[22, 22] 3 #[false, false] #[t36, v2] w36 (fun _ w37 =>
 D (Instr.sliceAt 22 t23 (some v1) none none) w37 (fun t38 w38 =>
 CallF Tryz.prog 99 #[t38, t2] w38 (fun _ w39 =>
 R (.returned t23) w39) X) X) X) X)) X) X) X) X) X) X)) X) X) X)) X) X)) X) X) X)
theorem sh_slices_Insert___api_Report_api_Report__ok (v0 v1 v2 : Value) (h : sh_slices_Insert___api_Report_api_Report_ v0 v1 v2 R w) : Calls Tryz.prog 66 #[v0, v1, v2] w R :=
  calls_of_vc (c := Tryz.f66.body.getD .skip) (args := [v0, v1, v2]) [(11, 8, false, 0), (15, 8, false, 0)] [] follows_mixed Tryz.func66 rfl (of_decide_eq_true (by kernel_rfl)) (by kernel_rfl) (Eq.mp (by kernel_rfl) h)
def sh_slices_Clone___api_Report_api_Report_ (v0 : Value) (R : Ending → World → Prop) (w : World) : Prop := 
 letI X := Pan R
(DoV Tryz.prog (binS BinOp.eql 22 (Operand.tmp 3) (Operand.const (Value.slice none 0 0)) v0 (Value.slice none 0 0)) w (fun t1 w1 =>
 Br t1
(R (.returned (Value.slice none 0 0)) w1)
(DoV Tryz.prog (Instr.buildSlice 22 0 #[]) w1 (fun t2 w2 =>
 CallB Tryz.prog Builtin.append #[22, 22] 22 #[false, false] #[t2, v0] w2 (fun t3 w3 =>
 R (.returned t3) w3) X) X)) X)
theorem sh_slices_Clone___api_Report_api_Report__ok (v0 : Value) (h : sh_slices_Clone___api_Report_api_Report_ v0 R w) : Calls Tryz.prog 67 #[v0] w R :=
  calls_of_vc (c := Tryz.f67.body.getD .skip) (args := [v0]) [] [] follows_mixed Tryz.func67 rfl (of_decide_eq_true (by kernel_rfl)) (by kernel_rfl) (Eq.mp (by kernel_rfl) h)
def sh_slices_IndexFunc___api_Report_api_Report_ (v0 v1 : Value) (R : Ending → World → Prop) (w : World) : Prop := 
 letI X := Pan R
 letI D := DoV Tryz.prog
 letI I := Value.int IntKind.i64
 letI T := Operand.tmp
(CallB Tryz.prog Builtin.len #[22] 3 #[false] #[v0] w (fun t1 w1 =>
 LoopE [8] [(I 0)] w1 (fun h2 w2 K2 =>
 D (binS BinOp.lss 3 (T 8) (T 7) (h2 8) t1) w2 (fun t3 w3 =>
 Br t3
(D (Instr.indexAt 22 v0 (h2 8)) w3 (fun t4 w4 =>
 D (Instr.loadAt 30 t4) w4 (fun t5 w5 =>
 CallV Tryz.prog v1 #[t5] w5 (fun t6 w6 =>
 Br t6
(R (.returned (h2 8)) w6)
(D (binS BinOp.add 3 (T 8) (Operand.const (I 1)) (h2 8) (I 1)) w6 (fun t7 w7 =>
 K2 [t7] w7) X)) X) X) X)
(R (.returned (I (-1))) w3)) X)) X)
theorem sh_slices_IndexFunc___api_Report_api_Report__ok (v0 v1 : Value) (h : sh_slices_IndexFunc___api_Report_api_Report_ v0 v1 R w) : Calls Tryz.prog 72 #[v0, v1] w R :=
  calls_of_vc (c := Tryz.f72.body.getD .skip) (args := [v0, v1]) [] [8] follows_mixed Tryz.func72 rfl (of_decide_eq_true (by kernel_rfl)) (by kernel_rfl) (Eq.mp (by kernel_rfl) h)
def sh_slices_Compare___int_int_ (v0 v1 : Value) (R : Ending → World → Prop) (w : World) : Prop := 
 letI X := Pan R
 letI D := DoV Tryz.prog
 letI B := CallB Tryz.prog
 letI I := Value.int IntKind.i64
 letI T := Operand.tmp
(B Builtin.len #[91] 3 #[false] #[v0] w (fun t1 w1 =>
 LoopE [11] [(I 0)] w1 (fun h2 w2 K2 =>
 D (binS BinOp.lss 3 (T 11) (T 10) (h2 11) t1) w2 (fun t3 w3 =>
 Br t3
(D (Instr.indexAt 91 v0 (h2 11)) w3 (fun t4 w4 =>
 D (Instr.loadAt 3 t4) w4 (fun t5 w5 =>
 B Builtin.len #[91] 3 #[false] #[v1] w5 (fun t6 w6 =>
 D (binS BinOp.geq 3 (T 16) (T 18) (h2 11) t6) w6 (fun t7 w7 =>
 Br t7
(R (.returned (I 1)) w7)
(D (Instr.indexAt 91 v1 (h2 11)) w7 (fun t8 w8 =>
 D (Instr.loadAt 3 t8) w8 (fun t9 w9 =>
 CallF Tryz.prog 104 #[t5, t9] w9 (fun t10 w10 =>
 D (binS BinOp.neq 3 (T 27) (Operand.const (I 0)) t10 (I 0)) w10 (fun t11 w11 =>
 Br t11
(R (.returned t10) w11)
(D (binS BinOp.add 3 (T 11) (Operand.const (I 1)) (h2 11) (I 1)) w11 (fun t12 w12 =>
 K2 [t12] w12) X)) X) X) X) X)) X) X) X) X)
(B Builtin.len #[91] 3 #[false] #[v0] w3 (fun t13 w13 =>
 B Builtin.len #[91] 3 #[false] #[v1] w13 (fun t14 w14 =>
 D (binS BinOp.lss 3 (T 32) (T 34) t13 t14) w14 (fun t15 w15 =>
 Br t15
(R (.returned (I (-1))) w15)
(R (.returned (I 0)) w15)) X) X) X)) X)) X)
theorem sh_slices_Compare___int_int__ok (v0 v1 : Value) (h : sh_slices_Compare___int_int_ v0 v1 R w) : Calls Tryz.prog 73 #[v0, v1] w R :=
  calls_of_vc (c := Tryz.f73.body.getD .skip) (args := [v0, v1]) [] [11] follows_mixed Tryz.func73 rfl (of_decide_eq_true (by kernel_rfl)) (by kernel_rfl) (Eq.mp (by kernel_rfl) h)
def sh_mesh_ints (v0 : Value) (R : Ending → World → Prop) (w : World) : Prop := 
 letI X := Pan R
 letI D := DoV Tryz.prog
 letI Q := CallF Tryz.prog
 letI B := CallB Tryz.prog
 letI I := Value.int IntKind.i64
 letI T := Operand.tmp
 letI C := Operand.const
 letI L := Instr.loadAt
 letI F := Instr.fieldAt
(D (Instr.box 30 v0) w (fun t1 w1 =>
 D (F 30 t1 0) w1 (fun t2 w2 =>
 D (L 3 t2) w2 (fun t3 w3 =>
 D (F 30 t1 1) w3 (fun t4 w4 =>
 D (L 3 t4) w4 (fun t5 w5 =>
 D (F 30 t1 2) w5 (fun t6 w6 =>
 D (L 25 t6) w6 (fun t7 w7 =>
 B Builtin.len #[25] 3 #[false] #[t7] w7 (fun t8 w8 =>
 D (F 30 t1 3) w8 (fun t9 w9 =>
 D (L 26 t9) w9 (fun t10 w10 =>
 D (binS BinOp.quo 26 (T 14) (C (Value.int IntKind.u64 4294967296)) t10 (Value.int IntKind.u64 4294967296)) w10 (fun t11 w11 =>
 D (convert 26 3 t11) w11 (fun t12 w12 =>
 D (F 30 t1 3) w12 (fun t13 w13 =>
 D (L 26 t13) w13 (fun t14 w14 =>
 D (binS BinOp.rem 26 (T 18) (C (Value.int IntKind.u64 4294967296)) t14 (Value.int IntKind.u64 4294967296)) w14 (fun t15 w15 =>
 D (convert 26 3 t15) w15 (fun t16 w16 =>
 D (F 30 t1 4) w16 (fun t17 w17 =>
 D (L 26 t17) w17 (fun t18 w18 =>
 D (binS BinOp.quo 26 (T 22) (C (Value.int IntKind.u64 4294967296)) t18 (Value.int IntKind.u64 4294967296)) w18 (fun t19 w19 =>
 D (convert 26 3 t19) w19 (fun t20 w20 =>
 D (F 30 t1 4) w20 (fun t21 w21 =>
 D (L 26 t21) w21 (fun t22 w22 =>
 D (binS BinOp.rem 26 (T 26) (C (Value.int IntKind.u64 4294967296)) t22 (Value.int IntKind.u64 4294967296)) w22 (fun t23 w23 =>
 D (convert 26 3 t23) w23 (fun t24 w24 =>
 D (F 30 t1 5) w24 (fun t25 w25 =>
 D (F 28 t25 0) w25 (fun t26 w26 =>
 D (L 3 t26) w26 (fun t27 w27 =>
 D (F 30 t1 5) w27 (fun t28 w28 =>
 D (F 28 t28 1) w28 (fun t29 w29 =>
 D (L 3 t29) w29 (fun t30 w30 =>
 D (Instr.buildSlice 91 9 #[(0, t3), (1, t5), (2, t8), (3, t12), (4, t16), (5, t20), (6, t24), (7, t27), (8, t30)]) w30 (fun t31 w31 =>
 Q 83 #[t31] w31 (fun t32 w32 =>
 D (F 30 t1 2) w32 (fun t33 w33 =>
 D (L 25 t33) w33 (fun t34 w34 =>
 B Builtin.len #[25] 3 #[false] #[t34] w34 (fun t35 w35 =>
 LoopE [3, 40] [t32, (I 0)] w35 (fun h36 w36 K36 =>
 D (binS BinOp.lss 3 (T 40) (T 39) (h36 40) t35) w36 (fun t37 w37 =>
 Br t37
(D (Instr.indexAt 25 t34 (h36 40)) w37 (fun t38 w38 =>
 D (L 89 t38) w38 (fun t39 w39 =>
 D (Instr.alloc 89 true (.tuple #[])) w39 (fun t40 w40 =>
 DoU Tryz.prog (Instr.storeAt 89 t40 t39) w40 (fun _ w41 =>
 D (L 89 t40) w41 (fun t42 w42 =>
 Q 49 #[t42] w42 (fun t43 w43 =>
 B Builtin.append #[91, 91] 91 #[false, false] #[(h36 3), t43] w43 (fun t44 w44 =>
 D (binS BinOp.add 3 (T 40) (C (I 1)) (h36 40) (I 1)) w44 (fun t45 w45 =>
 K36 [t44, t45] w45) X) X) X) X) X) X) X) X)
(R (.returned (h36 3)) w37)) X)) X) X) X) X) X) X) X) X) X) X) X) X) X) X) X) X) X) X) X) X) X) X) X) X) X) X) X) X) X) X) X) X) X) X) X)
theorem sh_mesh_ints_ok (v0 : Value) (h : sh_mesh_ints v0 R w) : Calls Tryz.prog 74 #[v0] w R :=
  calls_of_vc (c := Tryz.f74.body.getD .skip) (args := [v0]) [] [3, 40] follows_mixed Tryz.func74 rfl (of_decide_eq_true (by kernel_rfl)) (by kernel_rfl) (Eq.mp (by kernel_rfl) h)
def sh_landfallref26_Ints (v0 : Value) (R : Ending → World → Prop) (w : World) : Prop := 
 letI X := Pan R
 letI D := DoV Tryz.prog
 letI Q := CallF Tryz.prog
 letI B := CallB Tryz.prog
 letI I := Value.int IntKind.i64
 letI T := Operand.tmp
 letI L := Instr.loadAt
 letI F := Instr.fieldAt
(D (Instr.box 30 v0) w (fun t1 w1 =>
 D (L 30 t1) w1 (fun t2 w2 =>
 Q 71 #[t2] w2 (fun t3 w3 =>
 D (F 30 t1 5) w3 (fun t4 w4 =>
 D (F 28 t4 0) w4 (fun t5 w5 =>
 D (L 3 t5) w5 (fun t6 w6 =>
 D (F 30 t1 5) w6 (fun t7 w7 =>
 D (F 28 t7 1) w7 (fun t8 w8 =>
 D (L 3 t8) w8 (fun t9 w9 =>
 D (Instr.buildSlice 91 2 #[(0, t6), (1, t9)]) w9 (fun t10 w10 =>
 B Builtin.append #[91, 91] 91 #[false, false] #[t3, t10] w10 (fun t11 w11 =>
 LoopE [3, 4] [t11, (I 0)] w11 (fun h12 w12 K12 =>
 D (F 30 t1 2) w12 (fun t13 w13 =>
 D (L 25 t13) w13 (fun t14 w14 =>
 B Builtin.len #[25] 3 #[false] #[t14] w14 (fun t15 w15 =>
 D (binS BinOp.lss 3 (T 16) (T 19) (h12 4) t15) w15 (fun t16 w16 =>
 Br t16
(D (F 30 t1 2) w16 (fun t17 w17 =>
 D (L 25 t17) w17 (fun t18 w18 =>
 D (Instr.indexAt 25 t18 (h12 4)) w18 (fun t19 w19 =>
 D (L 89 t19) w19 (fun t20 w20 =>
 Q 86 #[t20] w20 (fun t21 w21 =>
 B Builtin.append #[91, 91] 91 #[false, false] #[(h12 3), t21] w21 (fun t22 w22 =>
 D (binS BinOp.add 3 (T 21) (Operand.const (I 1)) (h12 4) (I 1)) w22 (fun t23 w23 =>
 K12 [t22, t23] w23) X) X) X) X) X) X) X)
(R (.returned (h12 3)) w16)) X) X) X) X)) X) X) X) X) X) X) X) X) X) X) X)
theorem sh_landfallref26_Ints_ok (v0 : Value) (h : sh_landfallref26_Ints v0 R w) : Calls Tryz.prog 75 #[v0] w R :=
  calls_of_vc (c := Tryz.f75.body.getD .skip) (args := [v0]) [] [3, 4] follows_mixed Tryz.func75 rfl (of_decide_eq_true (by kernel_rfl)) (by kernel_rfl) (Eq.mp (by kernel_rfl) h)
def sh_slices_Grow___api_Report_api_Report_ (v0 v1 : Value) (R : Ending → World → Prop) (w : World) : Prop := 
 letI X := Pan R
 letI D := DoV Tryz.prog
 letI B := CallB Tryz.prog
 letI I := Value.int IntKind.i64
 letI T := Operand.tmp
(JoinE [] (fun K1 =>
 D (binS BinOp.lss 3 (T 5) (Operand.const (I 0)) v1 (I 0)) w (fun t2 w2 =>
 Br t2
(D (Instr.makeInterface 9 (Value.string { data := #[99, 97, 110, 110, 111, 116, 32, 98, 101, 32, 110, 101, 103, 97, 116, 105, 118, 101] })) w2 (fun t3 w3 =>
 D (Instr.panic t3) w3 (fun _ w4 =>
 K1 [] w4) X) X)
(K1 [] w2)) X)
(fun _ w5 =>
 JoinE [0] (fun K6 =>
 B Builtin.cap #[22] 3 #[false] #[v0] w5 (fun t7 w7 =>
 B Builtin.len #[22] 3 #[false] #[v0] w7 (fun t8 w8 =>
 D (binS BinOp.sub 3 (T 10) (T 12) t7 t8) w8 (fun t9 w9 =>
 D (binS BinOp.sub 3 (T 8) (T 13) v1 t9) w9 (fun t10 w10 =>
 D (binS BinOp.gtr 3 (T 15) (Operand.const (I 0)) t10 (I 0)) w10 (fun t11 w11 =>
 Br t11
(B Builtin.cap #[22] 3 #[false] #[v0] w11 (fun t12 w12 =>
 D (Instr.sliceAt 22 v0 none (some t12) none) w12 (fun t13 w13 =>
 B Builtin.append #[22, 3] 22 #[false, false] #[t13, t10] w13 (fun t14 w14 =>
 B Builtin.len #[22] 3 #[false] #[v0] w14 (fun t15 w15 =>
 D (Instr.sliceAt 22 t14 none (some t15) none) w15 (fun t16 w16 =>
 K6 [t16] w16) X) X) X) X) X)
(K6 [v0] w11)) X) X) X) X) X)
(fun h17 w17 =>
 R (.returned (h17 0)) w17)))
theorem sh_slices_Grow___api_Report_api_Report__ok (v0 v1 : Value) (h : sh_slices_Grow___api_Report_api_Report_ v0 v1 R w) : Calls Tryz.prog 76 #[v0, v1] w R :=
  calls_of_vc (c := Tryz.f76.body.getD .skip) (args := [v0, v1]) [] [0] follows_mixed Tryz.func76 rfl (of_decide_eq_true (by kernel_rfl)) (by kernel_rfl) (Eq.mp (by kernel_rfl) h)
def sh_mesh_joined_next_1 (v0 v1 v2 : Value) (R : Ending → World → Prop) (w : World) : Prop := 
 letI X := Pan R
 letI D := DoV Tryz.prog
 letI I := Value.int IntKind.i64
 letI L := Instr.loadAt
(LoopE [] [] w (fun h1 w1 K1 =>
 D (L 22 v1) w1 (fun t2 w2 =>
 D (L 78 v2) w2 (fun t3 w3 =>
 D (Instr.makeFunc (Fn.func 80) #[t3] #[]) w3 (fun t4 w4 =>
 CallF Tryz.prog 72 #[t2, t4] w4 (fun t5 w5 =>
 D (binS BinOp.lss 3 (Operand.tmp 9) (Operand.const (I 0)) t5 (I 0)) w5 (fun t6 w6 =>
 Gd t6 false (D (L 22 v1) w6 (fun t7 w7 =>
 D (Instr.indexAt 22 t7 t5) w7 (fun t8 w8 =>
 D (L 30 t8) w8 (fun t9 w9 =>
 CallV Tryz.prog v0 #[t9] w9 (fun t10 w10 =>
 D (Op.unary UnOp.not t10) w10 (fun t11 w11 =>
 Br t11
(R (.returned (Value.tuple #[])) w11)
(K1 [] w11)) X) X) X) X) X)
(R (.returned (Value.tuple #[])) w6)) X) X) X) X) X))
theorem sh_mesh_joined_next_1_ok (v0 v1 v2 : Value) (h : sh_mesh_joined_next_1 v0 v1 v2 R w) : Calls Tryz.prog 79 #[v0, v1, v2] w R :=
  calls_of_vc (c := Tryz.f79.body.getD .skip) (args := [v0, v1, v2]) [] [] follows_mixed Tryz.func79 rfl (of_decide_eq_true (by kernel_rfl)) (by kernel_rfl) (Eq.mp (by kernel_rfl) h)
def sh_mesh_joined_fits (v0 v1 : Value) (R : Ending → World → Prop) (w : World) : Prop := 
 letI X := Pan R
 letI D := DoV Tryz.prog
 letI B := CallB Tryz.prog
 letI I := Value.int IntKind.i64
 letI T := Operand.tmp
 letI C := Operand.const
 letI L := Instr.loadAt
 letI F := Instr.fieldAt
 letI A := Instr.indexAt
 letI V := Value.bool
(D (Instr.box 30 v1) w (fun t1 w1 =>
 DrawE w1 (fun Rs2 Rb2 w2 =>
 DetOp Rb2 Rs2 w2 (fun w3 K3 => D (F 30 t1 1) w3 K3 X) (fun c7_3 ψ3 =>
 DetOp Rb2 Rs2 w2 (fun w4 K4 => D (L 3 c7_3) w4 K4 X) (fun c8_4 ψ4 =>
 DetOp Rb2 Rs2 w2 (fun w5 K5 => D (binS BinOp.sub 3 (T 8) (C (I 1)) c8_4 (I 1)) w5 K5 X) (fun c9_5 ψ5 =>
 DetOp Rb2 Rs2 w2 (fun w6 K6 => NilC Tryz.prog v0 w6 K6 X) (fun c11_6 ψ6 =>
 DetOp Rb2 Rs2 w2 (fun w7 K7 => D (F 82 c11_6 1) w7 K7 X) (fun c12_7 ψ7 =>
 DetOp Rb2 Rs2 w2 (fun w8 K8 => D (L 25 c12_7) w8 K8 X) (fun c13_8 ψ8 =>
 DetOp Rb2 Rs2 w2 (fun w9 K9 => B Builtin.len #[25] 3 #[false] #[c13_8] w9 K9 X) (fun c14_9 ψ9 =>
 ∀ w10, Rb2 w2 w10 → (((((((True ∧ ψ3 w10) ∧ ψ4 w10) ∧ ψ5 w10) ∧ ψ6 w10) ∧ ψ7 w10) ∧ ψ8 w10) ∧ ψ9 w10) →
 JoinE [] (fun K11 =>
 JoinE [47] (fun K12 =>
 DrawE w10 (fun Rs13 Rb13 w13 =>
 DetOp Rb13 Rs13 w13 (fun w14 K14 => D (F 30 t1 0) w14 K14 X) (fun c15_14 ψ14 =>
 DetOp Rb13 Rs13 w13 (fun w15 K15 => D (L 3 c15_14) w15 K15 X) (fun c16_15 ψ15 =>
 DetOp Rb13 Rs13 w13 (fun w16 K16 => NilC Tryz.prog v0 w16 K16 X) (fun c18_16 ψ16 =>
 DetOp Rb13 Rs13 w13 (fun w17 K17 => D (F 82 c18_16 0) w17 K17 X) (fun c19_17 ψ17 =>
 DetOp Rb13 Rs13 w13 (fun w18 K18 => D (L 3 c19_17) w18 K18 X) (fun c20_18 ψ18 =>
 DetOp Rb13 Rs13 w13 (fun w19 K19 => D (binS BinOp.neq 3 (T 16) (T 20) c16_15 c20_18) w19 K19 X) (fun c21_19 ψ19 =>
 Gd c21_19 false (DetOp Rb13 Rs13 w13 (fun w20 K20 => D (binS BinOp.gtr 3 (T 23) (T 24) c9_5 c14_9) w20 K20 X) (fun c25_20 ψ20 =>
 Gd c25_20 false (DetOp Rb13 Rs13 w13 (fun w21 K21 => D (F 30 t1 2) w21 K21 X) (fun c29_21 ψ21 =>
 DetOp Rb13 Rs13 w13 (fun w22 K22 => D (L 25 c29_21) w22 K22 X) (fun c30_22 ψ22 =>
 DetOp Rb13 Rs13 w13 (fun w23 K23 => B Builtin.len #[25] 3 #[false] #[c30_22] w23 K23 X) (fun c31_23 ψ23 =>
 DetOp Rb13 Rs13 w13 (fun w24 K24 => D (binS BinOp.add 3 (T 28) (T 31) c9_5 c31_23) w24 K24 X) (fun c32_24 ψ24 =>
 DetOp Rb13 Rs13 w13 (fun w25 K25 => D (binS BinOp.leq 3 (T 32) (T 33) c32_24 c14_9) w25 K25 X) (fun c34_25 ψ25 =>
 Gd c34_25 false (DetOp Rb13 Rs13 w13 (fun w26 K26 => D (F 30 t1 3) w26 K26 X) (fun c37_26 ψ26 =>
 DetOp Rb13 Rs13 w13 (fun w27 K27 => D (L 26 c37_26) w27 K27 X) (fun c38_27 ψ27 =>
 DetOp Rb13 Rs13 w13 (fun w28 K28 => NilC Tryz.prog v0 w28 K28 X) (fun c40_28 ψ28 =>
 DetOp Rb13 Rs13 w13 (fun w29 K29 => D (F 82 c40_28 2) w29 K29 X) (fun c41_29 ψ29 =>
 DetOp Rb13 Rs13 w13 (fun w30 K30 => D (L 80 c41_29) w30 K30 X) (fun c42_30 ψ30 =>
 DetOp Rb13 Rs13 w13 (fun w31 K31 => D (A 80 c42_30 c9_5) w31 K31 X) (fun c44_31 ψ31 =>
 DetOp Rb13 Rs13 w13 (fun w32 K32 => D (L 26 c44_31) w32 K32 X) (fun c45_32 ψ32 =>
 ∀ w33, Rb13 w13 w33 → (((((((((((((((((((True ∧ ψ14 w33) ∧ ψ15 w33) ∧ ψ16 w33) ∧ ψ17 w33) ∧ ψ18 w33) ∧ ψ19 w33) ∧ ψ20 w33) ∧ ψ21 w33) ∧ ψ22 w33) ∧ ψ23 w33) ∧ ψ24 w33) ∧ ψ25 w33) ∧ ψ26 w33) ∧ ψ27 w33) ∧ ψ28 w33) ∧ ψ29 w33) ∧ ψ30 w33) ∧ ψ31 w33) ∧ ψ32 w33) →
 D (binS BinOp.neq 26 (T 38) (T 45) c38_27 c45_32) w33 (fun t34 w34 =>
 K12 [t34] w34) X))))))))
(∀ w35, Rb13 w13 w35 → ((((((((((((True ∧ ψ14 w35) ∧ ψ15 w35) ∧ ψ16 w35) ∧ ψ17 w35) ∧ ψ18 w35) ∧ ψ19 w35) ∧ ψ20 w35) ∧ ψ21 w35) ∧ ψ22 w35) ∧ ψ23 w35) ∧ ψ24 w35) ∧ ψ25 w35) →
 K12 [(V true)] w35)))))))
(∀ w36, Rb13 w13 w36 → (((((((True ∧ ψ14 w36) ∧ ψ15 w36) ∧ ψ16 w36) ∧ ψ17 w36) ∧ ψ18 w36) ∧ ψ19 w36) ∧ ψ20 w36) →
 K12 [(V true)] w36)))
(∀ w37, Rb13 w13 w37 → ((((((True ∧ ψ14 w37) ∧ ψ15 w37) ∧ ψ16 w37) ∧ ψ17 w37) ∧ ψ18 w37) ∧ ψ19 w37) →
 K12 [(V true)] w37)))))))))
(fun h38 w38 =>
 Br (h38 47)
(R (.returned (V false)) w38)
(K11 [] w38)))
(fun _ w39 =>
 DrawE w39 (fun Rs40 Rb40 w40 =>
 DetOp Rb40 Rs40 w40 (fun w41 K41 => NilC Tryz.prog v0 w41 K41 X) (fun c49_41 ψ41 =>
 DetOp Rb40 Rs40 w40 (fun w42 K42 => D (F 82 c49_41 1) w42 K42 X) (fun c50_42 ψ42 =>
 DetOp Rb40 Rs40 w40 (fun w43 K43 => D (L 25 c50_42) w43 K43 X) (fun c51_43 ψ43 =>
 DetOp Rb40 Rs40 w40 (fun w44 K44 => D (Instr.sliceAt 25 c51_43 (some c9_5) none none) w44 K44 X) (fun c53_44 ψ44 =>
 DetOp Rb40 Rs40 w40 (fun w45 K45 => D (F 30 t1 2) w45 K45 X) (fun c54_45 ψ45 =>
 DetOp Rb40 Rs40 w40 (fun w46 K46 => D (L 25 c54_45) w46 K46 X) (fun c55_46 ψ46 =>
 DetOp Rb40 Rs40 w40 (fun w47 K47 => D (binS BinOp.sub 3 (T 56) (T 57) c14_9 c9_5) w47 K47 X) (fun c58_47 ψ47 =>
 DetOp Rb40 Rs40 w40 (fun w48 K48 => D (Instr.sliceAt 25 c55_46 none (some c58_47) none) w48 K48 X) (fun c59_48 ψ48 =>
 ∀ w49, Rb40 w40 w49 → ((((((((True ∧ ψ41 w49) ∧ ψ42 w49) ∧ ψ43 w49) ∧ ψ44 w49) ∧ ψ45 w49) ∧ ψ46 w49) ∧ ψ47 w49) ∧ ψ48 w49) →
 CallF Tryz.prog 115 #[c53_44, c59_48] w49 (fun t50 w50 =>
 D (Op.unary UnOp.not t50) w50 (fun t51 w51 =>
 Br t51
(R (.returned (V false)) w51)
(DrawE w51 (fun Rs52 Rb52 w52 =>
 DetOp Rb52 Rs52 w52 (fun w53 K53 => D (binS BinOp.eql 3 (T 62) (C (I 0)) c14_9 (I 0)) w53 K53 X) (fun c63_53 ψ53 =>
 Gd c63_53 false (DetOp Rb52 Rs52 w52 (fun w54 K54 => D (F 30 t1 2) w54 K54 X) (fun c65_54 ψ54 =>
 DetOp Rb52 Rs52 w52 (fun w55 K55 => D (L 25 c65_54) w55 K55 X) (fun c66_55 ψ55 =>
 DetOp Rb52 Rs52 w52 (fun w56 K56 => D (binS BinOp.sub 3 (T 67) (T 68) c14_9 c9_5) w56 K56 X) (fun c69_56 ψ56 =>
 DetOp Rb52 Rs52 w52 (fun w57 K57 => D (A 25 c66_55 c69_56) w57 K57 X) (fun c70_57 ψ57 =>
 DetOp Rb52 Rs52 w52 (fun w58 K58 => D (F 89 c70_57 1) w58 K58 X) (fun c71_58 ψ58 =>
 DetOp Rb52 Rs52 w52 (fun w59 K59 => D (L 3 c71_58) w59 K59 X) (fun c72_59 ψ59 =>
 DetOp Rb52 Rs52 w52 (fun w60 K60 => NilC Tryz.prog v0 w60 K60 X) (fun c74_60 ψ60 =>
 DetOp Rb52 Rs52 w52 (fun w61 K61 => D (F 82 c74_60 1) w61 K61 X) (fun c75_61 ψ61 =>
 DetOp Rb52 Rs52 w52 (fun w62 K62 => D (L 25 c75_61) w62 K62 X) (fun c76_62 ψ62 =>
 DetOp Rb52 Rs52 w52 (fun w63 K63 => D (binS BinOp.sub 3 (T 77) (C (I 1)) c14_9 (I 1)) w63 K63 X) (fun c78_63 ψ63 =>
 DetOp Rb52 Rs52 w52 (fun w64 K64 => D (A 25 c76_62 c78_63) w64 K64 X) (fun c79_64 ψ64 =>
 DetOp Rb52 Rs52 w52 (fun w65 K65 => D (F 89 c79_64 1) w65 K65 X) (fun c80_65 ψ65 =>
 DetOp Rb52 Rs52 w52 (fun w66 K66 => D (L 3 c80_65) w66 K66 X) (fun c81_66 ψ66 =>
 ∀ w67, Rb52 w52 w67 → ((((((((((((((True ∧ ψ53 w67) ∧ ψ54 w67) ∧ ψ55 w67) ∧ ψ56 w67) ∧ ψ57 w67) ∧ ψ58 w67) ∧ ψ59 w67) ∧ ψ60 w67) ∧ ψ61 w67) ∧ ψ62 w67) ∧ ψ63 w67) ∧ ψ64 w67) ∧ ψ65 w67) ∧ ψ66 w67) →
 D (binS BinOp.geq 3 (T 72) (T 81) c72_59 c81_66) w67 (fun t68 w68 =>
 R (.returned t68) w68) X))))))))))))))
(∀ w69, Rb52 w52 w69 → (True ∧ ψ53 w69) →
 R (.returned (V true)) w69))))) X) X))))))))))))))))))) X)
theorem sh_mesh_joined_fits_ok (v0 v1 : Value) (h : sh_mesh_joined_fits v0 v1 R w) : Calls Tryz.prog 80 #[v0, v1] w R :=
  calls_of_vc (c := Tryz.f80.body.getD .skip) (args := [v0, v1]) [(1, 9, false, 0), (2, 31, false, 0), (4, 12, false, 0), (6, 20, false, 0)] [] follows_mixed Tryz.func80 rfl (of_decide_eq_true (by kernel_rfl)) (by kernel_rfl) (Eq.mp (by kernel_rfl) h)
def sh_mesh_list (v0 : Value) (R : Ending → World → Prop) (w : World) : Prop := 
(R (.returned v0) w)
theorem sh_mesh_list_ok (v0 : Value) (h : sh_mesh_list v0 R w) : Calls Tryz.prog 83 #[v0] w R :=
  calls_of_vc (c := Tryz.f83.body.getD .skip) (args := [v0]) [] [] follows_mixed Tryz.func83 rfl (of_decide_eq_true (by kernel_rfl)) (by kernel_rfl) (Eq.mp (by kernel_rfl) h)
def sh_slices_Equal___api_Entry_api_Entry_ (v0 v1 : Value) (R : Ending → World → Prop) (w : World) : Prop := 
 letI X := Pan R
 letI D := DoV Tryz.prog
 letI B := CallB Tryz.prog
 letI I := Value.int IntKind.i64
 letI T := Operand.tmp
 letI V := Value.bool
(B Builtin.len #[25] 3 #[false] #[v0] w (fun t1 w1 =>
 B Builtin.len #[25] 3 #[false] #[v1] w1 (fun t2 w2 =>
 D (binS BinOp.neq 3 (T 7) (T 9) t1 t2) w2 (fun t3 w3 =>
 Br t3
(R (.returned (V false)) w3)
(B Builtin.len #[25] 3 #[false] #[v0] w3 (fun t4 w4 =>
 LoopE [13] [(I 0)] w4 (fun h5 w5 K5 =>
 D (binS BinOp.lss 3 (T 13) (T 12) (h5 13) t4) w5 (fun t6 w6 =>
 Br t6
(DrawE w6 (fun Rs7 Rb7 w7 =>
 DetOp Rb7 Rs7 w7 (fun w8 K8 => D (Instr.indexAt 25 v0 (h5 13)) w8 K8 X) (fun c18_8 ψ8 =>
 DetOp Rb7 Rs7 w7 (fun w9 K9 => D (Instr.loadAt 89 c18_8) w9 K9 X) (fun c19_9 ψ9 =>
 DetOp Rb7 Rs7 w7 (fun w10 K10 => D (Instr.indexAt 25 v1 (h5 13)) w10 K10 X) (fun c22_10 ψ10 =>
 DetOp Rb7 Rs7 w7 (fun w11 K11 => D (Instr.loadAt 89 c22_10) w11 K11 X) (fun c23_11 ψ11 =>
 ∀ w12, Rb7 w7 w12 → ((((True ∧ ψ8 w12) ∧ ψ9 w12) ∧ ψ10 w12) ∧ ψ11 w12) →
 D (binS BinOp.neq 89 (T 19) (T 23) c19_9 c23_11) w12 (fun t13 w13 =>
 Br t13
(R (.returned (V false)) w13)
(D (binS BinOp.add 3 (T 13) (Operand.const (I 1)) (h5 13) (I 1)) w13 (fun t14 w14 =>
 K5 [t14] w14) X)) X))))))
(R (.returned (V true)) w6)) X)) X)) X) X) X)
theorem sh_slices_Equal___api_Entry_api_Entry__ok (v0 v1 : Value) (h : sh_slices_Equal___api_Entry_api_Entry_ v0 v1 R w) : Calls Tryz.prog 115 #[v0, v1] w R :=
  calls_of_vc (c := Tryz.f115.body.getD .skip) (args := [v0, v1]) [(6, 8, false, 0)] [13] follows_mixed Tryz.func115 rfl (of_decide_eq_true (by kernel_rfl)) (by kernel_rfl) (Eq.mp (by kernel_rfl) h)
end Go.Proofs.YtohmledhhgdgaaaGreatDoor
