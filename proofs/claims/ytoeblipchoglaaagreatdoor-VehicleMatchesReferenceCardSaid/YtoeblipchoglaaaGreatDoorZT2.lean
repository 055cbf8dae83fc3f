/- The chains of operations of some functions of the program. -/
import Derived.Test.YtoeblipchoglaaaGreatDoorZT1
import Derived.Test.YtoeblipchoglaaaGreatDoorZBaseA
import Derived.Test.YtoeblipchoglaaaGreatDoorProg
import Derived.KernelRfl
namespace Go.Proofs.YtoeblipchoglaaaGreatDoor
open Sh
set_option linter.unusedVariables false
variable {R : Ending → World → Prop} {w : World}
set_option maxRecDepth 100000
def sh_landfalllaw41_VehicleMarks (v0 v1 v2 : Value) (R : Ending → World → Prop) (w : World) : Prop := 
 letI X := Pan R
 letI D := DoV Tryz.prog
 letI U := DoU Tryz.prog
 letI Q := CallF Tryz.prog
 letI B := CallB Tryz.prog
 letI I := Value.int IntKind.i64
 letI T := Operand.tmp
 letI C := Operand.const
 letI L := Instr.loadAt
 letI F := Instr.fieldAt
 letI S := Instr.storeAt
 letI E := Instr.extract
 letI N := Instr.alloc
 letI V := Value.bool
 letI J := BinOp.eql
 letI O := BinOp.add
(D (Instr.box 28 v0) w (fun t1 w1 =>
 Q 6 #[] w1 (fun t2 w2 =>
 JoinE [] (fun K3 =>
 JoinE [27] (fun K4 =>
 D (L 28 t1) w2 (fun t5 w5 =>
 Q 7 #[t5] w5 (fun t6 w6 =>
 D (Op.unary UnOp.not t6) w6 (fun t7 w7 =>
 Gd t7 false (B Builtin.len #[23] 3 #[false] #[v1] w7 (fun t8 w8 =>
 D (binS BinOp.gtr 3 (T 25) (C (I 6)) t8 (I 6)) w8 (fun t9 w9 =>
 K4 [t9] w9) X) X)
(K4 [(V true)] w7)) X) X) X)
(fun h10 w10 =>
 Br (h10 27)
(R (.returned t2) w10)
(K3 [] w10)))
(fun _ w11 =>
 D (L 28 t1) w11 (fun t12 w12 =>
 Q 8 #[t12] w12 (fun t13 w13 =>
 D (E t13 0) w13 (fun t14 w14 =>
 D (E t13 1) w14 (fun t15 w15 =>
 D (N 28 true (.tuple #[])) w15 (fun t16 w16 =>
 U (S 28 t16 t14) w16 (fun _ w17 =>
 JoinE [] (fun K18 =>
 JoinE [40] (fun K19 =>
 D (binS BinOp.neq 32 (T 34) (C (I 0)) t15 (I 0)) w17 (fun t20 w20 =>
 Gd t20 false (D (L 28 t1) w20 (fun t21 w21 =>
 Q 9 #[t21] w21 (fun t22 w22 =>
 D (Op.unary UnOp.not t22) w22 (fun t23 w23 =>
 K19 [t23] w23) X) X) X)
(K19 [(V true)] w20)) X)
(fun h24 w24 =>
 Br (h24 40)
(Gd t2 true (D (F 28 t16 5) w24 (fun t25 w25 =>
 D (L 4 t25) w25 (fun t26 w26 =>
 D (Op.unary UnOp.not t26) w26 (fun t27 w27 =>
 R (.returned t27) w27) X) X) X)
(R (.returned (V false)) w24))
(K18 [] w24)))
(fun _ w28 =>
 D (F 28 t16 2) w28 (fun t29 w29 =>
 D (F 25 t29 2) w29 (fun t30 w30 =>
 D (L 23 t30) w30 (fun t31 w31 =>
 B Builtin.len #[23] 3 #[false] #[t31] w31 (fun t32 w32 =>
 B Builtin.len #[23] 3 #[false] #[v1] w32 (fun t33 w33 =>
 LoopE [53] [(I 0)] w33 (fun h34 w34 K34 =>
 D (binS BinOp.lss 3 (T 53) (T 52) (h34 53) t33) w34 (fun t35 w35 =>
 Br t35
(JoinE [] (fun K36 =>
 D (Instr.indexAt 23 v1 (h34 53)) w35 (fun t37 w37 =>
 D (L 38 t37) w37 (fun t38 w38 =>
 D (N 38 true (.tuple #[])) w38 (fun t39 w39 =>
 U (S 38 t39 t38) w39 (fun _ w40 =>
 D (L 28 t16) w40 (fun t41 w41 =>
 D (L 38 t39) w41 (fun t42 w42 =>
 Q 10 #[t41, t42] w42 (fun t43 w43 =>
 D (E t43 0) w43 (fun t44 w44 =>
 D (E t43 1) w44 (fun t45 w45 =>
 D (N 28 true (.tuple #[])) w45 (fun t46 w46 =>
 U (S 28 t46 t44) w46 (fun _ w47 =>
 D (binS J 32 (T 63) (C (I 0)) t45 (I 0)) w47 (fun t48 w48 =>
 Br t48
(D (L 28 t46) w48 (fun t49 w49 =>
 U (S 28 t16 t49) w49 (fun _ w50 =>
 K36 [] w50) X) X)
(K36 [] w48)) X) X) X) X) X) X) X) X) X) X) X) X)
(fun _ w51 =>
 D (binS O 3 (T 53) (C (I 1)) (h34 53) (I 1)) w51 (fun t52 w52 =>
 K34 [t52] w52) X))
(JoinE [] (fun K53 =>
 JoinE [77] (fun K54 =>
 D (F 28 t16 4) w35 (fun t55 w55 =>
 D (L 3 t55) w55 (fun t56 w56 =>
 D (binS BinOp.lss 3 (T 68) (C (I 0)) t56 (I 0)) w56 (fun t57 w57 =>
 Gd t57 false (D (F 28 t16 4) w57 (fun t58 w58 =>
 D (L 3 t58) w58 (fun t59 w59 =>
 D (F 28 t16 3) w59 (fun t60 w60 =>
 D (L 26 t60) w60 (fun t61 w61 =>
 B Builtin.len #[26] 3 #[false] #[t61] w61 (fun t62 w62 =>
 D (binS BinOp.gtr 3 (T 72) (T 75) t59 t62) w62 (fun t63 w63 =>
 K54 [t63] w63) X) X) X) X) X) X)
(K54 [(V true)] w57)) X) X) X)
(fun h64 w64 =>
 Br (h64 77)
(R (.returned (V false)) w64)
(K53 [] w64)))
(fun _ w65 =>
 DrawR w65 (fun R66 S66 w66 =>
 DetOp R66 (Both R66 S66) w66 (fun w67 K67 => D (L 28 t16) w67 K67 X) (fun c79_67 ψ67 =>
 DetOp R66 (Both R66 S66) w66 (fun w68 K68 => D (F 28 t16 4) w68 K68 X) (fun c80_68 ψ68 =>
 DetOp R66 (Both R66 S66) w66 (fun w69 K69 => D (L 3 c80_68) w69 K69 X) (fun c81_69 ψ69 =>
 DetOp R66 (Both R66 S66) w66 (fun w70 K70 => D (convert 29 3 v2) w70 K70 X) (fun c83_70 ψ70 =>
 DetOp R66 (Both R66 S66) w66 (fun w71 K71 => D (F 28 t16 3) w71 K71 X) (fun c84_71 ψ71 =>
 DetOp R66 (Both R66 S66) w66 (fun w72 K72 => D (L 26 c84_71) w72 K72 X) (fun c85_72 ψ72 =>
 DetOp R66 (Both R66 S66) w66 (fun w73 K73 => B Builtin.len #[26] 3 #[false] #[c85_72] w73 K73 X) (fun c86_73 ψ73 =>
 DetOp R66 (Both R66 S66) w66 (fun w74 K74 => D (F 28 t16 4) w74 K74 X) (fun c87_74 ψ74 =>
 DetOp R66 (Both R66 S66) w66 (fun w75 K75 => D (L 3 c87_74) w75 K75 X) (fun c88_75 ψ75 =>
 DetOp R66 (Both R66 S66) w66 (fun w76 K76 => D (binS BinOp.sub 3 (T 86) (T 88) c86_73 c88_75) w76 K76 X) (fun c89_76 ψ76 =>
 DetOp R66 (Both R66 S66) w66 (fun w77 K77 => D (binS O 3 (T 89) (C (I 1)) c89_76 (I 1)) w77 K77 X) (fun c90_77 ψ77 =>
 DetOp R66 (Both R66 S66) w66 (fun w78 K78 => D (binS BinOp.rem 3 (T 83) (T 90) c83_70 c90_77) w78 K78 X) (fun c91_78 ψ78 =>
 DetOp R66 (Both R66 S66) w66 (fun w79 K79 => D (binS O 3 (T 81) (T 91) c81_69 c91_78) w79 K79 X) (fun c92_79 ψ79 =>
 ThrE R66 S66 0 w66 (fun Θ66_0 T66_0 =>
 NdC R66 S66 0 w66 Θ66_0 (fun w80 K80 => Q 11 #[c79_67, c92_79] w80 K80 X) (fun v93_80 φ80 =>
 NdC R66 S66 0 w66 φ80 (fun w81 K81 => K81 v93_80 w81) (fun v78_81 φ81 =>
 NdC R66 S66 0 w66 φ81 (fun w82 K82 => D (E v78_81 0) w82 K82 X) (fun v94_82 φ82 =>
 NdC R66 S66 0 w66 φ82 (fun w83 K83 => D (E v78_81 1) w83 K83 X) (fun v95_83 φ83 =>
 T66_0 [v93_80, v78_81, v94_82, v95_83] φ83))))) (fun Φ66_0 =>
 ThrE R66 S66 1 w66 (fun Θ66_1 T66_1 =>
 NdC R66 S66 1 w66 Θ66_1 (fun w84 K84 => D (N 28 true (.tuple #[])) w84 K84 X) (fun v15_84 φ84 =>
 T66_1 [v15_84] φ84)) (fun Φ66_1 =>
 ∀ (h85 : Nat → Value) (w86 : World), R66 w66 w86 → (((((((((((((True ∧ ψ67 w86) ∧ ψ68 w86) ∧ ψ69 w86) ∧ ψ70 w86) ∧ ψ71 w86) ∧ ψ72 w86) ∧ ψ73 w86) ∧ ψ74 w86) ∧ ψ75 w86) ∧ ψ76 w86) ∧ ψ77 w86) ∧ ψ78 w86) ∧ ψ79 w86) ∧ ((True ∧ Φ66_0 [(h85 93), (h85 78), (h85 94), (h85 95)] w86) ∧ Φ66_1 [(h85 15)] w86) →
 U (S 28 (h85 15) (h85 94)) w86 (fun _ w87 =>
 D (L 28 (h85 15)) w87 (fun t88 w88 =>
 Q 12 #[t88] w88 (fun t89 w89 =>
 D (E t89 0) w89 (fun t90 w90 =>
 D (E t89 1) w90 (fun t91 w91 =>
 D (N 28 true (.tuple #[])) w91 (fun t92 w92 =>
 U (S 28 t92 t90) w92 (fun _ w93 =>
 DrawE w93 (fun Rs94 Rb94 w94 =>
 Gd t2 true (DetOp Rb94 Rs94 w94 (fun w95 K95 => D (binS J 32 (T 103) (C (I 0)) (h85 95) (I 0)) w95 K95 X) (fun c104_95 ψ95 =>
 Gd c104_95 true (DetOp Rb94 Rs94 w94 (fun w96 K96 => D (binS J 32 (T 107) (C (I 0)) t91 (I 0)) w96 K96 X) (fun c108_96 ψ96 =>
 Gd c108_96 true (DetOp Rb94 Rs94 w94 (fun w97 K97 => D (F 28 t1 2) w97 K97 X) (fun c112_97 ψ97 =>
 DetOp Rb94 Rs94 w94 (fun w98 K98 => D (F 25 c112_97 2) w98 K98 X) (fun c113_98 ψ98 =>
 DetOp Rb94 Rs94 w94 (fun w99 K99 => D (L 23 c113_98) w99 K99 X) (fun c114_99 ψ99 =>
 DetOp Rb94 Rs94 w94 (fun w100 K100 => B Builtin.len #[23] 3 #[false] #[c114_99] w100 K100 X) (fun c115_100 ψ100 =>
 DetOp Rb94 Rs94 w94 (fun w101 K101 => D (binS J 3 (T 111) (T 115) t32 c115_100) w101 K101 X) (fun c116_101 ψ101 =>
 Gd c116_101 true (DetOp Rb94 Rs94 w94 (fun w102 K102 => D (F 28 t92 2) w102 K102 X) (fun c119_102 ψ102 =>
 DetOp Rb94 Rs94 w94 (fun w103 K103 => D (F 25 c119_102 2) w103 K103 X) (fun c120_103 ψ103 =>
 DetOp Rb94 Rs94 w94 (fun w104 K104 => D (L 23 c120_103) w104 K104 X) (fun c121_104 ψ104 =>
 DetOp Rb94 Rs94 w94 (fun w105 K105 => B Builtin.len #[23] 3 #[false] #[c121_104] w105 K105 X) (fun c122_105 ψ105 =>
 DetOp Rb94 Rs94 w94 (fun w106 K106 => D (binS BinOp.geq 3 (T 122) (T 123) c122_105 t32) w106 K106 X) (fun c124_106 ψ106 =>
 Gd c124_106 true (DetOp Rb94 Rs94 w94 (fun w107 K107 => D (F 28 t92 2) w107 K107 X) (fun c127_107 ψ107 =>
 DetOp Rb94 Rs94 w94 (fun w108 K108 => D (F 25 c127_107 2) w108 K108 X) (fun c128_108 ψ108 =>
 DetOp Rb94 Rs94 w94 (fun w109 K109 => D (L 23 c128_108) w109 K109 X) (fun c129_109 ψ109 =>
 DetOp Rb94 Rs94 w94 (fun w110 K110 => D (Instr.sliceAt 23 c129_109 none (some t32) none) w110 K110 X) (fun c131_110 ψ110 =>
 DetOp Rb94 Rs94 w94 (fun w111 K111 => D (F 28 t1 2) w111 K111 X) (fun c132_111 ψ111 =>
 DetOp Rb94 Rs94 w94 (fun w112 K112 => D (F 25 c132_111 2) w112 K112 X) (fun c133_112 ψ112 =>
 DetOp Rb94 Rs94 w94 (fun w113 K113 => D (L 23 c133_112) w113 K113 X) (fun c134_113 ψ113 =>
 ∀ w114, Rb94 w94 w114 → (((((((((((((((((((True ∧ ψ95 w114) ∧ ψ96 w114) ∧ ψ97 w114) ∧ ψ98 w114) ∧ ψ99 w114) ∧ ψ100 w114) ∧ ψ101 w114) ∧ ψ102 w114) ∧ ψ103 w114) ∧ ψ104 w114) ∧ ψ105 w114) ∧ ψ106 w114) ∧ ψ107 w114) ∧ ψ108 w114) ∧ ψ109 w114) ∧ ψ110 w114) ∧ ψ111 w114) ∧ ψ112 w114) ∧ ψ113 w114) →
 Q 13 #[c131_110, c134_113] w114 (fun t115 w115 =>
 R (.returned t115) w115) X))))))))
(∀ w116, Rb94 w94 w116 → ((((((((((((True ∧ ψ95 w116) ∧ ψ96 w116) ∧ ψ97 w116) ∧ ψ98 w116) ∧ ψ99 w116) ∧ ψ100 w116) ∧ ψ101 w116) ∧ ψ102 w116) ∧ ψ103 w116) ∧ ψ104 w116) ∧ ψ105 w116) ∧ ψ106 w116) →
 R (.returned (V false)) w116)))))))
(∀ w117, Rb94 w94 w117 → (((((((True ∧ ψ95 w117) ∧ ψ96 w117) ∧ ψ97 w117) ∧ ψ98 w117) ∧ ψ99 w117) ∧ ψ100 w117) ∧ ψ101 w117) →
 R (.returned (V false)) w117)))))))
(∀ w118, Rb94 w94 w118 → ((True ∧ ψ95 w118) ∧ ψ96 w118) →
 R (.returned (V false)) w118)))
(∀ w119, Rb94 w94 w119 → (True ∧ ψ95 w119) →
 R (.returned (V false)) w119)))
(∀ w120, Rb94 w94 w120 → True →
 R (.returned (V false)) w120))) X) X) X) X) X) X) X))))))))))))))))))) X)) X) X) X) X) X)) X) X) X) X) X) X)) X) X)
theorem sh_landfalllaw41_VehicleMarks_ok (v0 v1 v2 : Value) (h : sh_landfalllaw41_VehicleMarks v0 v1 v2 R w) : Calls Tryz.prog 3 #[v0, v1, v2] w R :=
  calls_of_vc (c := Tryz.f3.body.getD .skip) (args := [v0, v1, v2]) [(17, 19, false, 38601654227960808), (19, 34, false, 0)] [53] follows_mixed Tryz.func3 rfl (of_decide_eq_true (by kernel_rfl)) (by kernel_rfl) (Eq.mp (by kernel_rfl) h)
def sh_landfalllaw41_VehicleStates (v0 v1 v2 : Value) (R : Ending → World → Prop) (w : World) : Prop := 
 letI X := Pan R
 letI D := DoV Tryz.prog
 letI U := DoU Tryz.prog
 letI Q := CallF Tryz.prog
 letI I := Value.int IntKind.i64
 letI T := Operand.tmp
 letI C := Operand.const
 letI L := Instr.loadAt
 letI F := Instr.fieldAt
 letI S := Instr.storeAt
 letI E := Instr.extract
 letI N := Instr.alloc
 letI V := Value.bool
 letI J := BinOp.eql
(D (Instr.box 28 v0) w (fun t1 w1 =>
 D (Instr.box 38 v1) w1 (fun t2 w2 =>
 Q 6 #[] w2 (fun t3 w3 =>
 JoinE [] (fun K4 =>
 JoinE [31] (fun K5 =>
 D (L 28 t1) w3 (fun t6 w6 =>
 Q 7 #[t6] w6 (fun t7 w7 =>
 D (Op.unary UnOp.not t7) w7 (fun t8 w8 =>
 Gd t8 false (D (L 28 t1) w8 (fun t9 w9 =>
 Q 9 #[t9] w9 (fun t10 w10 =>
 D (Op.unary UnOp.not t10) w10 (fun t11 w11 =>
 Gd t11 false (D (L 38 t2) w11 (fun t12 w12 =>
 Q 14 #[t12] w12 (fun t13 w13 =>
 D (Op.unary UnOp.not t13) w13 (fun t14 w14 =>
 K5 [t14] w14) X) X) X)
(K5 [(V true)] w11)) X) X) X)
(K5 [(V true)] w8)) X) X) X)
(fun h15 w15 =>
 Br (h15 31)
(R (.returned t3) w15)
(K4 [] w15)))
(fun _ w16 =>
 D (L 28 t1) w16 (fun t17 w17 =>
 D (L 38 t2) w17 (fun t18 w18 =>
 Q 10 #[t17, t18] w18 (fun t19 w19 =>
 D (E t19 0) w19 (fun t20 w20 =>
 D (E t19 1) w20 (fun t21 w21 =>
 D (N 28 true (.tuple #[])) w21 (fun t22 w22 =>
 U (S 28 t22 t20) w22 (fun _ w23 =>
 D (L 28 t1) w23 (fun t24 w24 =>
 Q 8 #[t24] w24 (fun t25 w25 =>
 D (E t25 0) w25 (fun t26 w26 =>
 D (E t25 1) w26 (fun t27 w27 =>
 D (N 28 true (.tuple #[])) w27 (fun t28 w28 =>
 U (S 28 t28 t26) w28 (fun _ w29 =>
 D (L 28 t1) w29 (fun t30 w30 =>
 Q 11 #[t30, v2] w30 (fun t31 w31 =>
 D (E t31 0) w31 (fun t32 w32 =>
 D (E t31 1) w32 (fun t33 w33 =>
 D (N 28 true (.tuple #[])) w33 (fun t34 w34 =>
 U (S 28 t34 t32) w34 (fun _ w35 =>
 D (L 28 t1) w35 (fun t36 w36 =>
 Q 12 #[t36] w36 (fun t37 w37 =>
 D (E t37 0) w37 (fun t38 w38 =>
 D (E t37 1) w38 (fun t39 w39 =>
 D (N 28 true (.tuple #[])) w39 (fun t40 w40 =>
 U (S 28 t40 t38) w40 (fun _ w41 =>
 JoinE [] (fun K42 =>
 JoinE [80] (fun K43 =>
 D (binS J 32 (T 55) (C (I 6)) t21 (I 6)) w41 (fun t44 w44 =>
 D (F 28 t1 5) w44 (fun t45 w45 =>
 D (L 4 t45) w45 (fun t46 w46 =>
 D (binS J 4 (T 56) (T 58) t44 t46) w46 (fun t47 w47 =>
 Gd t47 false (D (binS J 32 (T 61) (C (I 6)) t27 (I 6)) w47 (fun t48 w48 =>
 D (F 28 t1 5) w48 (fun t49 w49 =>
 D (L 4 t49) w49 (fun t50 w50 =>
 D (binS J 4 (T 62) (T 64) t48 t50) w50 (fun t51 w51 =>
 Gd t51 false (D (binS J 32 (T 68) (C (I 6)) t33 (I 6)) w51 (fun t52 w52 =>
 D (F 28 t1 5) w52 (fun t53 w53 =>
 D (L 4 t53) w53 (fun t54 w54 =>
 D (binS J 4 (T 69) (T 71) t52 t54) w54 (fun t55 w55 =>
 Gd t55 false (D (binS J 32 (T 75) (C (I 6)) t39 (I 6)) w55 (fun t56 w56 =>
 D (F 28 t1 5) w56 (fun t57 w57 =>
 D (L 4 t57) w57 (fun t58 w58 =>
 D (binS BinOp.neq 4 (T 76) (T 78) t56 t58) w58 (fun t59 w59 =>
 K43 [t59] w59) X) X) X) X)
(K43 [(V true)] w55)) X) X) X) X)
(K43 [(V true)] w51)) X) X) X) X)
(K43 [(V true)] w47)) X) X) X) X)
(fun h60 w60 =>
 Br (h60 80)
(R (.returned (V false)) w60)
(K42 [] w60)))
(fun _ w61 =>
 D (L 28 t22) w61 (fun t62 w62 =>
 D (L 28 t28) w62 (fun t63 w63 =>
 D (L 28 t34) w63 (fun t64 w64 =>
 D (L 28 t40) w64 (fun t65 w65 =>
 D (Instr.buildSlice 44 4 #[(0, t62), (1, t63), (2, t64), (3, t65)]) w65 (fun t66 w66 =>
 CallB Tryz.prog Builtin.len #[44] 3 #[false] #[t66] w66 (fun t67 w67 =>
 LoopE [7, 87] [t3, (I 0)] w67 (fun h68 w68 K68 =>
 D (binS BinOp.lss 3 (T 87) (T 86) (h68 87) t67) w68 (fun t69 w69 =>
 Br t69
(JoinE [7] (fun K70 =>
 D (Instr.indexAt 44 t66 (h68 87)) w69 (fun t71 w71 =>
 D (L 28 t71) w71 (fun t72 w72 =>
 D (N 28 true (.tuple #[])) w72 (fun t73 w73 =>
 U (S 28 t73 t72) w73 (fun _ w74 =>
 D (Instr.buildSlice 45 4 #[(0, t21), (1, t27), (2, t33), (3, t39)]) w74 (fun t75 w75 =>
 D (Instr.indexAt 45 t75 (h68 87)) w75 (fun t76 w76 =>
 D (L 32 t76) w76 (fun t77 w77 =>
 D (binS J 32 (T 99) (C (I 0)) t77 (I 0)) w77 (fun t78 w78 =>
 Br t78
(Gd (h68 7) true (D (F 28 t73 0) w78 (fun t79 w79 =>
 D (L 3 t79) w79 (fun t80 w80 =>
 D (F 28 t1 0) w80 (fun t81 w81 =>
 D (L 3 t81) w81 (fun t82 w82 =>
 D (binS J 3 (T 104) (T 106) t80 t82) w82 (fun t83 w83 =>
 Gd t83 true (D (F 28 t73 1) w83 (fun t84 w84 =>
 D (L 3 t84) w84 (fun t85 w85 =>
 D (F 28 t1 1) w85 (fun t86 w86 =>
 D (L 3 t86) w86 (fun t87 w87 =>
 D (binS J 3 (T 111) (T 113) t85 t87) w87 (fun t88 w88 =>
 Gd t88 true (D (F 28 t73 6) w88 (fun t89 w89 =>
 D (L 3 t89) w89 (fun t90 w90 =>
 D (F 28 t1 6) w90 (fun t91 w91 =>
 D (L 3 t91) w91 (fun t92 w92 =>
 D (binS J 3 (T 118) (T 120) t90 t92) w92 (fun t93 w93 =>
 Gd t93 true (D (F 28 t73 7) w93 (fun t94 w94 =>
 D (L 3 t94) w94 (fun t95 w95 =>
 D (F 28 t1 7) w95 (fun t96 w96 =>
 D (L 3 t96) w96 (fun t97 w97 =>
 D (binS J 3 (T 125) (T 127) t95 t97) w97 (fun t98 w98 =>
 K70 [t98] w98) X) X) X) X) X)
(K70 [(V false)] w93)) X) X) X) X) X)
(K70 [(V false)] w88)) X) X) X) X) X)
(K70 [(V false)] w83)) X) X) X) X) X)
(K70 [(V false)] w78))
(K70 [(h68 7)] w78)) X) X) X) X) X) X) X) X)
(fun h99 w99 =>
 D (binS BinOp.add 3 (T 87) (C (I 1)) (h68 87) (I 1)) w99 (fun t100 w100 =>
 K68 [(h99 7), t100] w100) X))
(R (.returned (h68 7)) w69)) X)) X) X) X) X) X) X)) X) X) X) X) X) X) X) X) X) X) X) X) X) X) X) X) X) X) X) X) X) X) X) X) X)) X) X) X)
theorem sh_landfalllaw41_VehicleStates_ok (v0 v1 v2 : Value) (h : sh_landfalllaw41_VehicleStates v0 v1 v2 R w) : Calls Tryz.prog 4 #[v0, v1, v2] w R :=
  calls_of_vc (c := Tryz.f4.body.getD .skip) (args := [v0, v1, v2]) [] [7, 87] follows_mixed Tryz.func4 rfl (of_decide_eq_true (by kernel_rfl)) (by kernel_rfl) (Eq.mp (by kernel_rfl) h)
def sh_landfalllaw41_VehicleMatchesReference (v0 v1 v2 v3 v4 v5 : Value) (R : Ending → World → Prop) (w : World) : Prop := 
 letI X := Pan R
 letI D := DoV Tryz.prog
 letI U := DoU Tryz.prog
 letI Q := CallF Tryz.prog
 letI T := Operand.tmp
 letI L := Instr.loadAt
 letI S := Instr.storeAt
 letI E := Instr.extract
 letI V := Value.bool
 letI J := BinOp.eql
(D (Instr.box 28 v0) w (fun t1 w1 =>
 D (Instr.box 38 v1) w1 (fun t2 w2 =>
 Q 6 #[] w2 (fun t3 w3 =>
 JoinE [] (fun K4 =>
 JoinE [26] (fun K5 =>
 D (L 28 t1) w3 (fun t6 w6 =>
 Q 7 #[t6] w6 (fun t7 w7 =>
 D (Op.unary UnOp.not t7) w7 (fun t8 w8 =>
 Gd t8 false (Q 15 #[v5] w8 (fun t9 w9 =>
 D (Op.unary UnOp.not t9) w9 (fun t10 w10 =>
 K5 [t10] w10) X) X)
(K5 [(V true)] w8)) X) X) X)
(fun h11 w11 =>
 Br (h11 26)
(R (.returned t3) w11)
(K4 [] w11)))
(fun _ w12 =>
 Q 16 #[v2, v3, v5] w12 (fun t13 w13 =>
 D (E t13 0) w13 (fun t14 w14 =>
 D (E t13 1) w14 (fun t15 w15 =>
 D (Instr.alloc 28 true (.tuple #[])) w15 (fun t16 w16 =>
 U (S 28 t16 t14) w16 (fun _ w17 =>
 Q 17 #[v2, v3, v5] w17 (fun t18 w18 =>
 D (E t18 0) w18 (fun t19 w19 =>
 D (E t18 1) w19 (fun t20 w20 =>
 D (Instr.alloc 28 true (.tuple #[])) w20 (fun t21 w21 =>
 U (S 28 t21 t19) w21 (fun _ w22 =>
 JoinE [13] (fun K23 =>
 DrawE w22 (fun Rs24 Rb24 w24 =>
 Gd t3 true (DetOp Rb24 Rs24 w24 (fun w25 K25 => D (L 28 t1) w25 K25 X) (fun c44_25 ψ25 =>
 DetOp Rb24 Rs24 w24 (fun w26 K26 => Q 18 #[c44_25] w26 K26 X) (fun c45_26 ψ26 =>
 DetOp Rb24 Rs24 w24 (fun w27 K27 => D (L 28 t1) w27 K27 X) (fun c46_27 ψ27 =>
 DetOp Rb24 Rs24 w24 (fun w28 K28 => Q 9 #[c46_27] w28 K28 X) (fun c47_28 ψ28 =>
 DetOp Rb24 Rs24 w24 (fun w29 K29 => D (binS J 4 (T 45) (T 47) c45_26 c47_28) w29 K29 X) (fun c48_29 ψ29 =>
 Gd c48_29 true (DetOp Rb24 Rs24 w24 (fun w30 K30 => D (L 28 t16) w30 K30 X) (fun c51_30 ψ30 =>
 DetOp Rb24 Rs24 w24 (fun w31 K31 => D (L 28 t21) w31 K31 X) (fun c52_31 ψ31 =>
 DetOp Rs24 Rb24 w24 (fun w32 K32 => Q 19 #[c51_30, c52_31] w32 K32 X) (fun c53_32 ψ32 =>
 Gd c53_32 true (∀ w33, Rb24 w24 w33 → ((((((((True ∧ ψ25 w33) ∧ ψ26 w33) ∧ ψ27 w33) ∧ ψ28 w33) ∧ ψ29 w33) ∧ ψ30 w33) ∧ ψ31 w33) ∧ ψ32 w33) →
 D (binS J 32 (T 56) (T 57) t15 t20) w33 (fun t34 w34 =>
 K23 [t34] w34) X)
(∀ w35, Rb24 w24 w35 → ((((((((True ∧ ψ25 w35) ∧ ψ26 w35) ∧ ψ27 w35) ∧ ψ28 w35) ∧ ψ29 w35) ∧ ψ30 w35) ∧ ψ31 w35) ∧ ψ32 w35) →
 K23 [(V false)] w35)))))
(∀ w36, Rb24 w24 w36 → (((((True ∧ ψ25 w36) ∧ ψ26 w36) ∧ ψ27 w36) ∧ ψ28 w36) ∧ ψ29 w36) →
 K23 [(V false)] w36)))))))
(∀ w37, Rb24 w24 w37 → True →
 K23 [(V false)] w37)))
(fun h38 w38 =>
 D (L 28 t1) w38 (fun t39 w39 =>
 D (L 38 t2) w39 (fun t40 w40 =>
 Q 10 #[t39, t40] w40 (fun t41 w41 =>
 D (E t41 0) w41 (fun t42 w42 =>
 D (E t41 1) w42 (fun t43 w43 =>
 U (S 28 t16 t42) w43 (fun _ w44 =>
 D (L 28 t1) w44 (fun t45 w45 =>
 D (L 38 t2) w45 (fun t46 w46 =>
 Q 20 #[t45, t46] w46 (fun t47 w47 =>
 D (E t47 0) w47 (fun t48 w48 =>
 D (E t47 1) w48 (fun t49 w49 =>
 U (S 28 t21 t48) w49 (fun _ w50 =>
 JoinE [13] (fun K51 =>
 Gd (h38 13) true (D (L 28 t16) w50 (fun t52 w52 =>
 D (L 28 t21) w52 (fun t53 w53 =>
 Q 19 #[t52, t53] w53 (fun t54 w54 =>
 Gd t54 true (D (binS J 32 (T 79) (T 80) t43 t49) w54 (fun t55 w55 =>
 K51 [t55] w55) X)
(K51 [(V false)] w54)) X) X) X)
(K51 [(V false)] w50))
(fun h56 w56 =>
 D (L 28 t1) w56 (fun t57 w57 =>
 Q 8 #[t57] w57 (fun t58 w58 =>
 D (E t58 0) w58 (fun t59 w59 =>
 D (E t58 1) w59 (fun t60 w60 =>
 U (S 28 t16 t59) w60 (fun _ w61 =>
 D (L 28 t1) w61 (fun t62 w62 =>
 Q 21 #[t62] w62 (fun t63 w63 =>
 D (E t63 0) w63 (fun t64 w64 =>
 D (E t63 1) w64 (fun t65 w65 =>
 U (S 28 t21 t64) w65 (fun _ w66 =>
 JoinE [13] (fun K67 =>
 Gd (h56 13) true (D (L 28 t16) w66 (fun t68 w68 =>
 D (L 28 t21) w68 (fun t69 w69 =>
 Q 19 #[t68, t69] w69 (fun t70 w70 =>
 Gd t70 true (D (binS J 32 (T 100) (T 101) t60 t65) w70 (fun t71 w71 =>
 K67 [t71] w71) X)
(K67 [(V false)] w70)) X) X) X)
(K67 [(V false)] w66))
(fun h72 w72 =>
 D (L 28 t1) w72 (fun t73 w73 =>
 Q 11 #[t73, v4] w73 (fun t74 w74 =>
 D (E t74 0) w74 (fun t75 w75 =>
 D (E t74 1) w75 (fun t76 w76 =>
 U (S 28 t16 t75) w76 (fun _ w77 =>
 D (L 28 t1) w77 (fun t78 w78 =>
 Q 22 #[t78, v4] w78 (fun t79 w79 =>
 D (E t79 0) w79 (fun t80 w80 =>
 D (E t79 1) w80 (fun t81 w81 =>
 U (S 28 t21 t80) w81 (fun _ w82 =>
 JoinE [13] (fun K83 =>
 Gd (h72 13) true (D (L 28 t16) w82 (fun t84 w84 =>
 D (L 28 t21) w84 (fun t85 w85 =>
 Q 19 #[t84, t85] w85 (fun t86 w86 =>
 Gd t86 true (D (binS J 32 (T 123) (T 124) t76 t81) w86 (fun t87 w87 =>
 K83 [t87] w87) X)
(K83 [(V false)] w86)) X) X) X)
(K83 [(V false)] w82))
(fun h88 w88 =>
 D (L 28 t1) w88 (fun t89 w89 =>
 Q 12 #[t89] w89 (fun t90 w90 =>
 D (E t90 0) w90 (fun t91 w91 =>
 D (E t90 1) w91 (fun t92 w92 =>
 U (S 28 t16 t91) w92 (fun _ w93 =>
 D (L 28 t1) w93 (fun t94 w94 =>
 Q 23 #[t94] w94 (fun t95 w95 =>
 D (E t95 0) w95 (fun t96 w96 =>
 D (E t95 1) w96 (fun t97 w97 =>
 U (S 28 t21 t96) w97 (fun _ w98 =>
 Gd (h88 13) true (D (L 28 t16) w98 (fun t99 w99 =>
 D (L 28 t21) w99 (fun t100 w100 =>
 Q 19 #[t99, t100] w100 (fun t101 w101 =>
 Gd t101 true (D (binS J 32 (T 144) (T 145) t92 t97) w101 (fun t102 w102 =>
 R (.returned t102) w102) X)
(R (.returned (V false)) w101)) X) X) X)
(R (.returned (V false)) w98)) X) X) X) X) X) X) X) X) X) X)) X) X) X) X) X) X) X) X) X) X)) X) X) X) X) X) X) X) X) X) X)) X) X) X) X) X) X) X) X) X) X) X) X)) X) X) X) X) X) X) X) X) X) X)) X) X) X)
theorem sh_landfalllaw41_VehicleMatchesReference_ok (v0 v1 v2 v3 v4 v5 : Value) (h : sh_landfalllaw41_VehicleMatchesReference v0 v1 v2 v3 v4 v5 R w) : Calls Tryz.prog 5 #[v0, v1, v2, v3, v4, v5] w R :=
  calls_of_vc (c := Tryz.f5.body.getD .skip) (args := [v0, v1, v2, v3, v4, v5]) [(6, 16, false, 12)] [13] follows_mixed Tryz.func5 rfl (of_decide_eq_true (by kernel_rfl)) (by kernel_rfl) (Eq.mp (by kernel_rfl) h)
def sh_landfalllaw41_head (R : Ending → World → Prop) (w : World) : Prop := 
 letI X := Pan R
 letI D := DoV Tryz.prog
 letI U := DoU Tryz.prog
 letI Q := CallF Tryz.prog
 letI B := CallB Tryz.prog
 letI I := Value.int IntKind.i64
 letI T := Operand.tmp
 letI C := Operand.const
 letI L := Instr.loadAt
 letI F := Instr.fieldAt
 letI S := Instr.storeAt
 letI E := Instr.extract
 letI N := Instr.alloc
 letI V := Value.bool
 letI J := BinOp.eql
(D (Instr.build 52 #[(0, (I 2))]) w (fun t1 w1 =>
 D (Instr.buildSlice 53 1 #[(0, t1)]) w1 (fun t2 w2 =>
 D (Instr.buildSlice 22 1 #[(0, t2)]) w2 (fun t3 w3 =>
 Q 16 #[(I 3), (I 1), t3] w3 (fun t4 w4 =>
 D (E t4 0) w4 (fun t5 w5 =>
 D (E t4 1) w5 (fun t6 w6 =>
 D (N 28 true (.tuple #[])) w6 (fun t7 w7 =>
 U (S 28 t7 t5) w7 (fun _ w8 =>
 DrawR w8 (fun R9 S9 w9 =>
 DetOp R9 (Both R9 S9) w9 (fun w10 K10 => D (L 28 t7) w10 K10 X) (fun c30_10 ψ10 =>
 DetOp R9 (Both R9 S9) w9 (fun w11 K11 => Q 24 #[(I 1)] w11 K11 X) (fun c31_11 ψ11 =>
 ThrE R9 S9 0 w9 (fun Θ9_0 T9_0 =>
 NdC R9 S9 0 w9 Θ9_0 (fun w12 K12 => Q 10 #[c30_10, c31_11] w12 K12 X) (fun v32_12 φ12 =>
 NdC R9 S9 0 w9 φ12 (fun w13 K13 => K13 v32_12 w13) (fun v29_13 φ13 =>
 NdC R9 S9 0 w9 φ13 (fun w14 K14 => D (E v29_13 0) w14 K14 X) (fun v33_14 φ14 =>
 NdC R9 S9 0 w9 φ14 (fun w15 K15 => D (E v29_13 1) w15 K15 X) (fun v34_15 φ15 =>
 T9_0 [v32_12, v29_13, v33_14, v34_15] φ15))))) (fun Φ9_0 =>
 ∀ (h16 : Nat → Value) (w17 : World), R9 w9 w17 → ((True ∧ ψ10 w17) ∧ ψ11 w17) ∧ (True ∧ Φ9_0 [(h16 32), (h16 29), (h16 33), (h16 34)] w17) →
 U (S 28 t7 (h16 33)) w17 (fun _ w18 =>
 DrawR w18 (fun R19 S19 w19 =>
 DetOp R19 (Both R19 S19) w19 (fun w20 K20 => D (L 28 t7) w20 K20 X) (fun c36_20 ψ20 =>
 DetOp R19 (Both R19 S19) w19 (fun w21 K21 => Q 24 #[(I 2)] w21 K21 X) (fun c37_21 ψ21 =>
 ThrE R19 S19 0 w19 (fun Θ19_0 T19_0 =>
 NdC R19 S19 0 w19 Θ19_0 (fun w22 K22 => Q 10 #[c36_20, c37_21] w22 K22 X) (fun v38_22 φ22 =>
 NdC R19 S19 0 w19 φ22 (fun w23 K23 => K23 v38_22 w23) (fun v35_23 φ23 =>
 NdC R19 S19 0 w19 φ23 (fun w24 K24 => D (E v35_23 0) w24 K24 X) (fun v39_24 φ24 =>
 NdC R19 S19 0 w19 φ24 (fun w25 K25 => D (E v35_23 1) w25 K25 X) (fun v40_25 φ25 =>
 T19_0 [v38_22, v35_23, v39_24, v40_25] φ25))))) (fun Φ19_0 =>
 ∀ (h26 : Nat → Value) (w27 : World), R19 w19 w27 → ((True ∧ ψ20 w27) ∧ ψ21 w27) ∧ (True ∧ Φ19_0 [(h26 38), (h26 35), (h26 39), (h26 40)] w27) →
 U (S 28 t7 (h26 39)) w27 (fun _ w28 =>
 D (L 28 t7) w28 (fun t29 w29 =>
 Q 8 #[t29] w29 (fun t30 w30 =>
 D (E t30 0) w30 (fun t31 w31 =>
 D (E t30 1) w31 (fun t32 w32 =>
 U (S 28 t7 t31) w32 (fun _ w33 =>
 DrawR w33 (fun R34 S34 w34 =>
 DetOp R34 (Both R34 S34) w34 (fun w35 K35 => D (L 28 t7) w35 K35 X) (fun c47_35 ψ35 =>
 DetOp R34 (Both R34 S34) w34 (fun w36 K36 => Q 24 #[(I 3)] w36 K36 X) (fun c48_36 ψ36 =>
 ThrE R34 S34 0 w34 (fun Θ34_0 T34_0 =>
 NdC R34 S34 0 w34 Θ34_0 (fun w37 K37 => Q 10 #[c47_35, c48_36] w37 K37 X) (fun v49_37 φ37 =>
 NdC R34 S34 0 w34 φ37 (fun w38 K38 => K38 v49_37 w38) (fun v46_38 φ38 =>
 NdC R34 S34 0 w34 φ38 (fun w39 K39 => D (E v46_38 0) w39 K39 X) (fun v50_39 φ39 =>
 NdC R34 S34 0 w34 φ39 (fun w40 K40 => D (E v46_38 1) w40 K40 X) (fun v51_40 φ40 =>
 T34_0 [v49_37, v46_38, v50_39, v51_40] φ40))))) (fun Φ34_0 =>
 ∀ (h41 : Nat → Value) (w42 : World), R34 w34 w42 → ((True ∧ ψ35 w42) ∧ ψ36 w42) ∧ (True ∧ Φ34_0 [(h41 49), (h41 46), (h41 50), (h41 51)] w42) →
 U (S 28 t7 (h41 50)) w42 (fun _ w43 =>
 DrawR w43 (fun R44 S44 w44 =>
 DetOp R44 (Both R44 S44) w44 (fun w45 K45 => D (L 28 t7) w45 K45 X) (fun c53_45 ψ45 =>
 DetOp R44 (Both R44 S44) w44 (fun w46 K46 => Q 24 #[(I 5)] w46 K46 X) (fun c54_46 ψ46 =>
 ThrE R44 S44 0 w44 (fun Θ44_0 T44_0 =>
 NdC R44 S44 0 w44 Θ44_0 (fun w47 K47 => Q 10 #[c53_45, c54_46] w47 K47 X) (fun v55_47 φ47 =>
 NdC R44 S44 0 w44 φ47 (fun w48 K48 => K48 v55_47 w48) (fun v52_48 φ48 =>
 NdC R44 S44 0 w44 φ48 (fun w49 K49 => D (E v52_48 0) w49 K49 X) (fun v56_49 φ49 =>
 NdC R44 S44 0 w44 φ49 (fun w50 K50 => D (E v52_48 1) w50 K50 X) (fun v57_50 φ50 =>
 T44_0 [v55_47, v52_48, v56_49, v57_50] φ50))))) (fun Φ44_0 =>
 ThrE R44 S44 1 w44 (fun Θ44_1 T44_1 =>
 NdC R44 S44 1 w44 Θ44_1 (fun w51 K51 => D (N 28 true (.tuple #[])) w51 K51 X) (fun v7_51 φ51 =>
 T44_1 [v7_51] φ51)) (fun Φ44_1 =>
 ∀ (h52 : Nat → Value) (w53 : World), R44 w44 w53 → ((True ∧ ψ45 w53) ∧ ψ46 w53) ∧ ((True ∧ Φ44_0 [(h52 55), (h52 52), (h52 56), (h52 57)] w53) ∧ Φ44_1 [(h52 7)] w53) →
 U (S 28 (h52 7) (h52 56)) w53 (fun _ w54 =>
 JoinE [] (fun K55 =>
 JoinE [92] (fun K56 =>
 D (binS BinOp.neq 32 (T 58) (C (I 0)) t6 (I 0)) w54 (fun t57 w57 =>
 Gd t57 false (D (binS BinOp.neq 32 (T 61) (C (I 0)) (h16 34) (I 0)) w57 (fun t58 w58 =>
 Gd t58 false (D (binS BinOp.neq 32 (T 65) (C (I 0)) (h26 40) (I 0)) w58 (fun t59 w59 =>
 Gd t59 false (D (binS BinOp.neq 32 (T 69) (C (I 0)) t32 (I 0)) w59 (fun t60 w60 =>
 Gd t60 false (D (binS BinOp.neq 32 (T 73) (C (I 0)) (h41 51) (I 0)) w60 (fun t61 w61 =>
 Gd t61 false (D (binS BinOp.neq 32 (T 77) (C (I 7)) (h52 57) (I 7)) w61 (fun t62 w62 =>
 Gd t62 false (D (F 28 t7 4) w62 (fun t63 w63 =>
 D (L 3 t63) w63 (fun t64 w64 =>
 D (binS J 3 (T 82) (C (I 0)) t64 (I 0)) w64 (fun t65 w65 =>
 Gd t65 false (D (F 28 t7 4) w65 (fun t66 w66 =>
 D (L 3 t66) w66 (fun t67 w67 =>
 D (F 28 t7 3) w67 (fun t68 w68 =>
 D (L 26 t68) w68 (fun t69 w69 =>
 B Builtin.len #[26] 3 #[false] #[t69] w69 (fun t70 w70 =>
 D (binS BinOp.geq 3 (T 87) (T 90) t67 t70) w70 (fun t71 w71 =>
 K56 [t71] w71) X) X) X) X) X) X)
(K56 [(V true)] w65)) X) X) X)
(K56 [(V true)] w62)) X)
(K56 [(V true)] w61)) X)
(K56 [(V true)] w60)) X)
(K56 [(V true)] w59)) X)
(K56 [(V true)] w58)) X)
(K56 [(V true)] w57)) X)
(fun h72 w72 =>
 Br (h72 92)
(R (.returned (V false)) w72)
(K55 [] w72)))
(fun _ w73 =>
 D (L 28 t7) w73 (fun t74 w74 =>
 D (F 28 t7 4) w74 (fun t75 w75 =>
 D (L 3 t75) w75 (fun t76 w76 =>
 Q 11 #[t74, t76] w76 (fun t77 w77 =>
 D (E t77 0) w77 (fun t78 w78 =>
 D (E t77 1) w78 (fun t79 w79 =>
 D (N 28 true (.tuple #[])) w79 (fun t80 w80 =>
 U (S 28 t80 t78) w80 (fun _ w81 =>
 D (L 28 t80) w81 (fun t82 w82 =>
 Q 8 #[t82] w82 (fun t83 w83 =>
 D (E t83 0) w83 (fun t84 w84 =>
 D (E t83 1) w84 (fun t85 w85 =>
 D (N 28 true (.tuple #[])) w85 (fun t86 w86 =>
 U (S 28 t86 t84) w86 (fun _ w87 =>
 D (L 28 t80) w87 (fun t88 w88 =>
 Q 12 #[t88] w88 (fun t89 w89 =>
 D (E t89 0) w89 (fun t90 w90 =>
 D (E t89 1) w90 (fun t91 w91 =>
 U (S 28 t80 t90) w91 (fun _ w92 =>
 D (L 28 t7) w92 (fun t93 w93 =>
 D (F 28 t7 3) w93 (fun t94 w94 =>
 D (L 26 t94) w94 (fun t95 w95 =>
 B Builtin.len #[26] 3 #[false] #[t95] w95 (fun t96 w96 =>
 Q 11 #[t93, t96] w96 (fun t97 w97 =>
 D (E t97 0) w97 (fun t98 w98 =>
 D (E t97 1) w98 (fun t99 w99 =>
 D (N 28 true (.tuple #[])) w99 (fun t100 w100 =>
 U (S 28 t100 t98) w100 (fun _ w101 =>
 D (L 28 t100) w101 (fun t102 w102 =>
 Q 12 #[t102] w102 (fun t103 w103 =>
 D (E t103 0) w103 (fun t104 w104 =>
 D (E t103 1) w104 (fun t105 w105 =>
 U (S 28 t100 t104) w105 (fun _ w106 =>
 D (L 28 t100) w106 (fun t107 w107 =>
 Q 12 #[t107] w107 (fun t108 w108 =>
 D (E t108 0) w108 (fun t109 w109 =>
 D (E t108 1) w109 (fun t110 w110 =>
 D (N 28 true (.tuple #[])) w110 (fun t111 w111 =>
 U (S 28 t111 t109) w111 (fun _ w112 =>
 D (L 28 t7) w112 (fun t113 w113 =>
 D (F 28 t7 4) w113 (fun t114 w114 =>
 D (L 3 t114) w114 (fun t115 w115 =>
 D (binS BinOp.sub 3 (T 131) (C (I 1)) t115 (I 1)) w115 (fun t116 w116 =>
 Q 11 #[t113, t116] w116 (fun t117 w117 =>
 D (E t117 0) w117 (fun t118 w118 =>
 D (E t117 1) w118 (fun t119 w119 =>
 D (N 28 true (.tuple #[])) w119 (fun t120 w120 =>
 U (S 28 t120 t118) w120 (fun _ w121 =>
 JoinE [21] (fun K122 =>
 D (binS J 32 (T 136) (C (I 0)) t79 (I 0)) w121 (fun t123 w123 =>
 Gd t123 true (D (binS J 32 (T 139) (C (I 0)) t91 (I 0)) w123 (fun t124 w124 =>
 Gd t124 true (D (binS J 32 (T 143) (C (I 0)) t99 (I 0)) w124 (fun t125 w125 =>
 Gd t125 true (D (binS J 32 (T 147) (C (I 0)) t105 (I 0)) w125 (fun t126 w126 =>
 Gd t126 true (D (binS J 32 (T 151) (C (I 6)) t85 (I 6)) w126 (fun t127 w127 =>
 Gd t127 true (D (binS J 32 (T 155) (C (I 6)) t110 (I 6)) w127 (fun t128 w128 =>
 Gd t128 true (D (binS J 32 (T 159) (C (I 1)) t119 (I 1)) w128 (fun t129 w129 =>
 K122 [t129] w129) X)
(K122 [(V false)] w128)) X)
(K122 [(V false)] w127)) X)
(K122 [(V false)] w126)) X)
(K122 [(V false)] w125)) X)
(K122 [(V false)] w124)) X)
(K122 [(V false)] w123)) X)
(fun h130 w130 =>
 Gd (h130 21) true (D (F 28 t80 2) w130 (fun t131 w131 =>
 D (F 25 t131 2) w131 (fun t132 w132 =>
 D (L 23 t132) w132 (fun t133 w133 =>
 B Builtin.len #[23] 3 #[false] #[t133] w133 (fun t134 w134 =>
 D (binS J 3 (T 167) (C (I 2)) t134 (I 2)) w134 (fun t135 w135 =>
 Gd t135 true (D (F 28 t80 5) w135 (fun t136 w136 =>
 D (L 4 t136) w136 (fun t137 w137 =>
 Gd t137 true (D (F 28 t100 2) w137 (fun t138 w138 =>
 D (F 25 t138 2) w138 (fun t139 w139 =>
 D (L 23 t139) w139 (fun t140 w140 =>
 D (F 28 t7 2) w140 (fun t141 w141 =>
 D (F 25 t141 2) w141 (fun t142 w142 =>
 D (L 23 t142) w142 (fun t143 w143 =>
 Q 13 #[t140, t143] w143 (fun t144 w144 =>
 R (.returned t144) w144) X) X) X) X) X) X) X)
(R (.returned (V false)) w137)) X) X)
(R (.returned (V false)) w135)) X) X) X) X) X)
(R (.returned (V false)) w130))) X) X) X) X) X) X) X) X) X) X) X) X) X) X) X) X) X) X) X) X) X) X) X) X) X) X) X) X) X) X) X) X) X) X) X) X) X) X) X) X) X) X) X) X) X) X) X) X)) X)))))) X))))) X) X) X) X) X) X))))) X))))) X) X) X) X) X) X) X) X)
theorem sh_landfalllaw41_head_ok (h : sh_landfalllaw41_head  R w) : Calls Tryz.prog 6 #[] w R :=
  calls_of_vc (c := Tryz.f6.body.getD .skip) (args := []) [(2, 6, false, 38440), (3, 6, false, 38440), (5, 6, false, 38440), (6, 7, false, 562728)] [21] follows_mixed Tryz.func6 rfl (of_decide_eq_true (by kernel_rfl)) (by kernel_rfl) (Eq.mp (by kernel_rfl) h)
def sh_landfallref41_Few (v0 : Value) (R : Ending → World → Prop) (w : World) : Prop := 
 letI X := Pan R
 letI D := DoV Tryz.prog
 letI I := Value.int IntKind.i64
(D (Instr.box 28 v0) w (fun t1 w1 =>
 D (Instr.fieldAt 28 t1 2) w1 (fun t2 w2 =>
 D (Instr.loadAt 25 t2) w2 (fun t3 w3 =>
 CallF Tryz.prog 25 #[t3] w3 (fun t4 w4 =>
 Gd t4 true (D (Instr.fieldAt 28 t1 3) w4 (fun t5 w5 =>
 D (Instr.loadAt 26 t5) w5 (fun t6 w6 =>
 CallB Tryz.prog Builtin.len #[26] 3 #[false] #[t6] w6 (fun t7 w7 =>
 D (binS BinOp.leq 3 (Operand.tmp 11) (Operand.const (I 3000)) t7 (I 3000)) w7 (fun t8 w8 =>
 R (.returned t8) w8) X) X) X) X)
(R (.returned (Value.bool false)) w4)) X) X) X) X)
theorem sh_landfallref41_Few_ok (v0 : Value) (h : sh_landfallref41_Few v0 R w) : Calls Tryz.prog 7 #[v0] w R :=
  calls_of_vc (c := Tryz.f7.body.getD .skip) (args := [v0]) [] [] follows_mixed Tryz.func7 rfl (of_decide_eq_true (by kernel_rfl)) (by kernel_rfl) (Eq.mp (by kernel_rfl) h)
def sh_vehicle_Mark (v0 : Value) (R : Ending → World → Prop) (w : World) : Prop := 
 letI X := Pan R
 letI D := DoV Tryz.prog
 letI U := DoU Tryz.prog
 letI Q := CallF Tryz.prog
 letI B := CallB Tryz.prog
 letI I := Value.int IntKind.i64
 letI L := Instr.loadAt
 letI F := Instr.fieldAt
 letI S := Instr.storeAt
 letI E := Instr.extract
(D (Instr.box 28 v0) w (fun t1 w1 =>
 D (Instr.alloc 28 true (.tuple #[])) w1 (fun t2 w2 =>
 D (L 28 t1) w2 (fun t3 w3 =>
 Q 26 #[t3] w3 (fun t4 w4 =>
 D (E t4 0) w4 (fun t5 w5 =>
 D (E t4 1) w5 (fun t6 w6 =>
 D (Instr.alloc 57 true (.tuple #[])) w6 (fun t7 w7 =>
 U (S 57 t7 t5) w7 (fun _ w8 =>
 D (Op.unary UnOp.not t6) w8 (fun t9 w9 =>
 Br t9
(D (Instr.build 28 #[]) w9 (fun t10 w10 =>
 U (S 28 t2 t10) w10 (fun _ w11 =>
 Res Tryz.prog [.cell t2 28, .tmp (I 1)] w11 R) X) X)
(D (F 57 t7 0) w9 (fun t12 w12 =>
 D (F 28 t12 5) w12 (fun t13 w13 =>
 D (L 4 t13) w13 (fun t14 w14 =>
 D (Op.unary UnOp.not t14) w14 (fun t15 w15 =>
 Br t15
(D (Instr.build 28 #[]) w15 (fun t16 w16 =>
 U (S 28 t2 t16) w16 (fun _ w17 =>
 Res Tryz.prog [.cell t2 28, .tmp (I 6)] w17 R) X) X)
(DrawR w15 (fun R18 S18 w18 =>
 DetOp R18 (Both R18 S18) w18 (fun w19 K19 => D (L 28 t1) w19 K19 X) (fun c23_19 ψ19 =>
 DetOp R18 (Both R18 S18) w18 (fun w20 K20 => D (F 57 t7 1) w20 K20 X) (fun c24_20 ψ20 =>
 DetOp R18 (Both R18 S18) w18 (fun w21 K21 => D (L 23 c24_20) w21 K21 X) (fun c25_21 ψ21 =>
 DetOp R18 (Both R18 S18) w18 (fun w22 K22 => B Builtin.len #[23] 3 #[false] #[c25_21] w22 K22 X) (fun c26_22 ψ22 =>
 DetOp R18 (Both R18 S18) w18 (fun w23 K23 => D (F 57 t7 1) w23 K23 X) (fun c27_23 ψ23 =>
 DetOp R18 (Both R18 S18) w18 (fun w24 K24 => D (L 23 c27_23) w24 K24 X) (fun c28_24 ψ24 =>
 DetOp R18 (Both R18 S18) w18 (fun w25 K25 => B Builtin.len #[23] 3 #[false] #[c28_24] w25 K25 X) (fun c29_25 ψ25 =>
 DetOp R18 (Both R18 S18) w18 (fun w26 K26 => Q 28 #[t7, c29_25] w26 K26 X) (fun c30_26 ψ26 =>
 DetOp R18 (Both R18 S18) w18 (fun w27 K27 => D (Instr.build 64 #[(0, (I 2)), (2, c26_22), (3, c30_26)]) w27 K27 X) (fun c31_27 ψ27 =>
 ThrE R18 S18 0 w18 (fun Θ18_0 T18_0 =>
 NdC R18 S18 0 w18 Θ18_0 (fun w28 K28 => Q 27 #[c23_19, c31_27] w28 K28 X) (fun v32_28 φ28 =>
 NdC R18 S18 0 w18 φ28 (fun w29 K29 => K29 v32_28 w29) (fun v22_29 φ29 =>
 NdC R18 S18 0 w18 φ29 (fun w30 K30 => D (E v22_29 0) w30 K30 X) (fun v33_30 φ30 =>
 NdC R18 S18 0 w18 φ30 (fun w31 K31 => D (E v22_29 1) w31 K31 X) (fun v34_31 φ31 =>
 T18_0 [v32_28, v22_29, v33_30, v34_31] φ31))))) (fun Φ18_0 =>
 ∀ (h32 : Nat → Value) (w33 : World), R18 w18 w33 → (((((((((True ∧ ψ19 w33) ∧ ψ20 w33) ∧ ψ21 w33) ∧ ψ22 w33) ∧ ψ23 w33) ∧ ψ24 w33) ∧ ψ25 w33) ∧ ψ26 w33) ∧ ψ27 w33) ∧ (True ∧ Φ18_0 [(h32 32), (h32 22), (h32 33), (h32 34)] w33) →
 U (S 28 t1 (h32 33)) w33 (fun _ w34 =>
 D (F 28 t1 3) w34 (fun t35 w35 =>
 D (L 26 t35) w35 (fun t36 w36 =>
 B Builtin.len #[26] 3 #[false] #[t36] w36 (fun t37 w37 =>
 D (F 28 t1 4) w37 (fun t38 w38 =>
 U (S 3 t38 t37) w38 (fun _ w39 =>
 D (L 28 t1) w39 (fun t40 w40 =>
 U (S 28 t2 t40) w40 (fun _ w41 =>
 Res Tryz.prog [.cell t2 28, .tmp (h32 34)] w41 R) X) X) X) X) X) X) X) X))))))))))))) X) X) X) X)) X) X) X) X) X) X) X) X) X)
theorem sh_vehicle_Mark_ok (v0 : Value) (h : sh_vehicle_Mark v0 R w) : Calls Tryz.prog 8 #[v0] w R :=
  calls_of_vc (c := Tryz.f8.body.getD .skip) (args := [v0]) [(6, 13, false, 78517371880)] [] follows_mixed Tryz.func8 rfl (of_decide_eq_true (by kernel_rfl)) (by kernel_rfl) (Eq.mp (by kernel_rfl) h)
def sh_landfallref41_Valid (v0 : Value) (R : Ending → World → Prop) (w : World) : Prop := 
 letI X := Pan R
 letI D := DoV Tryz.prog
 letI Q := CallF Tryz.prog
 letI B := CallB Tryz.prog
 letI I := Value.int IntKind.i64
 letI T := Operand.tmp
 letI C := Operand.const
 letI L := Instr.loadAt
 letI F := Instr.fieldAt
 letI E := Instr.extract
 letI V := Value.bool
(D (Instr.box 28 v0) w (fun t1 w1 =>
 JoinE [] (fun K2 =>
 JoinE [40] (fun K3 =>
 D (F 28 t1 0) w1 (fun t4 w4 =>
 D (L 3 t4) w4 (fun t5 w5 =>
 Q 29 #[t5] w5 (fun t6 w6 =>
 D (Op.unary UnOp.not t6) w6 (fun t7 w7 =>
 Gd t7 false (D (F 28 t1 1) w7 (fun t8 w8 =>
 D (L 3 t8) w8 (fun t9 w9 =>
 Q 29 #[t9] w9 (fun t10 w10 =>
 D (Op.unary UnOp.not t10) w10 (fun t11 w11 =>
 Gd t11 false (D (F 28 t1 6) w11 (fun t12 w12 =>
 D (L 3 t12) w12 (fun t13 w13 =>
 D (binS BinOp.lss 3 (T 23) (C (I 0)) t13 (I 0)) w13 (fun t14 w14 =>
 Gd t14 false (D (F 28 t1 6) w14 (fun t15 w15 =>
 D (L 3 t15) w15 (fun t16 w16 =>
 D (binS BinOp.gtr 3 (T 28) (C (I 1000000000)) t16 (I 1000000000)) w16 (fun t17 w17 =>
 Gd t17 false (D (F 28 t1 7) w17 (fun t18 w18 =>
 D (L 3 t18) w18 (fun t19 w19 =>
 D (binS BinOp.lss 3 (T 33) (C (I 0)) t19 (I 0)) w19 (fun t20 w20 =>
 Gd t20 false (D (F 28 t1 7) w20 (fun t21 w21 =>
 D (L 3 t21) w21 (fun t22 w22 =>
 D (binS BinOp.gtr 3 (T 38) (C (I 1)) t22 (I 1)) w22 (fun t23 w23 =>
 K3 [t23] w23) X) X) X)
(K3 [(V true)] w20)) X) X) X)
(K3 [(V true)] w17)) X) X) X)
(K3 [(V true)] w14)) X) X) X)
(K3 [(V true)] w11)) X) X) X) X)
(K3 [(V true)] w7)) X) X) X) X)
(fun h24 w24 =>
 Br (h24 40)
(R (.returned (V false)) w24)
(K2 [] w24)))
(fun _ w25 =>
 D (F 28 t1 2) w25 (fun t26 w26 =>
 D (L 25 t26) w26 (fun t27 w27 =>
 Q 30 #[t27] w27 (fun t28 w28 =>
 JoinE [] (fun K29 =>
 JoinE [53] (fun K30 =>
 D (Op.unary UnOp.not t28) w28 (fun t31 w31 =>
 Gd t31 false (D (F 28 t1 2) w31 (fun t32 w32 =>
 D (F 25 t32 0) w32 (fun t33 w33 =>
 D (L 3 t33) w33 (fun t34 w34 =>
 D (F 28 t1 0) w34 (fun t35 w35 =>
 D (L 3 t35) w35 (fun t36 w36 =>
 D (binS BinOp.neq 3 (T 49) (T 51) t34 t36) w36 (fun t37 w37 =>
 K30 [t37] w37) X) X) X) X) X) X)
(K30 [(V true)] w31)) X)
(fun h38 w38 =>
 Br (h38 53)
(R (.returned (V false)) w38)
(K29 [] w38)))
(fun _ w39 =>
 D (F 28 t1 3) w39 (fun t40 w40 =>
 D (L 26 t40) w40 (fun t41 w41 =>
 D (F 28 t1 0) w41 (fun t42 w42 =>
 D (L 3 t42) w42 (fun t43 w43 =>
 Q 31 #[t41, t43] w43 (fun t44 w44 =>
 D (E t44 0) w44 (fun t45 w45 =>
 D (E t44 1) w45 (fun t46 w46 =>
 D (E t44 2) w46 (fun t47 w47 =>
 D (F 28 t1 3) w47 (fun t48 w48 =>
 D (L 26 t48) w48 (fun t49 w49 =>
 Q 32 #[t49] w49 (fun t50 w50 =>
 D (E t50 0) w50 (fun t51 w51 =>
 D (E t50 1) w51 (fun _ w52 =>
 D (E t50 2) w52 (fun _ w53 =>
 D (F 28 t1 4) w53 (fun t54 w54 =>
 D (L 3 t54) w54 (fun t55 w55 =>
 Q 33 #[t51, t55] w55 (fun t56 w56 =>
 JoinE [] (fun K57 =>
 JoinE [79] (fun K58 =>
 D (Op.unary UnOp.not t47) w56 (fun t59 w59 =>
 Gd t59 false (D (Op.unary UnOp.not t56) w59 (fun t60 w60 =>
 K58 [t60] w60) X)
(K58 [(V true)] w59)) X)
(fun h61 w61 =>
 Br (h61 79)
(R (.returned (V false)) w61)
(K57 [] w61)))
(fun _ w62 =>
 D (F 28 t1 5) w62 (fun t63 w63 =>
 D (L 4 t63) w63 (fun t64 w64 =>
 D (Op.unary UnOp.not t64) w64 (fun t65 w65 =>
 Br t65
(D (F 28 t1 2) w65 (fun t66 w66 =>
 D (F 25 t66 2) w66 (fun t67 w67 =>
 D (L 23 t67) w67 (fun t68 w68 =>
 B Builtin.len #[23] 3 #[false] #[t68] w68 (fun t69 w69 =>
 D (binS BinOp.eql 3 (T 86) (C (I 0)) t69 (I 0)) w69 (fun t70 w70 =>
 R (.returned t70) w70) X) X) X) X) X)
(D (F 28 t1 3) w65 (fun t71 w71 =>
 D (L 26 t71) w71 (fun t72 w72 =>
 B Builtin.len #[26] 3 #[false] #[t72] w72 (fun t73 w73 =>
 D (binS BinOp.eql 3 (T 88) (T 91) t46 t73) w73 (fun t74 w74 =>
 Gd t74 true (D (F 28 t1 2) w74 (fun t75 w75 =>
 D (F 25 t75 2) w75 (fun t76 w76 =>
 D (L 23 t76) w76 (fun t77 w77 =>
 Q 13 #[t45, t77] w77 (fun t78 w78 =>
 R (.returned t78) w78) X) X) X) X)
(R (.returned (V false)) w74)) X) X) X) X)) X) X) X)) X) X) X) X) X) X) X) X) X) X) X) X) X) X) X) X) X)) X) X) X)) X)
theorem sh_landfallref41_Valid_ok (v0 : Value) (h : sh_landfallref41_Valid v0 R w) : Calls Tryz.prog 9 #[v0] w R :=
  calls_of_vc (c := Tryz.f9.body.getD .skip) (args := [v0]) [] [] follows_mixed Tryz.func9 rfl (of_decide_eq_true (by kernel_rfl)) (by kernel_rfl) (Eq.mp (by kernel_rfl) h)
def sh_vehicle_Write (v0 v1 : Value) (R : Ending → World → Prop) (w : World) : Prop := 
 letI X := Pan R
 letI D := DoV Tryz.prog
 letI U := DoU Tryz.prog
 letI Q := CallF Tryz.prog
 letI B := CallB Tryz.prog
 letI I := Value.int IntKind.i64
 letI T := Operand.tmp
 letI L := Instr.loadAt
 letI F := Instr.fieldAt
 letI S := Instr.storeAt
 letI E := Instr.extract
 letI V := Value.bool
(D (Instr.box 28 v0) w (fun t1 w1 =>
 D (Instr.box 38 v1) w1 (fun t2 w2 =>
 D (Instr.alloc 28 true (.tuple #[])) w2 (fun t3 w3 =>
 D (L 28 t1) w3 (fun t4 w4 =>
 Q 26 #[t4] w4 (fun t5 w5 =>
 D (E t5 0) w5 (fun t6 w6 =>
 D (E t5 1) w6 (fun t7 w7 =>
 D (Instr.alloc 57 true (.tuple #[])) w7 (fun t8 w8 =>
 U (S 57 t8 t6) w8 (fun _ w9 =>
 JoinE [] (fun K10 =>
 JoinE [14] (fun K11 =>
 D (Op.unary UnOp.not t7) w9 (fun t12 w12 =>
 Gd t12 false (D (L 38 t2) w12 (fun t13 w13 =>
 Q 34 #[t13] w13 (fun t14 w14 =>
 D (Op.unary UnOp.not t14) w14 (fun t15 w15 =>
 K11 [t15] w15) X) X) X)
(K11 [(V true)] w12)) X)
(fun h16 w16 =>
 Br (h16 14)
(D (Instr.build 28 #[]) w16 (fun t17 w17 =>
 U (S 28 t3 t17) w17 (fun _ w18 =>
 Res Tryz.prog [.cell t3 28, .tmp (I 1)] w18 R) X) X)
(D (F 57 t8 0) w16 (fun t19 w19 =>
 D (F 28 t19 5) w19 (fun t20 w20 =>
 D (L 4 t20) w20 (fun t21 w21 =>
 D (Op.unary UnOp.not t21) w21 (fun t22 w22 =>
 Br t22
(D (Instr.build 28 #[]) w22 (fun t23 w23 =>
 U (S 28 t3 t23) w23 (fun _ w24 =>
 Res Tryz.prog [.cell t3 28, .tmp (I 6)] w24 R) X) X)
(K10 [] w22)) X) X) X) X)))
(fun _ w25 =>
 DrawR w25 (fun R26 S26 w26 =>
 DetOp R26 (Both R26 S26) w26 (fun w27 K27 => D (F 57 t8 1) w27 K27 X) (fun c29_27 ψ27 =>
 DetOp R26 (Both R26 S26) w26 (fun w28 K28 => D (L 23 c29_27) w28 K28 X) (fun c30_28 ψ28 =>
 DetOp R26 (Both R26 S26) w26 (fun w29 K29 => D (L 38 t2) w29 K29 X) (fun c32_29 ψ29 =>
 ThrE R26 S26 0 w26 (fun Θ26_0 T26_0 =>
 NdC R26 S26 0 w26 Θ26_0 (fun w30 K30 => Q 35 #[c30_28] w30 K30 X) (fun v31_30 φ30 =>
 T26_0 [v31_30] φ30)) (fun Φ26_0 =>
 ThrE R26 S26 1 w26 (fun Θ26_1 T26_1 =>
 NdC R26 S26 1 w26 Θ26_1 (fun w31 K31 => D (Instr.buildSlice 23 1 #[(0, c32_29)]) w31 K31 X) (fun v33_31 φ31 =>
 T26_1 [v33_31] φ31)) (fun Φ26_1 =>
 ∀ (h32 : Nat → Value) (w33 : World), R26 w26 w33 → (((True ∧ ψ27 w33) ∧ ψ28 w33) ∧ ψ29 w33) ∧ ((True ∧ Φ26_0 [(h32 31)] w33) ∧ Φ26_1 [(h32 33)] w33) →
 B Builtin.append #[23, 23] 23 #[false, false] #[(h32 31), (h32 33)] w33 (fun t34 w34 =>
 JoinE [] (fun K35 =>
 JoinE [56] (fun K36 =>
 DrawE w34 (fun Rs37 Rb37 w37 =>
 DetOp Rb37 Rs37 w37 (fun w38 K38 => D (F 38 t2 0) w38 K38 X) (fun c35_38 ψ38 =>
 DetOp Rb37 Rs37 w37 (fun w39 K39 => D (L 3 c35_38) w39 K39 X) (fun c36_39 ψ39 =>
 DetOp Rb37 Rs37 w37 (fun w40 K40 => B Builtin.len #[23] 3 #[false] #[t34] w40 K40 X) (fun c38_40 ψ40 =>
 DetOp Rb37 Rs37 w37 (fun w41 K41 => D (binS BinOp.neq 3 (T 36) (T 38) c36_39 c38_40) w41 K41 X) (fun c39_41 ψ41 =>
 Gd c39_41 false (DetOp Rb37 Rs37 w37 (fun w42 K42 => B Builtin.len #[23] 3 #[false] #[t34] w42 K42 X) (fun c42_42 ψ42 =>
 DetOp Rb37 Rs37 w37 (fun w43 K43 => D (binS BinOp.gtr 3 (T 42) (Operand.const (I 1)) c42_42 (I 1)) w43 K43 X) (fun c43_43 ψ43 =>
 Gd c43_43 true (DetOp Rb37 Rs37 w37 (fun w44 K44 => D (F 38 t2 1) w44 K44 X) (fun c45_44 ψ44 =>
 DetOp Rb37 Rs37 w37 (fun w45 K45 => D (L 3 c45_44) w45 K45 X) (fun c46_45 ψ45 =>
 DetOp Rb37 Rs37 w37 (fun w46 K46 => B Builtin.len #[23] 3 #[false] #[t34] w46 K46 X) (fun c49_46 ψ46 =>
 DetOp Rb37 Rs37 w37 (fun w47 K47 => D (binS BinOp.sub 3 (T 49) (Operand.const (I 2)) c49_46 (I 2)) w47 K47 X) (fun c50_47 ψ47 =>
 DetOp Rb37 Rs37 w37 (fun w48 K48 => D (Instr.indexAt 23 t34 c50_47) w48 K48 X) (fun c51_48 ψ48 =>
 DetOp Rb37 Rs37 w37 (fun w49 K49 => D (F 38 c51_48 1) w49 K49 X) (fun c52_49 ψ49 =>
 DetOp Rb37 Rs37 w37 (fun w50 K50 => D (L 3 c52_49) w50 K50 X) (fun c53_50 ψ50 =>
 ∀ w51, Rb37 w37 w51 → (((((((((((((True ∧ ψ38 w51) ∧ ψ39 w51) ∧ ψ40 w51) ∧ ψ41 w51) ∧ ψ42 w51) ∧ ψ43 w51) ∧ ψ44 w51) ∧ ψ45 w51) ∧ ψ46 w51) ∧ ψ47 w51) ∧ ψ48 w51) ∧ ψ49 w51) ∧ ψ50 w51) →
 D (binS BinOp.lss 3 (T 46) (T 53) c46_45 c53_50) w51 (fun t52 w52 =>
 K36 [t52] w52) X))))))))
(∀ w53, Rb37 w37 w53 → ((((((True ∧ ψ38 w53) ∧ ψ39 w53) ∧ ψ40 w53) ∧ ψ41 w53) ∧ ψ42 w53) ∧ ψ43 w53) →
 K36 [(V false)] w53))))
(∀ w54, Rb37 w37 w54 → ((((True ∧ ψ38 w54) ∧ ψ39 w54) ∧ ψ40 w54) ∧ ψ41 w54) →
 K36 [(V true)] w54)))))))
(fun h55 w55 =>
 Br (h55 56)
(D (Instr.build 28 #[]) w55 (fun t56 w56 =>
 U (S 28 t3 t56) w56 (fun _ w57 =>
 Res Tryz.prog [.cell t3 28, .tmp (I 7)] w57 R) X) X)
(K35 [] w55)))
(fun _ w58 =>
 D (F 28 t1 2) w58 (fun t59 w59 =>
 D (F 25 t59 2) w59 (fun t60 w60 =>
 U (S 23 t60 t34) w60 (fun _ w61 =>
 D (L 28 t1) w61 (fun t62 w62 =>
 D (L 38 t2) w62 (fun t63 w63 =>
 D (Instr.build 64 #[(0, (I 1)), (1, t63)]) w63 (fun t64 w64 =>
 Q 27 #[t62, t64] w64 (fun t65 w65 =>
 D (E t65 0) w65 (fun t66 w66 =>
 D (E t65 1) w66 (fun t67 w67 =>
 U (S 28 t3 t66) w67 (fun _ w68 =>
 Res Tryz.prog [.cell t3 28, .tmp t67] w68 R) X) X) X) X) X) X) X) X) X) X)) X)))))))) X) X) X) X) X) X) X) X) X)
theorem sh_vehicle_Write_ok (v0 v1 : Value) (h : sh_vehicle_Write v0 v1 R w) : Calls Tryz.prog 10 #[v0, v1] w R :=
  calls_of_vc (c := Tryz.f10.body.getD .skip) (args := [v0, v1]) [(6, 5, false, 9256), (7, 19, false, 0)] [] follows_mixed Tryz.func10 rfl (of_decide_eq_true (by kernel_rfl)) (by kernel_rfl) (Eq.mp (by kernel_rfl) h)
def sh_vehicle_Crash (v0 v1 : Value) (R : Ending → World → Prop) (w : World) : Prop := 
 letI X := Pan R
 letI D := DoV Tryz.prog
 letI U := DoU Tryz.prog
 letI Q := CallF Tryz.prog
 letI I := Value.int IntKind.i64
 letI T := Operand.tmp
 letI L := Instr.loadAt
 letI F := Instr.fieldAt
 letI S := Instr.storeAt
(D (Instr.box 28 v0) w (fun t1 w1 =>
 D (Instr.alloc 28 true (.tuple #[])) w1 (fun t2 w2 =>
 D (L 28 t1) w2 (fun t3 w3 =>
 Q 26 #[t3] w3 (fun t4 w4 =>
 D (Instr.extract t4 0) w4 (fun t5 w5 =>
 D (Instr.extract t4 1) w5 (fun t6 w6 =>
 D (Instr.alloc 57 true (.tuple #[])) w6 (fun t7 w7 =>
 U (S 57 t7 t5) w7 (fun _ w8 =>
 JoinE [] (fun K9 =>
 D (Op.unary UnOp.not t6) w8 (fun t10 w10 =>
 Br t10
(D (Instr.build 28 #[]) w10 (fun t11 w11 =>
 U (S 28 t2 t11) w11 (fun _ w12 =>
 Res Tryz.prog [.cell t2 28, .tmp (I 1)] w12 R) X) X)
(D (F 57 t7 0) w10 (fun t13 w13 =>
 D (F 28 t13 5) w13 (fun t14 w14 =>
 D (L 4 t14) w14 (fun t15 w15 =>
 D (Op.unary UnOp.not t15) w15 (fun t16 w16 =>
 Br t16
(D (Instr.build 28 #[]) w16 (fun t17 w17 =>
 U (S 28 t2 t17) w17 (fun _ w18 =>
 Res Tryz.prog [.cell t2 28, .tmp (I 6)] w18 R) X) X)
(JoinE [23] (fun K19 =>
 D (F 57 t7 0) w16 (fun t20 w20 =>
 D (F 28 t20 4) w20 (fun t21 w21 =>
 D (L 3 t21) w21 (fun t22 w22 =>
 D (binS BinOp.lss 3 (T 24) (T 27) v1 t22) w22 (fun t23 w23 =>
 Gd t23 false (D (F 57 t7 0) w23 (fun t24 w24 =>
 D (F 28 t24 3) w24 (fun t25 w25 =>
 D (L 26 t25) w25 (fun t26 w26 =>
 CallB Tryz.prog Builtin.len #[26] 3 #[false] #[t26] w26 (fun t27 w27 =>
 D (binS BinOp.gtr 3 (T 30) (T 34) v1 t27) w27 (fun t28 w28 =>
 K19 [t28] w28) X) X) X) X) X)
(K19 [(Value.bool true)] w23)) X) X) X) X)
(fun h29 w29 =>
 Br (h29 23)
(D (Instr.build 28 #[]) w29 (fun t30 w30 =>
 U (S 28 t2 t30) w30 (fun _ w31 =>
 Res Tryz.prog [.cell t2 28, .tmp (I 1)] w31 R) X) X)
(K9 [] w29)))) X) X) X) X)) X)
(fun _ w32 =>
 D (F 28 t1 3) w32 (fun t33 w33 =>
 D (L 26 t33) w33 (fun t34 w34 =>
 D (Instr.sliceAt 26 t34 none (some v1) none) w34 (fun t35 w35 =>
 Q 36 #[t35] w35 (fun t36 w36 =>
 D (F 28 t1 3) w36 (fun t37 w37 =>
 U (S 26 t37 t36) w37 (fun _ w38 =>
 D (F 28 t1 2) w38 (fun t39 w39 =>
 D (F 25 t39 2) w39 (fun t40 w40 =>
 U (S 23 t40 (Value.slice none 0 0)) w40 (fun _ w41 =>
 D (F 28 t1 5) w41 (fun t42 w42 =>
 U (S 4 t42 (Value.bool false)) w42 (fun _ w43 =>
 D (L 28 t1) w43 (fun t44 w44 =>
 U (S 28 t2 t44) w44 (fun _ w45 =>
 Res Tryz.prog [.cell t2 28, .tmp (I 0)] w45 R) X) X) X) X) X) X) X) X) X) X) X) X) X)) X) X) X) X) X) X) X) X)
theorem sh_vehicle_Crash_ok (v0 v1 : Value) (h : sh_vehicle_Crash v0 v1 R w) : Calls Tryz.prog 11 #[v0, v1] w R :=
  calls_of_vc (c := Tryz.f11.body.getD .skip) (args := [v0, v1]) [] [] follows_mixed Tryz.func11 rfl (of_decide_eq_true (by kernel_rfl)) (by kernel_rfl) (Eq.mp (by kernel_rfl) h)
def sh_vehicle_Wake (v0 : Value) (R : Ending → World → Prop) (w : World) : Prop := 
 letI X := Pan R
 letI D := DoV Tryz.prog
 letI U := DoU Tryz.prog
 letI Q := CallF Tryz.prog
 letI I := Value.int IntKind.i64
 letI L := Instr.loadAt
 letI F := Instr.fieldAt
 letI S := Instr.storeAt
(D (Instr.box 28 v0) w (fun t1 w1 =>
 D (Instr.alloc 28 true (.tuple #[])) w1 (fun t2 w2 =>
 D (L 28 t1) w2 (fun t3 w3 =>
 Q 26 #[t3] w3 (fun t4 w4 =>
 D (Instr.extract t4 0) w4 (fun t5 w5 =>
 D (Instr.extract t4 1) w5 (fun t6 w6 =>
 D (Instr.alloc 57 true (.tuple #[])) w6 (fun t7 w7 =>
 U (S 57 t7 t5) w7 (fun _ w8 =>
 D (Op.unary UnOp.not t6) w8 (fun t9 w9 =>
 Br t9
(D (Instr.build 28 #[]) w9 (fun t10 w10 =>
 U (S 28 t2 t10) w10 (fun _ w11 =>
 Res Tryz.prog [.cell t2 28, .tmp (I 1)] w11 R) X) X)
(D (F 57 t7 0) w9 (fun t12 w12 =>
 D (F 28 t12 5) w12 (fun t13 w13 =>
 D (L 4 t13) w13 (fun t14 w14 =>
 Br t14
(D (Instr.build 28 #[]) w14 (fun t15 w15 =>
 U (S 28 t2 t15) w15 (fun _ w16 =>
 Res Tryz.prog [.cell t2 28, .tmp (I 6)] w16 R) X) X)
(DrawR w14 (fun R17 S17 w17 =>
 DetOp R17 (Both R17 S17) w17 (fun w18 K18 => D (F 28 t1 3) w18 K18 X) (fun c20_18 ψ18 =>
 DetOp R17 (Both R17 S17) w17 (fun w19 K19 => D (F 57 t7 2) w19 K19 X) (fun c22_19 ψ19 =>
 DetOp R17 (Both R17 S17) w17 (fun w20 K20 => D (L 3 c22_19) w20 K20 X) (fun c23_20 ψ20 =>
 DetOp R17 (Both R17 S17) w17 (fun w21 K21 => D (F 57 t7 2) w21 K21 X) (fun c26_21 ψ21 =>
 DetOp R17 (Both R17 S17) w17 (fun w22 K22 => D (L 3 c26_21) w22 K22 X) (fun c27_22 ψ22 =>
 DetOp R17 (Both R17 S17) w17 (fun w23 K23 => D (F 57 t7 1) w23 K23 X) (fun c28_23 ψ23 =>
 DetOp R17 (Both R17 S17) w17 (fun w24 K24 => D (L 23 c28_23) w24 K24 X) (fun c29_24 ψ24 =>
 DetOp R17 (Both R17 S17) w17 (fun w25 K25 => D (F 28 t1 3) w25 K25 X) (fun c30_25 ψ25 =>
 DetOp R17 (Both R17 S17) w17 (fun w26 K26 => D (F 28 t1 4) w26 K26 X) (fun c31_26 ψ26 =>
 DetOp R17 (Both R17 S17) w17 (fun w27 K27 => U (S 3 c31_26 c27_22) w27 K27 X) (fun c_27 ψ27 =>
 ThrE R17 S17 0 w17 (fun Θ17_0 T17_0 =>
 NdC R17 S17 0 w17 Θ17_0 (fun w28 K28 => D (L 26 c20_18) w28 K28 X) (fun v21_28 φ28 =>
 NdC R17 S17 0 w17 φ28 (fun w29 K29 => D (Instr.sliceAt 26 v21_28 none (some c23_20) none) w29 K29 X) (fun v24_29 φ29 =>
 NdC R17 S17 0 w17 φ29 (fun w30 K30 => Q 36 #[v24_29] w30 K30 X) (fun v25_30 φ30 =>
 NdC R17 S17 0 w17 φ30 (fun w31 K31 => U (S 26 c30_25 v25_30) w31 K31 X) (fun x_31 φ31 =>
 T17_0 [v21_28, v24_29, v25_30] φ31))))) (fun Φ17_0 =>
 ∀ (h32 : Nat → Value) (w33 : World), R17 w17 w33 → ((((((((((True ∧ ψ18 w33) ∧ ψ19 w33) ∧ ψ20 w33) ∧ ψ21 w33) ∧ ψ22 w33) ∧ ψ23 w33) ∧ ψ24 w33) ∧ ψ25 w33) ∧ ψ26 w33) ∧ ψ27 w33) ∧ (True ∧ Φ17_0 [(h32 21), (h32 24), (h32 25)] w33) →
 D (F 28 t1 2) w33 (fun t34 w34 =>
 D (F 25 t34 2) w34 (fun t35 w35 =>
 U (S 23 t35 c29_24) w35 (fun _ w36 =>
 D (F 28 t1 5) w36 (fun t37 w37 =>
 U (S 4 t37 (Value.bool true)) w37 (fun _ w38 =>
 D (L 28 t1) w38 (fun t39 w39 =>
 U (S 28 t2 t39) w39 (fun _ w40 =>
 Res Tryz.prog [.cell t2 28, .tmp (I 0)] w40 R) X) X) X) X) X) X) X)))))))))))))) X) X) X)) X) X) X) X) X) X) X) X) X)
theorem sh_vehicle_Wake_ok (v0 : Value) (h : sh_vehicle_Wake v0 R w) : Calls Tryz.prog 12 #[v0] w R :=
  calls_of_vc (c := Tryz.f12.body.getD .skip) (args := [v0]) [(6, 14, false, 8589972464)] [] follows_mixed Tryz.func12 rfl (of_decide_eq_true (by kernel_rfl)) (by kernel_rfl) (Eq.mp (by kernel_rfl) h)
def sh_landfallref24_SameEntries (v0 v1 : Value) (R : Ending → World → Prop) (w : World) : Prop := 
 letI X := Pan R
 letI D := DoV Tryz.prog
 letI B := CallB Tryz.prog
 letI I := Value.int IntKind.i64
 letI T := Operand.tmp
 letI V := Value.bool
(B Builtin.len #[23] 3 #[false] #[v0] w (fun t1 w1 =>
 B Builtin.len #[23] 3 #[false] #[v1] w1 (fun t2 w2 =>
 D (binS BinOp.neq 3 (T 7) (T 9) t1 t2) w2 (fun t3 w3 =>
 Br t3
(R (.returned (V false)) w3)
(LoopE [5] [(I 0)] w3 (fun h4 w4 K4 =>
 B Builtin.len #[23] 3 #[false] #[v0] w4 (fun t5 w5 =>
 D (binS BinOp.lss 3 (T 11) (T 13) (h4 5) t5) w5 (fun t6 w6 =>
 Br t6
(DrawE w6 (fun Rs7 Rb7 w7 =>
 DetOp Rb7 Rs7 w7 (fun w8 K8 => D (Instr.indexAt 23 v0 (h4 5)) w8 K8 X) (fun c19_8 ψ8 =>
 DetOp Rb7 Rs7 w7 (fun w9 K9 => D (Instr.loadAt 38 c19_8) w9 K9 X) (fun c20_9 ψ9 =>
 DetOp Rb7 Rs7 w7 (fun w10 K10 => D (Instr.indexAt 23 v1 (h4 5)) w10 K10 X) (fun c23_10 ψ10 =>
 DetOp Rb7 Rs7 w7 (fun w11 K11 => D (Instr.loadAt 38 c23_10) w11 K11 X) (fun c24_11 ψ11 =>
 ∀ w12, Rb7 w7 w12 → ((((True ∧ ψ8 w12) ∧ ψ9 w12) ∧ ψ10 w12) ∧ ψ11 w12) →
 D (binS BinOp.neq 38 (T 20) (T 24) c20_9 c24_11) w12 (fun t13 w13 =>
 Br t13
(R (.returned (V false)) w13)
(D (binS BinOp.add 3 (T 15) (Operand.const (I 1)) (h4 5) (I 1)) w13 (fun t14 w14 =>
 K4 [t14] w14) X)) X))))))
(R (.returned (V true)) w6)) X) X))) X) X) X)
theorem sh_landfallref24_SameEntries_ok (v0 v1 : Value) (h : sh_landfallref24_SameEntries v0 v1 R w) : Calls Tryz.prog 13 #[v0, v1] w R :=
  calls_of_vc (c := Tryz.f13.body.getD .skip) (args := [v0, v1]) [(6, 8, false, 0)] [5] follows_mixed Tryz.func13 rfl (of_decide_eq_true (by kernel_rfl)) (by kernel_rfl) (Eq.mp (by kernel_rfl) h)
def sh_landfallref24_Form (v0 : Value) (R : Ending → World → Prop) (w : World) : Prop := 
 letI X := Pan R
(DoV Tryz.prog (Instr.box 38 v0) w (fun t1 w1 =>
 DoV Tryz.prog (Instr.loadAt 38 t1) w1 (fun t2 w2 =>
 CallF Tryz.prog 37 #[t2] w2 (fun t3 w3 =>
 R (.returned t3) w3) X) X) X)
theorem sh_landfallref24_Form_ok (v0 : Value) (h : sh_landfallref24_Form v0 R w) : Calls Tryz.prog 14 #[v0] w R :=
  calls_of_vc (c := Tryz.f14.body.getD .skip) (args := [v0]) [] [] follows_mixed Tryz.func14 rfl (of_decide_eq_true (by kernel_rfl)) (by kernel_rfl) (Eq.mp (by kernel_rfl) h)
def sh_landfallref07_Few (v0 : Value) (R : Ending → World → Prop) (w : World) : Prop := 
 letI X := Pan R
 letI D := DoV Tryz.prog
 letI B := CallB Tryz.prog
 letI I := Value.int IntKind.i64
 letI T := Operand.tmp
 letI C := Operand.const
(LoopE [3, 4] [(I 0), (I 0)] w (fun h1 w1 K1 =>
 JoinE [] (fun K2 =>
 B Builtin.len #[22] 3 #[false] #[v0] w1 (fun t3 w3 =>
 D (binS BinOp.lss 3 (T 5) (T 7) (h1 4) t3) w3 (fun t4 w4 =>
 Gd t4 true (D (binS BinOp.lss 3 (T 10) (C (I 41)) (h1 4) (I 41)) w4 (fun t5 w5 =>
 Br t5
(K2 [] w5)
(B Builtin.len #[22] 3 #[false] #[v0] w5 (fun t6 w6 =>
 D (binS BinOp.leq 3 (T 23) (C (I 40)) t6 (I 40)) w6 (fun t7 w7 =>
 Gd t7 true (D (binS BinOp.leq 3 (T 26) (C (I 300)) (h1 3) (I 300)) w7 (fun t8 w8 =>
 R (.returned t8) w8) X)
(R (.returned (Value.bool false)) w7)) X) X)) X)
(B Builtin.len #[22] 3 #[false] #[v0] w4 (fun t9 w9 =>
 D (binS BinOp.leq 3 (T 23) (C (I 40)) t9 (I 40)) w9 (fun t10 w10 =>
 Gd t10 true (D (binS BinOp.leq 3 (T 26) (C (I 300)) (h1 3) (I 300)) w10 (fun t11 w11 =>
 R (.returned t11) w11) X)
(R (.returned (Value.bool false)) w10)) X) X)) X) X)
(fun _ w12 =>
 D (Instr.indexAt 22 v0 (h1 4)) w12 (fun t13 w13 =>
 D (Instr.loadAt 53 t13) w13 (fun t14 w14 =>
 B Builtin.len #[53] 3 #[false] #[t14] w14 (fun t15 w15 =>
 D (binS BinOp.add 3 (T 15) (T 20) (h1 3) t15) w15 (fun t16 w16 =>
 D (binS BinOp.add 3 (T 13) (C (I 1)) (h1 4) (I 1)) w16 (fun t17 w17 =>
 K1 [t16, t17] w17) X) X) X) X) X)))
theorem sh_landfallref07_Few_ok (v0 : Value) (h : sh_landfallref07_Few v0 R w) : Calls Tryz.prog 15 #[v0] w R :=
  calls_of_vc (c := Tryz.f15.body.getD .skip) (args := [v0]) [] [3, 4] follows_mixed Tryz.func15 rfl (of_decide_eq_true (by kernel_rfl)) (by kernel_rfl) (Eq.mp (by kernel_rfl) h)
def sh_vehicle_New (v0 v1 v2 : Value) (R : Ending → World → Prop) (w : World) : Prop := 
 letI X := Pan R
 letI D := DoV Tryz.prog
 letI U := DoU Tryz.prog
 letI Q := CallF Tryz.prog
 letI B := CallB Tryz.prog
 letI I := Value.int IntKind.i64
 letI T := Operand.tmp
 letI L := Instr.loadAt
 letI S := Instr.storeAt
 letI V := Value.bool
(D (Instr.alloc 28 true (.tuple #[])) w (fun t1 w1 =>
 JoinE [] (fun K2 =>
 JoinE [28] (fun K3 =>
 Q 38 #[v0] w1 (fun t4 w4 =>
 D (Op.unary UnOp.not t4) w4 (fun t5 w5 =>
 Gd t5 false (Q 38 #[v1] w5 (fun t6 w6 =>
 D (Op.unary UnOp.not t6) w6 (fun t7 w7 =>
 Gd t7 false (Q 39 #[v2] w7 (fun t8 w8 =>
 D (Op.unary UnOp.not t8) w8 (fun t9 w9 =>
 Gd t9 false (B Builtin.len #[22] 3 #[false] #[v2] w9 (fun t10 w10 =>
 D (binS BinOp.eql 3 (T 26) (Operand.const (I 0)) t10 (I 0)) w10 (fun t11 w11 =>
 K3 [t11] w11) X) X)
(K3 [(V true)] w9)) X) X)
(K3 [(V true)] w7)) X) X)
(K3 [(V true)] w5)) X) X)
(fun h12 w12 =>
 Br (h12 28)
(D (Instr.build 28 #[]) w12 (fun t13 w13 =>
 U (S 28 t1 t13) w13 (fun _ w14 =>
 Res Tryz.prog [.cell t1 28, .tmp (I 1)] w14 R) X) X)
(K2 [] w12)))
(fun _ w15 =>
 D (Instr.build 25 #[(0, v0)]) w15 (fun t16 w16 =>
 D (Instr.alloc 25 true (.tuple #[])) w16 (fun t17 w17 =>
 U (S 25 t17 t16) w17 (fun _ w18 =>
 B Builtin.len #[22] 3 #[false] #[v2] w18 (fun t19 w19 =>
 LoopE [34] [(I 0)] w19 (fun h20 w20 K20 =>
 D (binS BinOp.lss 3 (T 34) (T 33) (h20 34) t19) w20 (fun t21 w21 =>
 Br t21
(D (Instr.indexAt 22 v2 (h20 34)) w21 (fun t22 w22 =>
 D (L 53 t22) w22 (fun t23 w23 =>
 DrawR w23 (fun R24 S24 w24 =>
 DetOp R24 (Both R24 S24) w24 (fun w25 K25 => D (Instr.fieldAt 25 t17 1) w25 K25 X) (fun c38_25 ψ25 =>
 DetOp R24 (Both R24 S24) w24 (fun w26 K26 => D (L 22 c38_25) w26 K26 X) (fun c39_26 ψ26 =>
 ThrE R24 S24 0 w24 (fun Θ24_0 T24_0 =>
 NdC R24 S24 0 w24 Θ24_0 (fun w27 K27 => Q 40 #[t23] w27 K27 X) (fun v41_27 φ27 =>
 NdC R24 S24 0 w24 φ27 (fun w28 K28 => D (Instr.buildSlice 22 1 #[(0, v41_27)]) w28 K28 X) (fun v42_28 φ28 =>
 T24_0 [v41_27, v42_28] φ28))) (fun Φ24_0 =>
 ∀ (h29 : Nat → Value) (w30 : World), R24 w24 w30 → ((True ∧ ψ25 w30) ∧ ψ26 w30) ∧ (True ∧ Φ24_0 [(h29 41), (h29 42)] w30) →
 B Builtin.append #[22, 22] 22 #[false, false] #[c39_26, (h29 42)] w30 (fun t31 w31 =>
 D (Instr.fieldAt 25 t17 1) w31 (fun t32 w32 =>
 U (S 22 t32 t31) w32 (fun _ w33 =>
 D (binS BinOp.add 3 (T 34) (Operand.const (I 1)) (h20 34) (I 1)) w33 (fun t34 w34 =>
 K20 [t34] w34) X) X) X) X))))) X) X)
(D (L 25 t17) w21 (fun t35 w35 =>
 D (Instr.build 28 #[(0, v0), (1, v1), (2, t35), (5, (V true))]) w35 (fun t36 w36 =>
 U (S 28 t1 t36) w36 (fun _ w37 =>
 Res Tryz.prog [.cell t1 28, .tmp (I 0)] w37 R) X) X) X)) X)) X) X) X) X)) X)
theorem sh_vehicle_New_ok (v0 v1 v2 : Value) (h : sh_vehicle_New v0 v1 v2 R w) : Calls Tryz.prog 16 #[v0, v1, v2] w R :=
  calls_of_vc (c := Tryz.f16.body.getD .skip) (args := [v0, v1, v2]) [(7, 5, false, 5608)] [34] follows_mixed Tryz.func16 rfl (of_decide_eq_true (by kernel_rfl)) (by kernel_rfl) (Eq.mp (by kernel_rfl) h)
def sh_landfallref41_New (v0 v1 v2 : Value) (R : Ending → World → Prop) (w : World) : Prop := 
 letI X := Pan R
 letI D := DoV Tryz.prog
 letI Q := CallF Tryz.prog
 letI I := Value.int IntKind.i64
 letI V := Value.bool
(D (Instr.alloc 28 true (.tuple #[])) w (fun t1 w1 =>
 Q 41 #[v2] w1 (fun t2 w2 =>
 JoinE [] (fun K3 =>
 JoinE [27] (fun K4 =>
 Q 29 #[v0] w2 (fun t5 w5 =>
 D (Op.unary UnOp.not t5) w5 (fun t6 w6 =>
 Gd t6 false (Q 29 #[v1] w6 (fun t7 w7 =>
 D (Op.unary UnOp.not t7) w7 (fun t8 w8 =>
 Gd t8 false (D (Op.unary UnOp.not t2) w8 (fun t9 w9 =>
 Gd t9 false (CallB Tryz.prog Builtin.len #[22] 3 #[false] #[v2] w9 (fun t10 w10 =>
 D (binS BinOp.eql 3 (Operand.tmp 25) (Operand.const (I 0)) t10 (I 0)) w10 (fun t11 w11 =>
 K4 [t11] w11) X) X)
(K4 [(V true)] w9)) X)
(K4 [(V true)] w8)) X) X)
(K4 [(V true)] w6)) X) X)
(fun h12 w12 =>
 Br (h12 27)
(D (Instr.build 28 #[]) w12 (fun t13 w13 =>
 DoU Tryz.prog (Instr.storeAt 28 t1 t13) w13 (fun _ w14 =>
 Res Tryz.prog [.cell t1 28, .tmp (I 1)] w14 R) X) X)
(K3 [] w12)))
(fun _ w15 =>
 D (Instr.build 25 #[(0, v0), (1, v2)]) w15 (fun t16 w16 =>
 D (Instr.build 28 #[(0, v0), (1, v1), (2, t16), (5, (V true))]) w16 (fun t17 w17 =>
 DoU Tryz.prog (Instr.storeAt 28 t1 t17) w17 (fun _ w18 =>
 Res Tryz.prog [.cell t1 28, .tmp (I 0)] w18 R) X) X) X)) X) X)
theorem sh_landfallref41_New_ok (v0 v1 v2 : Value) (h : sh_landfallref41_New v0 v1 v2 R w) : Calls Tryz.prog 17 #[v0, v1, v2] w R :=
  calls_of_vc (c := Tryz.f17.body.getD .skip) (args := [v0, v1, v2]) [] [] follows_mixed Tryz.func17 rfl (of_decide_eq_true (by kernel_rfl)) (by kernel_rfl) (Eq.mp (by kernel_rfl) h)
def sh_vehicle_Valid (v0 : Value) (R : Ending → World → Prop) (w : World) : Prop := 
 letI X := Pan R
 letI D := DoV Tryz.prog
(D (Instr.box 28 v0) w (fun t1 w1 =>
 D (Instr.loadAt 28 t1) w1 (fun t2 w2 =>
 CallF Tryz.prog 26 #[t2] w2 (fun t3 w3 =>
 D (Instr.extract t3 0) w3 (fun t4 w4 =>
 D (Instr.extract t3 1) w4 (fun t5 w5 =>
 D (Instr.alloc 57 true (.tuple #[])) w5 (fun t6 w6 =>
 DoU Tryz.prog (Instr.storeAt 57 t6 t4) w6 (fun _ w7 =>
 R (.returned t5) w7) X) X) X) X) X) X) X)
theorem sh_vehicle_Valid_ok (v0 : Value) (h : sh_vehicle_Valid v0 R w) : Calls Tryz.prog 18 #[v0] w R :=
  calls_of_vc (c := Tryz.f18.body.getD .skip) (args := [v0]) [] [] follows_mixed Tryz.func18 rfl (of_decide_eq_true (by kernel_rfl)) (by kernel_rfl) (Eq.mp (by kernel_rfl) h)
def sh_landfallref41_Same (v0 v1 : Value) (R : Ending → World → Prop) (w : World) : Prop := 
 letI X := Pan R
 letI D := DoV Tryz.prog
 letI T := Operand.tmp
 letI L := Instr.loadAt
 letI F := Instr.fieldAt
 letI V := Value.bool
 letI J := BinOp.eql
(D (Instr.box 28 v0) w (fun t1 w1 =>
 D (Instr.box 28 v1) w1 (fun t2 w2 =>
 D (F 28 t1 2) w2 (fun t3 w3 =>
 D (L 25 t3) w3 (fun t4 w4 =>
 D (F 28 t2 2) w4 (fun t5 w5 =>
 D (L 25 t5) w5 (fun t6 w6 =>
 CallF Tryz.prog 42 #[t4, t6] w6 (fun t7 w7 =>
 Gd t7 true (D (F 28 t1 0) w7 (fun t8 w8 =>
 D (L 3 t8) w8 (fun t9 w9 =>
 D (F 28 t2 0) w9 (fun t10 w10 =>
 D (L 3 t10) w10 (fun t11 w11 =>
 D (binS J 3 (T 14) (T 16) t9 t11) w11 (fun t12 w12 =>
 Gd t12 true (D (F 28 t1 1) w12 (fun t13 w13 =>
 D (L 3 t13) w13 (fun t14 w14 =>
 D (F 28 t2 1) w14 (fun t15 w15 =>
 D (L 3 t15) w15 (fun t16 w16 =>
 D (binS J 3 (T 21) (T 23) t14 t16) w16 (fun t17 w17 =>
 Gd t17 true (D (F 28 t1 3) w17 (fun t18 w18 =>
 D (L 26 t18) w18 (fun t19 w19 =>
 D (convert 26 9 t19) w19 (fun t20 w20 =>
 D (F 28 t2 3) w20 (fun t21 w21 =>
 D (L 26 t21) w21 (fun t22 w22 =>
 D (convert 26 9 t22) w22 (fun t23 w23 =>
 D (binS J 9 (T 29) (T 32) t20 t23) w23 (fun t24 w24 =>
 Gd t24 true (D (F 28 t1 4) w24 (fun t25 w25 =>
 D (L 3 t25) w25 (fun t26 w26 =>
 D (F 28 t2 4) w26 (fun t27 w27 =>
 D (L 3 t27) w27 (fun t28 w28 =>
 D (binS J 3 (T 37) (T 39) t26 t28) w28 (fun t29 w29 =>
 Gd t29 true (D (F 28 t1 5) w29 (fun t30 w30 =>
 D (L 4 t30) w30 (fun t31 w31 =>
 D (F 28 t2 5) w31 (fun t32 w32 =>
 D (L 4 t32) w32 (fun t33 w33 =>
 D (binS J 4 (T 44) (T 46) t31 t33) w33 (fun t34 w34 =>
 Gd t34 true (D (F 28 t1 6) w34 (fun t35 w35 =>
 D (L 3 t35) w35 (fun t36 w36 =>
 D (F 28 t2 6) w36 (fun t37 w37 =>
 D (L 3 t37) w37 (fun t38 w38 =>
 D (binS J 3 (T 51) (T 53) t36 t38) w38 (fun t39 w39 =>
 Gd t39 true (D (F 28 t1 7) w39 (fun t40 w40 =>
 D (L 3 t40) w40 (fun t41 w41 =>
 D (F 28 t2 7) w41 (fun t42 w42 =>
 D (L 3 t42) w42 (fun t43 w43 =>
 D (binS J 3 (T 58) (T 60) t41 t43) w43 (fun t44 w44 =>
 R (.returned t44) w44) X) X) X) X) X)
(R (.returned (V false)) w39)) X) X) X) X) X)
(R (.returned (V false)) w34)) X) X) X) X) X)
(R (.returned (V false)) w29)) X) X) X) X) X)
(R (.returned (V false)) w24)) X) X) X) X) X) X) X)
(R (.returned (V false)) w17)) X) X) X) X) X)
(R (.returned (V false)) w12)) X) X) X) X) X)
(R (.returned (V false)) w7)) X) X) X) X) X) X) X)
theorem sh_landfallref41_Same_ok (v0 v1 : Value) (h : sh_landfallref41_Same v0 v1 R w) : Calls Tryz.prog 19 #[v0, v1] w R :=
  calls_of_vc (c := Tryz.f19.body.getD .skip) (args := [v0, v1]) [] [] follows_mixed Tryz.func19 rfl (of_decide_eq_true (by kernel_rfl)) (by kernel_rfl) (Eq.mp (by kernel_rfl) h)
def sh_landfallref41_Write (v0 v1 : Value) (R : Ending → World → Prop) (w : World) : Prop := 
 letI X := Pan R
 letI D := DoV Tryz.prog
 letI U := DoU Tryz.prog
 letI Q := CallF Tryz.prog
 letI B := CallB Tryz.prog
 letI I := Value.int IntKind.i64
 letI T := Operand.tmp
 letI C := Operand.const
 letI L := Instr.loadAt
 letI F := Instr.fieldAt
 letI S := Instr.storeAt
 letI V := Value.bool
(D (Instr.box 28 v0) w (fun t1 w1 =>
 D (Instr.box 38 v1) w1 (fun t2 w2 =>
 D (Instr.alloc 28 true (.tuple #[])) w2 (fun t3 w3 =>
 D (L 28 t1) w3 (fun t4 w4 =>
 Q 9 #[t4] w4 (fun t5 w5 =>
 D (L 38 t2) w5 (fun t6 w6 =>
 Q 14 #[t6] w6 (fun t7 w7 =>
 JoinE [] (fun K8 =>
 JoinE [21] (fun K9 =>
 D (Op.unary UnOp.not t5) w7 (fun t10 w10 =>
 Gd t10 false (D (Op.unary UnOp.not t7) w10 (fun t11 w11 =>
 K9 [t11] w11) X)
(K9 [(V true)] w10)) X)
(fun h12 w12 =>
 Br (h12 21)
(D (Instr.build 28 #[]) w12 (fun t13 w13 =>
 U (S 28 t3 t13) w13 (fun _ w14 =>
 Res Tryz.prog [.cell t3 28, .tmp (I 1)] w14 R) X) X)
(K8 [] w12)))
(fun _ w15 =>
 D (F 28 t1 5) w15 (fun t16 w16 =>
 D (L 4 t16) w16 (fun t17 w17 =>
 D (Op.unary UnOp.not t17) w17 (fun t18 w18 =>
 Br t18
(D (Instr.build 28 #[]) w18 (fun t19 w19 =>
 U (S 28 t3 t19) w19 (fun _ w20 =>
 Res Tryz.prog [.cell t3 28, .tmp (I 6)] w20 R) X) X)
(D (F 28 t1 2) w18 (fun t21 w21 =>
 D (F 25 t21 2) w21 (fun t22 w22 =>
 D (L 23 t22) w22 (fun t23 w23 =>
 B Builtin.len #[23] 3 #[false] #[t23] w23 (fun t24 w24 =>
 JoinE [] (fun K25 =>
 JoinE [52] (fun K26 =>
 DrawE w24 (fun Rs27 Rb27 w27 =>
 DetOp Rb27 Rs27 w27 (fun w28 K28 => D (F 38 t2 0) w28 K28 X) (fun c31_28 ψ28 =>
 DetOp Rb27 Rs27 w27 (fun w29 K29 => D (L 3 c31_28) w29 K29 X) (fun c32_29 ψ29 =>
 DetOp Rb27 Rs27 w27 (fun w30 K30 => D (binS BinOp.add 3 (T 33) (C (I 1)) t24 (I 1)) w30 K30 X) (fun c34_30 ψ30 =>
 DetOp Rb27 Rs27 w27 (fun w31 K31 => D (binS BinOp.neq 3 (T 32) (T 34) c32_29 c34_30) w31 K31 X) (fun c35_31 ψ31 =>
 Gd c35_31 false (DetOp Rb27 Rs27 w27 (fun w32 K32 => D (binS BinOp.gtr 3 (T 37) (C (I 0)) t24 (I 0)) w32 K32 X) (fun c38_32 ψ32 =>
 Gd c38_32 true (DetOp Rb27 Rs27 w27 (fun w33 K33 => D (F 38 t2 1) w33 K33 X) (fun c40_33 ψ33 =>
 DetOp Rb27 Rs27 w27 (fun w34 K34 => D (L 3 c40_33) w34 K34 X) (fun c41_34 ψ34 =>
 DetOp Rb27 Rs27 w27 (fun w35 K35 => D (F 28 t1 2) w35 K35 X) (fun c42_35 ψ35 =>
 DetOp Rb27 Rs27 w27 (fun w36 K36 => D (F 25 c42_35 2) w36 K36 X) (fun c43_36 ψ36 =>
 DetOp Rb27 Rs27 w27 (fun w37 K37 => D (L 23 c43_36) w37 K37 X) (fun c44_37 ψ37 =>
 DetOp Rb27 Rs27 w27 (fun w38 K38 => D (binS BinOp.sub 3 (T 45) (C (I 1)) t24 (I 1)) w38 K38 X) (fun c46_38 ψ38 =>
 DetOp Rb27 Rs27 w27 (fun w39 K39 => D (Instr.indexAt 23 c44_37 c46_38) w39 K39 X) (fun c47_39 ψ39 =>
 DetOp Rb27 Rs27 w27 (fun w40 K40 => D (F 38 c47_39 1) w40 K40 X) (fun c48_40 ψ40 =>
 DetOp Rb27 Rs27 w27 (fun w41 K41 => D (L 3 c48_40) w41 K41 X) (fun c49_41 ψ41 =>
 ∀ w42, Rb27 w27 w42 → ((((((((((((((True ∧ ψ28 w42) ∧ ψ29 w42) ∧ ψ30 w42) ∧ ψ31 w42) ∧ ψ32 w42) ∧ ψ33 w42) ∧ ψ34 w42) ∧ ψ35 w42) ∧ ψ36 w42) ∧ ψ37 w42) ∧ ψ38 w42) ∧ ψ39 w42) ∧ ψ40 w42) ∧ ψ41 w42) →
 D (binS BinOp.lss 3 (T 41) (T 49) c41_34 c49_41) w42 (fun t43 w43 =>
 K26 [t43] w43) X))))))))))
(∀ w44, Rb27 w27 w44 → (((((True ∧ ψ28 w44) ∧ ψ29 w44) ∧ ψ30 w44) ∧ ψ31 w44) ∧ ψ32 w44) →
 K26 [(V false)] w44)))
(∀ w45, Rb27 w27 w45 → ((((True ∧ ψ28 w45) ∧ ψ29 w45) ∧ ψ30 w45) ∧ ψ31 w45) →
 K26 [(V true)] w45)))))))
(fun h46 w46 =>
 Br (h46 52)
(D (Instr.build 28 #[]) w46 (fun t47 w47 =>
 U (S 28 t3 t47) w47 (fun _ w48 =>
 Res Tryz.prog [.cell t3 28, .tmp (I 7)] w48 R) X) X)
(K25 [] w46)))
(fun _ w49 =>
 D (F 28 t1 3) w49 (fun t50 w50 =>
 D (L 26 t50) w50 (fun t51 w51 =>
 D (L 38 t2) w51 (fun t52 w52 =>
 D (Instr.build 64 #[(0, (I 1)), (1, t52)]) w52 (fun t53 w53 =>
 Q 43 #[t51, t53] w53 (fun t54 w54 =>
 D (Instr.extract t54 0) w54 (fun t55 w55 =>
 D (Instr.extract t54 1) w55 (fun t56 w56 =>
 D (binS BinOp.neq 32 (T 62) (C (I 0)) t56 (I 0)) w56 (fun t57 w57 =>
 Br t57
(D (Instr.build 28 #[]) w57 (fun t58 w58 =>
 U (S 28 t3 t58) w58 (fun _ w59 =>
 Res Tryz.prog [.cell t3 28, .tmp t56] w59 R) X) X)
(D (F 28 t1 2) w57 (fun t60 w60 =>
 D (F 25 t60 2) w60 (fun t61 w61 =>
 D (L 23 t61) w61 (fun t62 w62 =>
 B Builtin.append #[23, 23] 23 #[false, false] #[(Value.slice none 0 0), t62] w62 (fun t63 w63 =>
 D (L 38 t2) w63 (fun t64 w64 =>
 D (Instr.buildSlice 23 1 #[(0, t64)]) w64 (fun t65 w65 =>
 B Builtin.append #[23, 23] 23 #[false, false] #[t63, t65] w65 (fun t66 w66 =>
 D (F 28 t1 2) w66 (fun t67 w67 =>
 D (F 25 t67 2) w67 (fun t68 w68 =>
 U (S 23 t68 t66) w68 (fun _ w69 =>
 D (F 28 t1 3) w69 (fun t70 w70 =>
 U (S 26 t70 t55) w70 (fun _ w71 =>
 D (L 28 t1) w71 (fun t72 w72 =>
 U (S 28 t3 t72) w72 (fun _ w73 =>
 Res Tryz.prog [.cell t3 28, .tmp (I 0)] w73 R) X) X) X) X) X) X) X) X) X) X) X) X) X) X)) X) X) X) X) X) X) X) X)) X) X) X) X)) X) X) X)) X) X) X) X) X) X) X)
theorem sh_landfallref41_Write_ok (v0 v1 : Value) (h : sh_landfallref41_Write v0 v1 R w) : Calls Tryz.prog 20 #[v0, v1] w R :=
  calls_of_vc (c := Tryz.f20.body.getD .skip) (args := [v0, v1]) [(8, 19, false, 0)] [] follows_mixed Tryz.func20 rfl (of_decide_eq_true (by kernel_rfl)) (by kernel_rfl) (Eq.mp (by kernel_rfl) h)
def sh_landfallref41_Mark (v0 : Value) (R : Ending → World → Prop) (w : World) : Prop := 
 letI X := Pan R
 letI D := DoV Tryz.prog
 letI U := DoU Tryz.prog
 letI Q := CallF Tryz.prog
 letI B := CallB Tryz.prog
 letI I := Value.int IntKind.i64
 letI L := Instr.loadAt
 letI F := Instr.fieldAt
 letI S := Instr.storeAt
(D (Instr.box 28 v0) w (fun t1 w1 =>
 D (Instr.alloc 28 true (.tuple #[])) w1 (fun t2 w2 =>
 D (L 28 t1) w2 (fun t3 w3 =>
 Q 9 #[t3] w3 (fun t4 w4 =>
 D (Op.unary UnOp.not t4) w4 (fun t5 w5 =>
 Br t5
(D (Instr.build 28 #[]) w5 (fun t6 w6 =>
 U (S 28 t2 t6) w6 (fun _ w7 =>
 Res Tryz.prog [.cell t2 28, .tmp (I 1)] w7 R) X) X)
(D (F 28 t1 5) w5 (fun t8 w8 =>
 D (L 4 t8) w8 (fun t9 w9 =>
 D (Op.unary UnOp.not t9) w9 (fun t10 w10 =>
 Br t10
(D (Instr.build 28 #[]) w10 (fun t11 w11 =>
 U (S 28 t2 t11) w11 (fun _ w12 =>
 Res Tryz.prog [.cell t2 28, .tmp (I 6)] w12 R) X) X)
(DrawE w10 (fun Rs13 Rb13 w13 =>
 DetOp Rb13 Rs13 w13 (fun w14 K14 => D (F 28 t1 0) w14 K14 X) (fun c17_14 ψ14 =>
 DetOp Rb13 Rs13 w13 (fun w15 K15 => D (L 3 c17_14) w15 K15 X) (fun c18_15 ψ15 =>
 DetOp Rs13 Rb13 w13 (fun w16 K16 => Q 45 #[c18_15] w16 K16 X) (fun c19_16 ψ16 =>
 DetOp Rb13 Rs13 w13 (fun w17 K17 => D (F 28 t1 2) w17 K17 X) (fun c20_17 ψ17 =>
 DetOp Rb13 Rs13 w13 (fun w18 K18 => D (F 25 c20_17 2) w18 K18 X) (fun c21_18 ψ18 =>
 DetOp Rb13 Rs13 w13 (fun w19 K19 => D (L 23 c21_18) w19 K19 X) (fun c22_19 ψ19 =>
 ∀ w20, Rb13 w13 w20 → ((((((True ∧ ψ14 w20) ∧ ψ15 w20) ∧ ψ16 w20) ∧ ψ17 w20) ∧ ψ18 w20) ∧ ψ19 w20) →
 Q 44 #[c19_16, c22_19] w20 (fun t21 w21 =>
 D (F 28 t1 3) w21 (fun t22 w22 =>
 D (L 26 t22) w22 (fun t23 w23 =>
 D (F 28 t1 2) w23 (fun t24 w24 =>
 D (F 25 t24 2) w24 (fun t25 w25 =>
 D (L 23 t25) w25 (fun t26 w26 =>
 B Builtin.len #[23] 3 #[false] #[t26] w26 (fun t27 w27 =>
 D (Instr.build 64 #[(0, (I 2)), (2, t27), (3, t21)]) w27 (fun t28 w28 =>
 Q 43 #[t23, t28] w28 (fun t29 w29 =>
 D (Instr.extract t29 0) w29 (fun t30 w30 =>
 D (Instr.extract t29 1) w30 (fun t31 w31 =>
 D (binS BinOp.neq 32 (Operand.tmp 36) (Operand.const (I 0)) t31 (I 0)) w31 (fun t32 w32 =>
 Br t32
(D (Instr.build 28 #[]) w32 (fun t33 w33 =>
 U (S 28 t2 t33) w33 (fun _ w34 =>
 Res Tryz.prog [.cell t2 28, .tmp t31] w34 R) X) X)
(D (F 28 t1 3) w32 (fun t35 w35 =>
 U (S 26 t35 t30) w35 (fun _ w36 =>
 B Builtin.len #[26] 3 #[false] #[t30] w36 (fun t37 w37 =>
 D (F 28 t1 4) w37 (fun t38 w38 =>
 U (S 3 t38 t37) w38 (fun _ w39 =>
 D (L 28 t1) w39 (fun t40 w40 =>
 U (S 28 t2 t40) w40 (fun _ w41 =>
 Res Tryz.prog [.cell t2 28, .tmp (I 0)] w41 R) X) X) X) X) X) X) X)) X) X) X) X) X) X) X) X) X) X) X) X))))))))) X) X) X)) X) X) X) X) X)
theorem sh_landfallref41_Mark_ok (v0 : Value) (h : sh_landfallref41_Mark v0 R w) : Calls Tryz.prog 21 #[v0] w R :=
  calls_of_vc (c := Tryz.f21.body.getD .skip) (args := [v0]) [(6, 6, false, 3)] [] follows_mixed Tryz.func21 rfl (of_decide_eq_true (by kernel_rfl)) (by kernel_rfl) (Eq.mp (by kernel_rfl) h)
def sh_landfallref41_Crash (v0 v1 : Value) (R : Ending → World → Prop) (w : World) : Prop := 
 letI X := Pan R
 letI D := DoV Tryz.prog
 letI U := DoU Tryz.prog
 letI B := CallB Tryz.prog
 letI I := Value.int IntKind.i64
 letI T := Operand.tmp
 letI L := Instr.loadAt
 letI F := Instr.fieldAt
 letI S := Instr.storeAt
(D (Instr.box 28 v0) w (fun t1 w1 =>
 D (Instr.alloc 28 true (.tuple #[])) w1 (fun t2 w2 =>
 D (L 28 t1) w2 (fun t3 w3 =>
 CallF Tryz.prog 9 #[t3] w3 (fun t4 w4 =>
 D (Op.unary UnOp.not t4) w4 (fun t5 w5 =>
 Br t5
(D (Instr.build 28 #[]) w5 (fun t6 w6 =>
 U (S 28 t2 t6) w6 (fun _ w7 =>
 Res Tryz.prog [.cell t2 28, .tmp (I 1)] w7 R) X) X)
(D (F 28 t1 5) w5 (fun t8 w8 =>
 D (L 4 t8) w8 (fun t9 w9 =>
 D (Op.unary UnOp.not t9) w9 (fun t10 w10 =>
 Br t10
(D (Instr.build 28 #[]) w10 (fun t11 w11 =>
 U (S 28 t2 t11) w11 (fun _ w12 =>
 Res Tryz.prog [.cell t2 28, .tmp (I 6)] w12 R) X) X)
(JoinE [] (fun K13 =>
 JoinE [26] (fun K14 =>
 D (F 28 t1 4) w10 (fun t15 w15 =>
 D (L 3 t15) w15 (fun t16 w16 =>
 D (binS BinOp.lss 3 (T 16) (T 18) v1 t16) w16 (fun t17 w17 =>
 Gd t17 false (D (F 28 t1 3) w17 (fun t18 w18 =>
 D (L 26 t18) w18 (fun t19 w19 =>
 B Builtin.len #[26] 3 #[false] #[t19] w19 (fun t20 w20 =>
 D (binS BinOp.gtr 3 (T 21) (T 24) v1 t20) w20 (fun t21 w21 =>
 K14 [t21] w21) X) X) X) X)
(K14 [(Value.bool true)] w17)) X) X) X)
(fun h22 w22 =>
 Br (h22 26)
(D (Instr.build 28 #[]) w22 (fun t23 w23 =>
 U (S 28 t2 t23) w23 (fun _ w24 =>
 Res Tryz.prog [.cell t2 28, .tmp (I 1)] w24 R) X) X)
(K13 [] w22)))
(fun _ w25 =>
 D (Instr.buildSlice 26 0 #[]) w25 (fun t26 w26 =>
 D (F 28 t1 3) w26 (fun t27 w27 =>
 D (L 26 t27) w27 (fun t28 w28 =>
 D (Instr.sliceAt 26 t28 none (some v1) none) w28 (fun t29 w29 =>
 B Builtin.append #[26, 26] 26 #[false, false] #[t26, t29] w29 (fun t30 w30 =>
 D (F 28 t1 3) w30 (fun t31 w31 =>
 U (S 26 t31 t30) w31 (fun _ w32 =>
 D (F 28 t1 2) w32 (fun t33 w33 =>
 D (F 25 t33 2) w33 (fun t34 w34 =>
 U (S 23 t34 (Value.slice none 0 0)) w34 (fun _ w35 =>
 D (F 28 t1 5) w35 (fun t36 w36 =>
 U (S 4 t36 (Value.bool false)) w36 (fun _ w37 =>
 D (L 28 t1) w37 (fun t38 w38 =>
 U (S 28 t2 t38) w38 (fun _ w39 =>
 Res Tryz.prog [.cell t2 28, .tmp (I 0)] w39 R) X) X) X) X) X) X) X) X) X) X) X) X) X) X))) X) X) X)) X) X) X) X) X)
theorem sh_landfallref41_Crash_ok (v0 v1 : Value) (h : sh_landfallref41_Crash v0 v1 R w) : Calls Tryz.prog 22 #[v0, v1] w R :=
  calls_of_vc (c := Tryz.f22.body.getD .skip) (args := [v0, v1]) [] [] follows_mixed Tryz.func22 rfl (of_decide_eq_true (by kernel_rfl)) (by kernel_rfl) (Eq.mp (by kernel_rfl) h)
def sh_landfallref41_Wake (v0 : Value) (R : Ending → World → Prop) (w : World) : Prop := 
 letI X := Pan R
 letI D := DoV Tryz.prog
 letI U := DoU Tryz.prog
 letI Q := CallF Tryz.prog
 letI I := Value.int IntKind.i64
 letI L := Instr.loadAt
 letI F := Instr.fieldAt
 letI S := Instr.storeAt
 letI E := Instr.extract
(D (Instr.box 28 v0) w (fun t1 w1 =>
 D (Instr.alloc 28 true (.tuple #[])) w1 (fun t2 w2 =>
 D (L 28 t1) w2 (fun t3 w3 =>
 Q 9 #[t3] w3 (fun t4 w4 =>
 D (Op.unary UnOp.not t4) w4 (fun t5 w5 =>
 Br t5
(D (Instr.build 28 #[]) w5 (fun t6 w6 =>
 U (S 28 t2 t6) w6 (fun _ w7 =>
 Res Tryz.prog [.cell t2 28, .tmp (I 1)] w7 R) X) X)
(D (F 28 t1 5) w5 (fun t8 w8 =>
 D (L 4 t8) w8 (fun t9 w9 =>
 Br t9
(D (Instr.build 28 #[]) w9 (fun t10 w10 =>
 U (S 28 t2 t10) w10 (fun _ w11 =>
 Res Tryz.prog [.cell t2 28, .tmp (I 6)] w11 R) X) X)
(D (F 28 t1 3) w9 (fun t12 w12 =>
 D (L 26 t12) w12 (fun t13 w13 =>
 D (F 28 t1 0) w13 (fun t14 w14 =>
 D (L 3 t14) w14 (fun t15 w15 =>
 Q 31 #[t13, t15] w15 (fun t16 w16 =>
 D (E t16 0) w16 (fun t17 w17 =>
 D (E t16 1) w17 (fun t18 w18 =>
 D (E t16 2) w18 (fun _ w19 =>
 D (Instr.buildSlice 26 0 #[]) w19 (fun t20 w20 =>
 D (F 28 t1 3) w20 (fun t21 w21 =>
 D (L 26 t21) w21 (fun t22 w22 =>
 D (Instr.sliceAt 26 t22 none (some t18) none) w22 (fun t23 w23 =>
 CallB Tryz.prog Builtin.append #[26, 26] 26 #[false, false] #[t20, t23] w23 (fun t24 w24 =>
 D (F 28 t1 3) w24 (fun t25 w25 =>
 U (S 26 t25 t24) w25 (fun _ w26 =>
 D (F 28 t1 4) w26 (fun t27 w27 =>
 U (S 3 t27 t18) w27 (fun _ w28 =>
 D (F 28 t1 2) w28 (fun t29 w29 =>
 D (F 25 t29 2) w29 (fun t30 w30 =>
 U (S 23 t30 t17) w30 (fun _ w31 =>
 D (F 28 t1 5) w31 (fun t32 w32 =>
 U (S 4 t32 (Value.bool true)) w32 (fun _ w33 =>
 D (L 28 t1) w33 (fun t34 w34 =>
 U (S 28 t2 t34) w34 (fun _ w35 =>
 Res Tryz.prog [.cell t2 28, .tmp (I 0)] w35 R) X) X) X) X) X) X) X) X) X) X) X) X) X) X) X) X) X) X) X) X) X) X) X) X)) X) X)) X) X) X) X) X)
theorem sh_landfallref41_Wake_ok (v0 : Value) (h : sh_landfallref41_Wake v0 R w) : Calls Tryz.prog 23 #[v0] w R :=
  calls_of_vc (c := Tryz.f23.body.getD .skip) (args := [v0]) [] [] follows_mixed Tryz.func23 rfl (of_decide_eq_true (by kernel_rfl)) (by kernel_rfl) (Eq.mp (by kernel_rfl) h)
def sh_landfalllaw41_entry (v0 : Value) (R : Ending → World → Prop) (w : World) : Prop := 
 letI X := Pan R
 letI D := DoV Tryz.prog
 letI I := Value.int IntKind.i64
(D (Instr.alloc 38 true (.tuple #[])) w (fun t1 w1 =>
 D (binS BinOp.mul 3 (Operand.const (I 10)) (Operand.tmp 4) (I 10) v0) w1 (fun t2 w2 =>
 D (Instr.build 36 #[(0, (I 5)), (1, (I 50))]) w2 (fun t3 w3 =>
 D (Instr.build 38 #[(0, v0), (1, t2), (2, (I 3)), (3, (I 1)), (4, (I 7)), (7, t3)]) w3 (fun t4 w4 =>
 DoU Tryz.prog (Instr.storeAt 38 t1 t4) w4 (fun _ w5 =>
 Res Tryz.prog [.cell t1 38] w5 R) X) X) X) X) X)
theorem sh_landfalllaw41_entry_ok (v0 : Value) (h : sh_landfalllaw41_entry v0 R w) : Calls Tryz.prog 24 #[v0] w R :=
  calls_of_vc (c := Tryz.f24.body.getD .skip) (args := [v0]) [] [] follows_mixed Tryz.func24 rfl (of_decide_eq_true (by kernel_rfl)) (by kernel_rfl) (Eq.mp (by kernel_rfl) h)
def sh_landfallref24_Few (v0 : Value) (R : Ending → World → Prop) (w : World) : Prop := 
 letI X := Pan R
 letI D := DoV Tryz.prog
 letI I := Value.int IntKind.i64
(D (Instr.box 25 v0) w (fun t1 w1 =>
 D (Instr.fieldAt 25 t1 1) w1 (fun t2 w2 =>
 D (Instr.loadAt 22 t2) w2 (fun t3 w3 =>
 CallF Tryz.prog 15 #[t3] w3 (fun t4 w4 =>
 Gd t4 true (D (Instr.fieldAt 25 t1 2) w4 (fun t5 w5 =>
 D (Instr.loadAt 23 t5) w5 (fun t6 w6 =>
 CallB Tryz.prog Builtin.len #[23] 3 #[false] #[t6] w6 (fun t7 w7 =>
 D (binS BinOp.leq 3 (Operand.tmp 9) (Operand.const (I 40)) t7 (I 40)) w7 (fun t8 w8 =>
 R (.returned t8) w8) X) X) X) X)
(R (.returned (Value.bool false)) w4)) X) X) X) X)
theorem sh_landfallref24_Few_ok (v0 : Value) (h : sh_landfallref24_Few v0 R w) : Calls Tryz.prog 25 #[v0] w R :=
  calls_of_vc (c := Tryz.f25.body.getD .skip) (args := [v0]) [] [] follows_mixed Tryz.func25 rfl (of_decide_eq_true (by kernel_rfl)) (by kernel_rfl) (Eq.mp (by kernel_rfl) h)
def sh_vehicle_load (v0 : Value) (R : Ending → World → Prop) (w : World) : Prop := 
 letI X := Pan R
 letI D := DoV Tryz.prog
 letI U := DoU Tryz.prog
 letI Q := CallF Tryz.prog
 letI B := CallB Tryz.prog
 letI I := Value.int IntKind.i64
 letI T := Operand.tmp
 letI C := Operand.const
 letI L := Instr.loadAt
 letI F := Instr.fieldAt
 letI S := Instr.storeAt
 letI V := Value.bool
(D (Instr.box 28 v0) w (fun t1 w1 =>
 D (Instr.alloc 57 true (.tuple #[])) w1 (fun t2 w2 =>
 D (L 28 t1) w2 (fun t3 w3 =>
 D (Instr.build 57 #[(0, t3)]) w3 (fun t4 w4 =>
 D (Instr.alloc 57 true (.tuple #[])) w4 (fun t5 w5 =>
 U (S 57 t5 t4) w5 (fun _ w6 =>
 JoinE [] (fun K7 =>
 JoinE [52] (fun K8 =>
 D (F 57 t5 0) w6 (fun t9 w9 =>
 D (F 28 t9 0) w9 (fun t10 w10 =>
 D (L 3 t10) w10 (fun t11 w11 =>
 Q 38 #[t11] w11 (fun t12 w12 =>
 D (Op.unary UnOp.not t12) w12 (fun t13 w13 =>
 Gd t13 false (D (F 57 t5 0) w13 (fun t14 w14 =>
 D (F 28 t14 1) w14 (fun t15 w15 =>
 D (L 3 t15) w15 (fun t16 w16 =>
 Q 38 #[t16] w16 (fun t17 w17 =>
 D (Op.unary UnOp.not t17) w17 (fun t18 w18 =>
 Gd t18 false (D (F 57 t5 0) w18 (fun t19 w19 =>
 D (F 28 t19 2) w19 (fun t20 w20 =>
 D (F 25 t20 0) w20 (fun t21 w21 =>
 D (L 3 t21) w21 (fun t22 w22 =>
 D (F 57 t5 0) w22 (fun t23 w23 =>
 D (F 28 t23 0) w23 (fun t24 w24 =>
 D (L 3 t24) w24 (fun t25 w25 =>
 D (binS BinOp.neq 3 (T 23) (T 26) t22 t25) w25 (fun t26 w26 =>
 Gd t26 false (D (F 57 t5 0) w26 (fun t27 w27 =>
 D (F 28 t27 6) w27 (fun t28 w28 =>
 D (L 3 t28) w28 (fun t29 w29 =>
 D (binS BinOp.lss 3 (T 32) (C (I 0)) t29 (I 0)) w29 (fun t30 w30 =>
 Gd t30 false (D (F 57 t5 0) w30 (fun t31 w31 =>
 D (F 28 t31 6) w31 (fun t32 w32 =>
 D (L 3 t32) w32 (fun t33 w33 =>
 D (binS BinOp.gtr 3 (T 38) (C (I 1000000000)) t33 (I 1000000000)) w33 (fun t34 w34 =>
 Gd t34 false (D (F 57 t5 0) w34 (fun t35 w35 =>
 D (F 28 t35 7) w35 (fun t36 w36 =>
 D (L 3 t36) w36 (fun t37 w37 =>
 D (binS BinOp.neq 3 (T 44) (C (I 0)) t37 (I 0)) w37 (fun t38 w38 =>
 Gd t38 true (D (F 57 t5 0) w38 (fun t39 w39 =>
 D (F 28 t39 7) w39 (fun t40 w40 =>
 D (L 3 t40) w40 (fun t41 w41 =>
 D (binS BinOp.neq 3 (T 49) (C (I 1)) t41 (I 1)) w41 (fun t42 w42 =>
 K8 [t42] w42) X) X) X) X)
(K8 [(V false)] w38)) X) X) X) X)
(K8 [(V true)] w34)) X) X) X) X)
(K8 [(V true)] w30)) X) X) X) X)
(K8 [(V true)] w26)) X) X) X) X) X) X) X) X)
(K8 [(V true)] w18)) X) X) X) X) X)
(K8 [(V true)] w13)) X) X) X) X) X)
(fun h43 w43 =>
 Br (h43 52)
(D (L 57 t5) w43 (fun t44 w44 =>
 U (S 57 t2 t44) w44 (fun _ w45 =>
 Res Tryz.prog [.cell t2 57, .tmp (V false)] w45 R) X) X)
(K7 [] w43)))
(fun _ w46 =>
 JoinE [] (fun K47 =>
 JoinE [67] (fun K48 =>
 D (F 57 t5 0) w46 (fun t49 w49 =>
 D (F 28 t49 2) w49 (fun t50 w50 =>
 D (L 25 t50) w50 (fun t51 w51 =>
 Q 46 #[t51] w51 (fun t52 w52 =>
 D (Op.unary UnOp.not t52) w52 (fun t53 w53 =>
 Gd t53 false (Q 47 #[t5] w53 (fun t54 w54 =>
 D (Op.unary UnOp.not t54) w54 (fun t55 w55 =>
 Gd t55 false (D (F 57 t5 3) w55 (fun t56 w56 =>
 D (L 4 t56) w56 (fun t57 w57 =>
 D (Op.unary UnOp.not t57) w57 (fun t58 w58 =>
 K48 [t58] w58) X) X) X)
(K48 [(V true)] w55)) X) X)
(K48 [(V true)] w53)) X) X) X) X) X)
(fun h59 w59 =>
 Br (h59 67)
(D (L 57 t5) w59 (fun t60 w60 =>
 U (S 57 t2 t60) w60 (fun _ w61 =>
 Res Tryz.prog [.cell t2 57, .tmp (V false)] w61 R) X) X)
(K47 [] w59)))
(fun _ w62 =>
 D (F 57 t5 0) w62 (fun t63 w63 =>
 D (F 28 t63 5) w63 (fun t64 w64 =>
 D (L 4 t64) w64 (fun t65 w65 =>
 D (Op.unary UnOp.not t65) w65 (fun t66 w66 =>
 Br t66
(DrawE w66 (fun Rs67 Rb67 w67 =>
 DetOp Rb67 Rs67 w67 (fun w68 K68 => D (L 57 t5) w68 K68 X) (fun c73_68 ψ68 =>
 DetOp Rb67 Rs67 w67 (fun w69 K69 => D (F 57 t5 0) w69 K69 X) (fun c74_69 ψ69 =>
 DetOp Rb67 Rs67 w67 (fun w70 K70 => D (F 28 c74_69 2) w70 K70 X) (fun c75_70 ψ70 =>
 DetOp Rb67 Rs67 w67 (fun w71 K71 => D (F 25 c75_70 2) w71 K71 X) (fun c76_71 ψ71 =>
 DetOp Rb67 Rs67 w67 (fun w72 K72 => D (L 23 c76_71) w72 K72 X) (fun c77_72 ψ72 =>
 DetOp Rb67 Rs67 w67 (fun w73 K73 => B Builtin.len #[23] 3 #[false] #[c77_72] w73 K73 X) (fun c78_73 ψ73 =>
 DetOp Rb67 Rs67 w67 (fun w74 K74 => D (binS BinOp.eql 3 (T 78) (C (I 0)) c78_73 (I 0)) w74 K74 X) (fun c79_74 ψ74 =>
 DetOp Rb67 Rs67 w67 (fun w75 K75 => U (S 57 t2 c73_68) w75 K75 X) (fun c_75 ψ75 =>
 ∀ w76, Rb67 w67 w76 → ((((((((True ∧ ψ68 w76) ∧ ψ69 w76) ∧ ψ70 w76) ∧ ψ71 w76) ∧ ψ72 w76) ∧ ψ73 w76) ∧ ψ74 w76) ∧ ψ75 w76) →
 Res Tryz.prog [.cell t2 57, .tmp c79_74] w76 R))))))))))
(DrawE w66 (fun Rs77 Rb77 w77 =>
 DetOp Rb77 Rs77 w77 (fun w78 K78 => D (L 57 t5) w78 K78 X) (fun c80_78 ψ78 =>
 DetOp Rb77 Rs77 w77 (fun w79 K79 => D (F 57 t5 2) w79 K79 X) (fun c81_79 ψ79 =>
 DetOp Rb77 Rs77 w77 (fun w80 K80 => D (L 3 c81_79) w80 K80 X) (fun c82_80 ψ80 =>
 DetOp Rb77 Rs77 w77 (fun w81 K81 => D (F 57 t5 0) w81 K81 X) (fun c83_81 ψ81 =>
 DetOp Rb77 Rs77 w77 (fun w82 K82 => D (F 28 c83_81 3) w82 K82 X) (fun c84_82 ψ82 =>
 DetOp Rb77 Rs77 w77 (fun w83 K83 => D (L 26 c84_82) w83 K83 X) (fun c85_83 ψ83 =>
 DetOp Rb77 Rs77 w77 (fun w84 K84 => B Builtin.len #[26] 3 #[false] #[c85_83] w84 K84 X) (fun c86_84 ψ84 =>
 DetOp Rb77 Rs77 w77 (fun w85 K85 => D (binS BinOp.eql 3 (T 82) (T 86) c82_80 c86_84) w85 K85 X) (fun c87_85 ψ85 =>
 Gd c87_85 true (DetOp Rb77 Rs77 w77 (fun w86 K86 => D (F 57 t5 1) w86 K86 X) (fun c89_86 ψ86 =>
 DetOp Rb77 Rs77 w77 (fun w87 K87 => D (L 23 c89_86) w87 K87 X) (fun c90_87 ψ87 =>
 DetOp Rb77 Rs77 w77 (fun w88 K88 => D (F 57 t5 0) w88 K88 X) (fun c91_88 ψ88 =>
 DetOp Rb77 Rs77 w77 (fun w89 K89 => D (F 28 c91_88 2) w89 K89 X) (fun c92_89 ψ89 =>
 DetOp Rb77 Rs77 w77 (fun w90 K90 => D (F 25 c92_89 2) w90 K90 X) (fun c93_90 ψ90 =>
 DetOp Rb77 Rs77 w77 (fun w91 K91 => D (L 23 c93_90) w91 K91 X) (fun c94_91 ψ91 =>
 DetOp Rs77 Rb77 w77 (fun w92 K92 => Q 48 #[c90_87, c94_91] w92 K92 X) (fun c95_92 ψ92 =>
 DetOp Rb77 Rs77 w77 (fun w93 K93 => U (S 57 t2 c80_78) w93 K93 X) (fun c_93 ψ93 =>
 ∀ w94, Rb77 w77 w94 → ((((((((((((((((True ∧ ψ78 w94) ∧ ψ79 w94) ∧ ψ80 w94) ∧ ψ81 w94) ∧ ψ82 w94) ∧ ψ83 w94) ∧ ψ84 w94) ∧ ψ85 w94) ∧ ψ86 w94) ∧ ψ87 w94) ∧ ψ88 w94) ∧ ψ89 w94) ∧ ψ90 w94) ∧ ψ91 w94) ∧ ψ92 w94) ∧ ψ93 w94) →
 Res Tryz.prog [.cell t2 57, .tmp c95_92] w94 R)))))))))
(DetOp Rb77 Rs77 w77 (fun w95 K95 => U (S 57 t2 c80_78) w95 K95 X) (fun c_95 ψ95 =>
 ∀ w96, Rb77 w77 w96 → (((((((((True ∧ ψ78 w96) ∧ ψ79 w96) ∧ ψ80 w96) ∧ ψ81 w96) ∧ ψ82 w96) ∧ ψ83 w96) ∧ ψ84 w96) ∧ ψ85 w96) ∧ ψ95 w96) →
 Res Tryz.prog [.cell t2 57, .tmp (V false)] w96 R))))))))))))) X) X) X) X))) X) X) X) X) X) X)
theorem sh_vehicle_load_ok (v0 : Value) (h : sh_vehicle_load v0 R w) : Calls Tryz.prog 26 #[v0] w R :=
  calls_of_vc (c := Tryz.f26.body.getD .skip) (args := [v0]) [(7, 8, false, 0), (8, 18, false, 16)] [] follows_mixed Tryz.func26 rfl (of_decide_eq_true (by kernel_rfl)) (by kernel_rfl) (Eq.mp (by kernel_rfl) h)
def sh_vehicle_put (v0 v1 : Value) (R : Ending → World → Prop) (w : World) : Prop := 
 letI X := Pan R
 letI D := DoV Tryz.prog
 letI U := DoU Tryz.prog
 letI I := Value.int IntKind.i64
 letI L := Instr.loadAt
 letI S := Instr.storeAt
(D (Instr.box 28 v0) w (fun t1 w1 =>
 D (Instr.box 64 v1) w1 (fun t2 w2 =>
 D (Instr.alloc 28 true (.tuple #[])) w2 (fun t3 w3 =>
 D (Instr.fieldAt 28 t1 3) w3 (fun t4 w4 =>
 D (L 26 t4) w4 (fun t5 w5 =>
 D (L 64 t2) w5 (fun t6 w6 =>
 CallF Tryz.prog 49 #[t5, t6] w6 (fun t7 w7 =>
 D (Instr.extract t7 0) w7 (fun t8 w8 =>
 D (Instr.extract t7 1) w8 (fun t9 w9 =>
 D (binS BinOp.neq 32 (Operand.tmp 15) (Operand.const (I 0)) t9 (I 0)) w9 (fun t10 w10 =>
 Br t10
(D (Instr.build 28 #[]) w10 (fun t11 w11 =>
 U (S 28 t3 t11) w11 (fun _ w12 =>
 Res Tryz.prog [.cell t3 28, .tmp t9] w12 R) X) X)
(D (Instr.fieldAt 28 t1 3) w10 (fun t13 w13 =>
 U (S 26 t13 t8) w13 (fun _ w14 =>
 D (L 28 t1) w14 (fun t15 w15 =>
 U (S 28 t3 t15) w15 (fun _ w16 =>
 Res Tryz.prog [.cell t3 28, .tmp (I 0)] w16 R) X) X) X) X)) X) X) X) X) X) X) X) X) X) X)
theorem sh_vehicle_put_ok (v0 v1 : Value) (h : sh_vehicle_put v0 v1 R w) : Calls Tryz.prog 27 #[v0, v1] w R :=
  calls_of_vc (c := Tryz.f27.body.getD .skip) (args := [v0, v1]) [] [] follows_mixed Tryz.func27 rfl (of_decide_eq_true (by kernel_rfl)) (by kernel_rfl) (Eq.mp (by kernel_rfl) h)
def sh_vehicle_memory_chain (v0 v1 : Value) (R : Ending → World → Prop) (w : World) : Prop := 
 letI X := Pan R
 letI D := DoV Tryz.prog
 letI L := Instr.loadAt
 letI F := Instr.fieldAt
(DrawR w (fun R1 S1 w1 =>
 DetOp R1 (Both R1 S1) w1 (fun w2 K2 => NilC Tryz.prog v0 w2 K2 X) (fun c9_2 ψ2 =>
 DetOp R1 (Both R1 S1) w1 (fun w3 K3 => D (F 57 c9_2 0) w3 K3 X) (fun c10_3 ψ3 =>
 DetOp R1 (Both R1 S1) w1 (fun w4 K4 => D (F 28 c10_3 0) w4 K4 X) (fun c11_4 ψ4 =>
 DetOp R1 (Both R1 S1) w1 (fun w5 K5 => D (L 3 c11_4) w5 K5 X) (fun c12_5 ψ5 =>
 DetOp R1 (Both R1 S1) w1 (fun w6 K6 => NilC Tryz.prog v0 w6 K6 X) (fun c14_6 ψ6 =>
 DetOp R1 (Both R1 S1) w1 (fun w7 K7 => D (F 57 c14_6 0) w7 K7 X) (fun c15_7 ψ7 =>
 DetOp R1 (Both R1 S1) w1 (fun w8 K8 => D (F 28 c15_7 2) w8 K8 X) (fun c16_8 ψ8 =>
 DetOp R1 (Both R1 S1) w1 (fun w9 K9 => D (F 25 c16_8 1) w9 K9 X) (fun c17_9 ψ9 =>
 DetOp R1 (Both R1 S1) w1 (fun w10 K10 => D (L 22 c17_9) w10 K10 X) (fun c18_10 ψ10 =>
 DetOp R1 (Both R1 S1) w1 (fun w11 K11 => NilC Tryz.prog v0 w11 K11 X) (fun c20_11 ψ11 =>
 DetOp R1 (Both R1 S1) w1 (fun w12 K12 => D (F 57 c20_11 1) w12 K12 X) (fun c21_12 ψ12 =>
 DetOp R1 (Both R1 S1) w1 (fun w13 K13 => D (L 23 c21_12) w13 K13 X) (fun c22_13 ψ13 =>
 DetOp R1 (Both R1 S1) w1 (fun w14 K14 => D (Instr.build 25 #[(0, c12_5), (1, c18_10), (2, c22_13)]) w14 K14 X) (fun c23_14 ψ14 =>
 ThrE R1 S1 0 w1 (fun Θ1_0 T1_0 =>
 NdC R1 S1 0 w1 Θ1_0 (fun w15 K15 => CallF Tryz.prog 50 #[c23_14, v1] w15 K15 X) (fun v25_15 φ15 =>
 NdC R1 S1 0 w1 φ15 (fun w16 K16 => K16 v25_15 w16) (fun v7_16 φ16 =>
 NdC R1 S1 0 w1 φ16 (fun w17 K17 => D (Instr.extract v7_16 0) w17 K17 X) (fun v26_17 φ17 =>
 NdC R1 S1 0 w1 φ17 (fun w18 K18 => D (Instr.extract v7_16 1) w18 K18 X) (fun v27_18 φ18 =>
 NdC R1 S1 0 w1 φ18 (fun w19 K19 => K19 v26_17 w19) (fun v5_19 φ19 =>
 T1_0 [v25_15, v7_16, v26_17, v27_18, v5_19] φ19)))))) (fun Φ1_0 =>
 ∀ (h20 : Nat → Value) (w21 : World), R1 w1 w21 → (((((((((((((True ∧ ψ2 w21) ∧ ψ3 w21) ∧ ψ4 w21) ∧ ψ5 w21) ∧ ψ6 w21) ∧ ψ7 w21) ∧ ψ8 w21) ∧ ψ9 w21) ∧ ψ10 w21) ∧ ψ11 w21) ∧ ψ12 w21) ∧ ψ13 w21) ∧ ψ14 w21) ∧ (True ∧ Φ1_0 [(h20 25), (h20 7), (h20 26), (h20 27), (h20 5)] w21) →
 R (.returned (h20 5)) w21))))))))))))))))
theorem sh_vehicle_memory_chain_ok (v0 v1 : Value) (h : sh_vehicle_memory_chain v0 v1 R w) : Calls Tryz.prog 28 #[v0, v1] w R :=
  calls_of_vc (c := Tryz.f28.body.getD .skip) (args := [v0, v1]) [(1, 22, false, 10540674927860646888)] [] follows_mixed Tryz.func28 rfl (of_decide_eq_true (by kernel_rfl)) (by kernel_rfl) (Eq.mp (by kernel_rfl) h)
def sh_landfallref41_number (v0 : Value) (R : Ending → World → Prop) (w : World) : Prop := 
 letI I := Value.int IntKind.i64
(DoV Tryz.prog (binS BinOp.geq 3 (Operand.tmp 3) (Operand.const (I 1)) v0 (I 1)) w (fun t1 w1 =>
 Gd t1 true (DoV Tryz.prog (binS BinOp.leq 3 (Operand.tmp 6) (Operand.const (I 1000000)) v0 (I 1000000)) w1 (fun t2 w2 =>
 R (.returned t2) w2) (Pan R))
(R (.returned (Value.bool false)) w1)) (Pan R))
theorem sh_landfallref41_number_ok (v0 : Value) (h : sh_landfallref41_number v0 R w) : Calls Tryz.prog 29 #[v0] w R :=
  calls_of_vc (c := Tryz.f29.body.getD .skip) (args := [v0]) [] [] follows_mixed Tryz.func29 rfl (of_decide_eq_true (by kernel_rfl)) (by kernel_rfl) (Eq.mp (by kernel_rfl) h)
def sh_landfallref24_Valid (v0 : Value) (R : Ending → World → Prop) (w : World) : Prop := 
 letI X := Pan R
 letI D := DoV Tryz.prog
 letI Q := CallF Tryz.prog
 letI I := Value.int IntKind.i64
 letI L := Instr.loadAt
 letI F := Instr.fieldAt
 letI V := Value.bool
(D (Instr.box 25 v0) w (fun t1 w1 =>
 D (F 25 t1 0) w1 (fun t2 w2 =>
 D (L 3 t2) w2 (fun t3 w3 =>
 Q 51 #[t3, (I 1), (I 1000000)] w3 (fun t4 w4 =>
 Gd t4 true (D (F 25 t1 1) w4 (fun t5 w5 =>
 D (L 22 t5) w5 (fun t6 w6 =>
 CallB Tryz.prog Builtin.len #[22] 3 #[false] #[t6] w6 (fun t7 w7 =>
 D (binS BinOp.gtr 3 (Operand.tmp 9) (Operand.const (I 0)) t7 (I 0)) w7 (fun t8 w8 =>
 Gd t8 true (D (F 25 t1 1) w8 (fun t9 w9 =>
 D (L 22 t9) w9 (fun t10 w10 =>
 Q 41 #[t10] w10 (fun t11 w11 =>
 Gd t11 true (D (F 25 t1 2) w11 (fun t12 w12 =>
 D (L 23 t12) w12 (fun t13 w13 =>
 Q 52 #[t13, (I 1)] w13 (fun t14 w14 =>
 R (.returned t14) w14) X) X) X)
(R (.returned (V false)) w11)) X) X) X)
(R (.returned (V false)) w8)) X) X) X) X)
(R (.returned (V false)) w4)) X) X) X) X)
theorem sh_landfallref24_Valid_ok (v0 : Value) (h : sh_landfallref24_Valid v0 R w) : Calls Tryz.prog 30 #[v0] w R :=
  calls_of_vc (c := Tryz.f30.body.getD .skip) (args := [v0]) [] [] follows_mixed Tryz.func30 rfl (of_decide_eq_true (by kernel_rfl)) (by kernel_rfl) (Eq.mp (by kernel_rfl) h)
def sh_landfallref41_Says (v0 v1 : Value) (R : Ending → World → Prop) (w : World) : Prop := 
 letI X := Pan R
 letI D := DoV Tryz.prog
 letI Q := CallF Tryz.prog
 letI I := Value.int IntKind.i64
 letI E := Instr.extract
 letI V := Value.bool
(Q 32 #[v0] w (fun t1 w1 =>
 D (E t1 0) w1 (fun t2 w2 =>
 D (E t1 1) w2 (fun t3 w3 =>
 D (E t1 2) w3 (fun t4 w4 =>
 D (binS BinOp.neq 32 (Operand.tmp 20) (Operand.const (I 0)) t4 (I 0)) w4 (fun t5 w5 =>
 Br t5
(R (.returned (Value.tuple #[(Value.slice none 0 0), (I 0), (V false)])) w5)
(Q 53 #[t2] w5 (fun t6 w6 =>
 D (E t6 0) w6 (fun t7 w7 =>
 D (E t6 1) w7 (fun t8 w8 =>
 D (Op.unary UnOp.not t8) w8 (fun t9 w9 =>
 Br t9
(R (.returned (Value.tuple #[(Value.slice none 0 0), (I 0), (V false)])) w9)
(Q 52 #[t7, (I 1)] w9 (fun t10 w10 =>
 Q 54 #[t2, v1] w10 (fun t11 w11 =>
 JoinE [] (fun K12 =>
 JoinE [39] (fun K13 =>
 D (Op.unary UnOp.not t10) w11 (fun t14 w14 =>
 Gd t14 false (D (Op.unary UnOp.not t11) w14 (fun t15 w15 =>
 K13 [t15] w15) X)
(K13 [(V true)] w14)) X)
(fun h16 w16 =>
 Br (h16 39)
(R (.returned (Value.tuple #[(Value.slice none 0 0), (I 0), (V false)])) w16)
(K12 [] w16)))
(fun _ w17 =>
 R (.returned (Value.tuple #[t7, t3, (V true)])) w17)) X) X)) X) X) X) X)) X) X) X) X) X)
theorem sh_landfallref41_Says_ok (v0 v1 : Value) (h : sh_landfallref41_Says v0 v1 R w) : Calls Tryz.prog 31 #[v0, v1] w R :=
  calls_of_vc (c := Tryz.f31.body.getD .skip) (args := [v0, v1]) [] [] follows_mixed Tryz.func31 rfl (of_decide_eq_true (by kernel_rfl)) (by kernel_rfl) (Eq.mp (by kernel_rfl) h)
def sh_landfallref41_Ends (v0 v1 : Value) (R : Ending → World → Prop) (w : World) : Prop := 
 letI X := Pan R
 letI D := DoV Tryz.prog
 letI Q := CallF Tryz.prog
 letI B := CallB Tryz.prog
 letI I := Value.int IntKind.i64
 letI T := Operand.tmp
(LoopE [5, 6] [(I 0), (I 0)] w (fun h1 w1 K1 =>
 JoinE [] (fun K2 =>
 B Builtin.len #[68] 3 #[false] #[v0] w1 (fun t3 w3 =>
 D (binS BinOp.lss 3 (T 9) (T 11) (h1 6) t3) w3 (fun t4 w4 =>
 Gd t4 true (D (binS BinOp.lss 3 (T 14) (T 15) (h1 5) v1) w4 (fun t5 w5 =>
 Br t5
(K2 [] w5)
(D (binS BinOp.eql 3 (T 33) (T 34) (h1 5) v1) w5 (fun t6 w6 =>
 R (.returned t6) w6) X)) X)
(D (binS BinOp.eql 3 (T 33) (T 34) (h1 5) v1) w4 (fun t7 w7 =>
 R (.returned t7) w7) X)) X) X)
(fun _ w8 =>
 D (Instr.indexAt 68 v0 (h1 6)) w8 (fun t9 w9 =>
 D (Instr.loadAt 64 t9) w9 (fun t10 w10 =>
 Q 58 #[t10] w10 (fun t11 w11 =>
 Q 57 #[t11] w11 (fun t12 w12 =>
 D (Instr.extract t12 0) w12 (fun t13 w13 =>
 D (Instr.extract t12 1) w13 (fun _ w14 =>
 B Builtin.len #[26] 3 #[false] #[t13] w14 (fun t15 w15 =>
 D (binS BinOp.add 3 (T 29) (T 31) (h1 5) t15) w15 (fun t16 w16 =>
 D (binS BinOp.add 3 (T 18) (Operand.const (I 1)) (h1 6) (I 1)) w16 (fun t17 w17 =>
 K1 [t16, t17] w17) X) X) X) X) X) X) X) X) X)))
theorem sh_landfallref41_Ends_ok (v0 v1 : Value) (h : sh_landfallref41_Ends v0 v1 R w) : Calls Tryz.prog 33 #[v0, v1] w R :=
  calls_of_vc (c := Tryz.f33.body.getD .skip) (args := [v0, v1]) [] [5, 6] follows_mixed Tryz.func33 rfl (of_decide_eq_true (by kernel_rfl)) (by kernel_rfl) (Eq.mp (by kernel_rfl) h)
def sh_vehicle_formed (v0 : Value) (R : Ending → World → Prop) (w : World) : Prop := 
 letI X := Pan R
 letI D := DoV Tryz.prog
 letI I := Value.int IntKind.i64
 letI L := Instr.loadAt
(D (Instr.box 38 v0) w (fun t1 w1 =>
 D (Instr.fieldAt 38 t1 0) w1 (fun t2 w2 =>
 D (L 3 t2) w2 (fun t3 w3 =>
 D (L 38 t1) w3 (fun t4 w4 =>
 D (Instr.buildSlice 23 1 #[(0, t4)]) w4 (fun t5 w5 =>
 D (Instr.build 97 #[(0, (I 1)), (1, t3), (2, t5)]) w5 (fun t6 w6 =>
 D (Instr.alloc 97 true (.tuple #[])) w6 (fun t7 w7 =>
 DoU Tryz.prog (Instr.storeAt 97 t7 t6) w7 (fun _ w8 =>
 D (L 97 t7) w8 (fun t9 w9 =>
 CallF Tryz.prog 59 #[t9, (I 4)] w9 (fun t10 w10 =>
 D (Instr.extract t10 0) w10 (fun _ w11 =>
 D (Instr.extract t10 1) w11 (fun t12 w12 =>
 D (binS BinOp.eql 32 (Operand.tmp 16) (Operand.const (I 0)) t12 (I 0)) w12 (fun t13 w13 =>
 R (.returned t13) w13) X) X) X) X) X) X) X) X) X) X) X) X) X)
theorem sh_vehicle_formed_ok (v0 : Value) (h : sh_vehicle_formed v0 R w) : Calls Tryz.prog 34 #[v0] w R :=
  calls_of_vc (c := Tryz.f34.body.getD .skip) (args := [v0]) [] [] follows_mixed Tryz.func34 rfl (of_decide_eq_true (by kernel_rfl)) (by kernel_rfl) (Eq.mp (by kernel_rfl) h)
def sh_slices_Clone___api_Entry_api_Entry_ (v0 : Value) (R : Ending → World → Prop) (w : World) : Prop := 
 letI X := Pan R
(DoV Tryz.prog (binS BinOp.eql 23 (Operand.tmp 3) (Operand.const (Value.slice none 0 0)) v0 (Value.slice none 0 0)) w (fun t1 w1 =>
 Br t1
(R (.returned (Value.slice none 0 0)) w1)
(DoV Tryz.prog (Instr.buildSlice 23 0 #[]) w1 (fun t2 w2 =>
 CallB Tryz.prog Builtin.append #[23, 23] 23 #[false, false] #[t2, v0] w2 (fun t3 w3 =>
 R (.returned t3) w3) X) X)) X)
theorem sh_slices_Clone___api_Entry_api_Entry__ok (v0 : Value) (h : sh_slices_Clone___api_Entry_api_Entry_ v0 R w) : Calls Tryz.prog 35 #[v0] w R :=
  calls_of_vc (c := Tryz.f35.body.getD .skip) (args := [v0]) [] [] follows_mixed Tryz.func35 rfl (of_decide_eq_true (by kernel_rfl)) (by kernel_rfl) (Eq.mp (by kernel_rfl) h)
def sh_slices_Clone___byte_byte_ (v0 : Value) (R : Ending → World → Prop) (w : World) : Prop := 
 letI X := Pan R
(DoV Tryz.prog (binS BinOp.eql 26 (Operand.tmp 3) (Operand.const (Value.slice none 0 0)) v0 (Value.slice none 0 0)) w (fun t1 w1 =>
 Br t1
(R (.returned (Value.slice none 0 0)) w1)
(DoV Tryz.prog (Instr.buildSlice 26 0 #[]) w1 (fun t2 w2 =>
 CallB Tryz.prog Builtin.append #[26, 26] 26 #[false, false] #[t2, v0] w2 (fun t3 w3 =>
 R (.returned t3) w3) X) X)) X)
theorem sh_slices_Clone___byte_byte__ok (v0 : Value) (h : sh_slices_Clone___byte_byte_ v0 R w) : Calls Tryz.prog 36 #[v0] w R :=
  calls_of_vc (c := Tryz.f36.body.getD .skip) (args := [v0]) [] [] follows_mixed Tryz.func36 rfl (of_decide_eq_true (by kernel_rfl)) (by kernel_rfl) (Eq.mp (by kernel_rfl) h)
def sh_landfallref21_Formed (v0 : Value) (R : Ending → World → Prop) (w : World) : Prop := 
 letI X := Pan R
 letI D := DoV Tryz.prog
 letI Q := CallF Tryz.prog
 letI I := Value.int IntKind.i64
 letI T := Operand.tmp
 letI C := Operand.const
 letI L := Instr.loadAt
 letI F := Instr.fieldAt
 letI V := Value.bool
 letI J := BinOp.eql
(D (Instr.box 38 v0) w (fun t1 w1 =>
 JoinE [] (fun K2 =>
 JoinE [12] (fun K3 =>
 D (F 38 t1 0) w1 (fun t4 w4 =>
 D (L 3 t4) w4 (fun t5 w5 =>
 Q 60 #[t5, (I 1), (I 2000)] w5 (fun t6 w6 =>
 D (Op.unary UnOp.not t6) w6 (fun t7 w7 =>
 Gd t7 false (D (F 38 t1 1) w7 (fun t8 w8 =>
 D (L 3 t8) w8 (fun t9 w9 =>
 Q 60 #[t9, (I 0), (I 1000000000)] w9 (fun t10 w10 =>
 D (Op.unary UnOp.not t10) w10 (fun t11 w11 =>
 K3 [t11] w11) X) X) X) X)
(K3 [(V true)] w7)) X) X) X) X)
(fun h12 w12 =>
 Br (h12 12)
(R (.returned (V false)) w12)
(K2 [] w12)))
(fun _ w13 =>
 D (F 38 t1 2) w13 (fun t14 w14 =>
 D (L 3 t14) w14 (fun t15 w15 =>
 D (binS J 3 (T 14) (C (I 1)) t15 (I 1)) w15 (fun t16 w16 =>
 Br t16
(JoinE [] (fun K17 =>
 JoinE [42] (fun K18 =>
 D (F 38 t1 3) w16 (fun t19 w19 =>
 D (L 3 t19) w19 (fun t20 w20 =>
 D (binS BinOp.neq 3 (T 17) (C (I 0)) t20 (I 0)) w20 (fun t21 w21 =>
 Gd t21 false (D (F 38 t1 4) w21 (fun t22 w22 =>
 D (L 3 t22) w22 (fun t23 w23 =>
 D (binS BinOp.neq 3 (T 21) (C (I 0)) t23 (I 0)) w23 (fun t24 w24 =>
 Gd t24 false (D (F 38 t1 5) w24 (fun t25 w25 =>
 D (L 3 t25) w25 (fun t26 w26 =>
 Q 60 #[t26, (I 0), (I 63)] w26 (fun t27 w27 =>
 D (Op.unary UnOp.not t27) w27 (fun t28 w28 =>
 Gd t28 false (D (F 38 t1 6) w28 (fun t29 w29 =>
 D (L 3 t29) w29 (fun t30 w30 =>
 Q 60 #[t30, (I 0), (I 100000)] w30 (fun t31 w31 =>
 D (Op.unary UnOp.not t31) w31 (fun t32 w32 =>
 Gd t32 false (D (F 38 t1 6) w32 (fun t33 w33 =>
 D (L 3 t33) w33 (fun t34 w34 =>
 D (F 38 t1 1) w34 (fun t35 w35 =>
 D (L 3 t35) w35 (fun t36 w36 =>
 D (binS BinOp.gtr 3 (T 38) (T 40) t34 t36) w36 (fun t37 w37 =>
 K18 [t37] w37) X) X) X) X) X)
(K18 [(V true)] w32)) X) X) X) X)
(K18 [(V true)] w28)) X) X) X) X)
(K18 [(V true)] w24)) X) X) X)
(K18 [(V true)] w21)) X) X) X)
(fun h38 w38 =>
 Br (h38 42)
(R (.returned (V false)) w38)
(K17 [] w38)))
(fun _ w39 =>
 D (F 38 t1 7) w39 (fun t40 w40 =>
 D (L 36 t40) w40 (fun t41 w41 =>
 Q 61 #[t41, (I 0), (I 100000)] w41 (fun t42 w42 =>
 Gd t42 true (D (F 38 t1 7) w42 (fun t43 w43 =>
 D (F 36 t43 0) w43 (fun t44 w44 =>
 D (L 3 t44) w44 (fun t45 w45 =>
 D (F 38 t1 7) w45 (fun t46 w46 =>
 D (F 36 t46 1) w46 (fun t47 w47 =>
 D (L 3 t47) w47 (fun t48 w48 =>
 D (binS J 3 (T 49) (T 52) t45 t48) w48 (fun t49 w49 =>
 Gd t49 true (D (F 38 t1 8) w49 (fun t50 w50 =>
 D (L 3 t50) w50 (fun t51 w51 =>
 Q 60 #[t51, (I (-1000)), (I 1000)] w51 (fun t52 w52 =>
 Gd t52 true (D (F 38 t1 9) w52 (fun t53 w53 =>
 D (L 3 t53) w53 (fun t54 w54 =>
 Q 60 #[t54, (I 0), (I 10000)] w54 (fun t55 w55 =>
 Gd t55 true (D (F 38 t1 10) w55 (fun t56 w56 =>
 D (L 3 t56) w56 (fun t57 w57 =>
 Q 60 #[t57, (I 0), (I 1000000000)] w57 (fun t58 w58 =>
 R (.returned t58) w58) X) X) X)
(R (.returned (V false)) w55)) X) X) X)
(R (.returned (V false)) w52)) X) X) X)
(R (.returned (V false)) w49)) X) X) X) X) X) X) X)
(R (.returned (V false)) w42)) X) X) X))
(JoinE [] (fun K59 =>
 JoinE [88] (fun K60 =>
 D (F 38 t1 3) w16 (fun t61 w61 =>
 D (L 3 t61) w61 (fun t62 w62 =>
 Q 60 #[t62, (I 1), (I 8)] w62 (fun t63 w63 =>
 D (Op.unary UnOp.not t63) w63 (fun t64 w64 =>
 Gd t64 false (D (F 38 t1 8) w64 (fun t65 w65 =>
 D (L 3 t65) w65 (fun t66 w66 =>
 D (binS BinOp.neq 3 (T 76) (C (I 0)) t66 (I 0)) w66 (fun t67 w67 =>
 Gd t67 false (D (F 38 t1 9) w67 (fun t68 w68 =>
 D (L 3 t68) w68 (fun t69 w69 =>
 D (binS BinOp.neq 3 (T 81) (C (I 0)) t69 (I 0)) w69 (fun t70 w70 =>
 Gd t70 false (D (F 38 t1 10) w70 (fun t71 w71 =>
 D (L 3 t71) w71 (fun t72 w72 =>
 D (binS BinOp.neq 3 (T 86) (C (I 0)) t72 (I 0)) w72 (fun t73 w73 =>
 K60 [t73] w73) X) X) X)
(K60 [(V true)] w70)) X) X) X)
(K60 [(V true)] w67)) X) X) X)
(K60 [(V true)] w64)) X) X) X) X)
(fun h74 w74 =>
 Br (h74 88)
(R (.returned (V false)) w74)
(K59 [] w74)))
(fun _ w75 =>
 D (F 38 t1 2) w75 (fun t76 w76 =>
 D (L 3 t76) w76 (fun t77 w77 =>
 D (binS J 3 (T 90) (C (I 2)) t77 (I 2)) w77 (fun t78 w78 =>
 Br t78
(D (F 38 t1 4) w78 (fun t79 w79 =>
 D (L 3 t79) w79 (fun t80 w80 =>
 D (binS J 3 (T 93) (C (I 0)) t80 (I 0)) w80 (fun t81 w81 =>
 Gd t81 true (D (F 38 t1 5) w81 (fun t82 w82 =>
 D (L 3 t82) w82 (fun t83 w83 =>
 D (binS J 3 (T 97) (C (I 0)) t83 (I 0)) w83 (fun t84 w84 =>
 Gd t84 true (D (F 38 t1 6) w84 (fun t85 w85 =>
 D (L 3 t85) w85 (fun t86 w86 =>
 D (binS J 3 (T 102) (C (I 0)) t86 (I 0)) w86 (fun t87 w87 =>
 Gd t87 true (D (F 38 t1 7) w87 (fun t88 w88 =>
 D (L 36 t88) w88 (fun t89 w89 =>
 Q 61 #[t89, (I (-100000)), (I 100000)] w89 (fun t90 w90 =>
 R (.returned t90) w90) X) X) X)
(R (.returned (V false)) w87)) X) X) X)
(R (.returned (V false)) w84)) X) X) X)
(R (.returned (V false)) w81)) X) X) X)
(D (F 38 t1 4) w78 (fun t91 w91 =>
 D (L 3 t91) w91 (fun t92 w92 =>
 Q 60 #[t92, (I 1), (I 1000000)] w92 (fun t93 w93 =>
 D (Op.unary UnOp.not t93) w93 (fun t94 w94 =>
 Br t94
(R (.returned (V false)) w94)
(D (F 38 t1 2) w94 (fun t95 w95 =>
 D (L 3 t95) w95 (fun t96 w96 =>
 D (binS J 3 (T 115) (C (I 4)) t96 (I 4)) w96 (fun t97 w97 =>
 Br t97
(D (F 38 t1 5) w97 (fun t98 w98 =>
 D (L 3 t98) w98 (fun t99 w99 =>
 Q 60 #[t99, (I 0), (I 63)] w99 (fun t100 w100 =>
 Gd t100 true (D (F 38 t1 6) w100 (fun t101 w101 =>
 D (L 3 t101) w101 (fun t102 w102 =>
 Q 60 #[t102, (I 0), (I 31)] w102 (fun t103 w103 =>
 Gd t103 true (D (F 38 t1 7) w103 (fun t104 w104 =>
 D (L 36 t104) w104 (fun t105 w105 =>
 D (Instr.build 36 #[]) w105 (fun t106 w106 =>
 D (binS J 36 (T 127) (T 128) t105 t106) w106 (fun t107 w107 =>
 R (.returned t107) w107) X) X) X) X)
(R (.returned (V false)) w103)) X) X) X)
(R (.returned (V false)) w100)) X) X) X)
(JoinE [] (fun K108 =>
 JoinE [144] (fun K109 =>
 D (F 38 t1 5) w97 (fun t110 w110 =>
 D (L 3 t110) w110 (fun t111 w111 =>
 D (binS BinOp.neq 3 (T 132) (C (I 0)) t111 (I 0)) w111 (fun t112 w112 =>
 Gd t112 false (D (F 38 t1 6) w112 (fun t113 w113 =>
 D (L 3 t113) w113 (fun t114 w114 =>
 D (binS BinOp.neq 3 (T 136) (C (I 0)) t114 (I 0)) w114 (fun t115 w115 =>
 Gd t115 false (D (F 38 t1 7) w115 (fun t116 w116 =>
 D (L 36 t116) w116 (fun t117 w117 =>
 Q 61 #[t117, (I 0), (I 100000)] w117 (fun t118 w118 =>
 D (Op.unary UnOp.not t118) w118 (fun t119 w119 =>
 K109 [t119] w119) X) X) X) X)
(K109 [(V true)] w115)) X) X) X)
(K109 [(V true)] w112)) X) X) X)
(fun h120 w120 =>
 Br (h120 144)
(R (.returned (V false)) w120)
(K108 [] w120)))
(fun _ w121 =>
 JoinE [] (fun K122 =>
 D (F 38 t1 2) w121 (fun t123 w123 =>
 D (L 3 t123) w123 (fun t124 w124 =>
 JoinE [147] (fun K125 =>
 D (binS J 3 (T 146) (C (I 3)) t124 (I 3)) w124 (fun t126 w126 =>
 Br t126
(K125 [t126] w126)
(D (binS J 3 (T 146) (C (I 7)) t124 (I 7)) w126 (fun t127 w127 =>
 K125 [t127] w127) X)) X)
(fun h128 w128 =>
 Br (h128 147)
(R (.returned (V true)) w128)
(D (binS J 3 (T 146) (C (I 5)) t124 (I 5)) w128 (fun t129 w129 =>
 Br t129
(D (F 38 t1 7) w129 (fun t130 w130 =>
 D (F 36 t130 0) w130 (fun t131 w131 =>
 D (L 3 t131) w131 (fun t132 w132 =>
 D (binS J 3 (T 154) (C (I 0)) t132 (I 0)) w132 (fun t133 w133 =>
 R (.returned t133) w133) X) X) X) X)
(D (binS J 3 (T 146) (C (I 6)) t124 (I 6)) w129 (fun t134 w134 =>
 Br t134
(D (F 38 t1 7) w134 (fun t135 w135 =>
 D (F 36 t135 0) w135 (fun t136 w136 =>
 D (L 3 t136) w136 (fun t137 w137 =>
 D (F 38 t1 7) w137 (fun t138 w138 =>
 D (F 36 t138 1) w138 (fun t139 w139 =>
 D (L 3 t139) w139 (fun t140 w140 =>
 D (binS J 3 (T 160) (T 163) t137 t140) w140 (fun t141 w141 =>
 R (.returned t141) w141) X) X) X) X) X) X) X)
(K122 [] w134)) X)) X))) X) X)
(fun _ w142 =>
 R (.returned (V false)) w142)))) X) X) X)) X) X) X) X)) X) X) X))) X) X) X)) X)
theorem sh_landfallref21_Formed_ok (v0 : Value) (h : sh_landfallref21_Formed v0 R w) : Calls Tryz.prog 37 #[v0] w R :=
  calls_of_vc (c := Tryz.f37.body.getD .skip) (args := [v0]) [] [] follows_mixed Tryz.func37 rfl (of_decide_eq_true (by kernel_rfl)) (by kernel_rfl) (Eq.mp (by kernel_rfl) h)
def sh_vehicle_isID (v0 : Value) (R : Ending → World → Prop) (w : World) : Prop := 
 letI I := Value.int IntKind.i64
(DoV Tryz.prog (binS BinOp.geq 3 (Operand.tmp 3) (Operand.const (I 1)) v0 (I 1)) w (fun t1 w1 =>
 Gd t1 true (DoV Tryz.prog (binS BinOp.leq 3 (Operand.tmp 6) (Operand.const (I 1000000)) v0 (I 1000000)) w1 (fun t2 w2 =>
 R (.returned t2) w2) (Pan R))
(R (.returned (Value.bool false)) w1)) (Pan R))
theorem sh_vehicle_isID_ok (v0 : Value) (h : sh_vehicle_isID v0 R w) : Calls Tryz.prog 38 #[v0] w R :=
  calls_of_vc (c := Tryz.f38.body.getD .skip) (args := [v0]) [] [] follows_mixed Tryz.func38 rfl (of_decide_eq_true (by kernel_rfl)) (by kernel_rfl) (Eq.mp (by kernel_rfl) h)
def sh_region_Valid (v0 : Value) (R : Ending → World → Prop) (w : World) : Prop := 
 letI X := Pan R
 letI I := Value.int IntKind.i64
(CallB Tryz.prog Builtin.len #[22] 3 #[false] #[v0] w (fun t1 w1 =>
 DoV Tryz.prog (binS BinOp.leq 3 (Operand.tmp 4) (Operand.const (I 32)) t1 (I 32)) w1 (fun t2 w2 =>
 Gd t2 true (CallF Tryz.prog 62 #[v0] w2 (fun t3 w3 =>
 DoV Tryz.prog (Op.unary UnOp.not t3) w3 (fun t4 w4 =>
 R (.returned t4) w4) X) X)
(R (.returned (Value.bool false)) w2)) X) X)
theorem sh_region_Valid_ok (v0 : Value) (h : sh_region_Valid v0 R w) : Calls Tryz.prog 39 #[v0] w R :=
  calls_of_vc (c := Tryz.f39.body.getD .skip) (args := [v0]) [] [] follows_mixed Tryz.func39 rfl (of_decide_eq_true (by kernel_rfl)) (by kernel_rfl) (Eq.mp (by kernel_rfl) h)
def sh_slices_Clone___api_Point_api_Point_ (v0 : Value) (R : Ending → World → Prop) (w : World) : Prop := 
 letI X := Pan R
(DoV Tryz.prog (binS BinOp.eql 53 (Operand.tmp 3) (Operand.const (Value.slice none 0 0)) v0 (Value.slice none 0 0)) w (fun t1 w1 =>
 Br t1
(R (.returned (Value.slice none 0 0)) w1)
(DoV Tryz.prog (Instr.buildSlice 53 0 #[]) w1 (fun t2 w2 =>
 CallB Tryz.prog Builtin.append #[53, 53] 53 #[false, false] #[t2, v0] w2 (fun t3 w3 =>
 R (.returned t3) w3) X) X)) X)
theorem sh_slices_Clone___api_Point_api_Point__ok (v0 : Value) (h : sh_slices_Clone___api_Point_api_Point_ v0 R w) : Calls Tryz.prog 40 #[v0] w R :=
  calls_of_vc (c := Tryz.f40.body.getD .skip) (args := [v0]) [] [] follows_mixed Tryz.func40 rfl (of_decide_eq_true (by kernel_rfl)) (by kernel_rfl) (Eq.mp (by kernel_rfl) h)
def sh_landfallref07_Valid (v0 : Value) (R : Ending → World → Prop) (w : World) : Prop := 
 letI X := Pan R
 letI I := Value.int IntKind.i64
(CallB Tryz.prog Builtin.len #[22] 3 #[false] #[v0] w (fun t1 w1 =>
 DoV Tryz.prog (binS BinOp.leq 3 (Operand.tmp 4) (Operand.const (I 32)) t1 (I 32)) w1 (fun t2 w2 =>
 Gd t2 true (CallF Tryz.prog 63 #[v0] w2 (fun t3 w3 =>
 R (.returned t3) w3) X)
(R (.returned (Value.bool false)) w2)) X) X)
theorem sh_landfallref07_Valid_ok (v0 : Value) (h : sh_landfallref07_Valid v0 R w) : Calls Tryz.prog 41 #[v0] w R :=
  calls_of_vc (c := Tryz.f41.body.getD .skip) (args := [v0]) [] [] follows_mixed Tryz.func41 rfl (of_decide_eq_true (by kernel_rfl)) (by kernel_rfl) (Eq.mp (by kernel_rfl) h)
def sh_landfallref24_SameLog (v0 v1 : Value) (R : Ending → World → Prop) (w : World) : Prop := 
 letI X := Pan R
 letI D := DoV Tryz.prog
 letI Q := CallF Tryz.prog
 letI L := Instr.loadAt
 letI F := Instr.fieldAt
(D (Instr.box 25 v0) w (fun t1 w1 =>
 D (Instr.box 25 v1) w1 (fun t2 w2 =>
 D (F 25 t1 0) w2 (fun t3 w3 =>
 D (L 3 t3) w3 (fun t4 w4 =>
 D (F 25 t2 0) w4 (fun t5 w5 =>
 D (L 3 t5) w5 (fun t6 w6 =>
 D (binS BinOp.eql 3 (Operand.tmp 6) (Operand.tmp 8) t4 t6) w6 (fun t7 w7 =>
 Gd t7 true (D (F 25 t1 1) w7 (fun t8 w8 =>
 D (L 22 t8) w8 (fun t9 w9 =>
 D (F 25 t2 1) w9 (fun t10 w10 =>
 D (L 22 t10) w10 (fun t11 w11 =>
 Q 64 #[t9, t11] w11 (fun t12 w12 =>
 Gd t12 true (D (F 25 t1 2) w12 (fun t13 w13 =>
 D (L 23 t13) w13 (fun t14 w14 =>
 D (F 25 t2 2) w14 (fun t15 w15 =>
 D (L 23 t15) w15 (fun t16 w16 =>
 Q 13 #[t14, t16] w16 (fun t17 w17 =>
 R (.returned t17) w17) X) X) X) X) X)
(R (.returned (Value.bool false)) w12)) X) X) X) X) X)
(R (.returned (Value.bool false)) w7)) X) X) X) X) X) X) X)
theorem sh_landfallref24_SameLog_ok (v0 v1 : Value) (h : sh_landfallref24_SameLog v0 v1 R w) : Calls Tryz.prog 42 #[v0, v1] w R :=
  calls_of_vc (c := Tryz.f42.body.getD .skip) (args := [v0, v1]) [] [] follows_mixed Tryz.func42 rfl (of_decide_eq_true (by kernel_rfl)) (by kernel_rfl) (Eq.mp (by kernel_rfl) h)
def sh_landfallref24_Carry (v0 v1 : Value) (R : Ending → World → Prop) (w : World) : Prop := 
 letI X := Pan R
 letI D := DoV Tryz.prog
 letI Q := CallF Tryz.prog
 letI I := Value.int IntKind.i64
 letI T := Operand.tmp
(LoopE [0, 5] [v0, (I 0)] w (fun h1 w1 K1 =>
 CallB Tryz.prog Builtin.len #[23] 3 #[false] #[v1] w1 (fun t2 w2 =>
 D (binS BinOp.lss 3 (T 6) (T 8) (h1 5) t2) w2 (fun t3 w3 =>
 Br t3
(D (Instr.indexAt 23 v1 (h1 5)) w3 (fun t4 w4 =>
 D (Instr.loadAt 38 t4) w4 (fun t5 w5 =>
 Q 67 #[t5] w5 (fun t6 w6 =>
 Q 66 #[(h1 0), t6] w6 (fun t7 w7 =>
 D (binS BinOp.add 3 (T 10) (Operand.const (I 1)) (h1 5) (I 1)) w7 (fun t8 w8 =>
 K1 [t7, t8] w8) X) X) X) X) X)
(R (.returned (h1 0)) w3)) X) X))
theorem sh_landfallref24_Carry_ok (v0 v1 : Value) (h : sh_landfallref24_Carry v0 v1 R w) : Calls Tryz.prog 44 #[v0, v1] w R :=
  calls_of_vc (c := Tryz.f44.body.getD .skip) (args := [v0, v1]) [] [0, 5] follows_mixed Tryz.func44 rfl (of_decide_eq_true (by kernel_rfl)) (by kernel_rfl) (Eq.mp (by kernel_rfl) h)
def sh_landfallref24_Begin (v0 : Value) (R : Ending → World → Prop) (w : World) : Prop := 
(DoV Tryz.prog (Instr.buildSlice 91 1 #[(0, v0)]) w (fun t1 w1 =>
 CallF Tryz.prog 68 #[t1] w1 (fun t2 w2 =>
 R (.returned t2) w2) (Pan R)) (Pan R))
theorem sh_landfallref24_Begin_ok (v0 : Value) (h : sh_landfallref24_Begin v0 R w) : Calls Tryz.prog 45 #[v0] w R :=
  calls_of_vc (c := Tryz.f45.body.getD .skip) (args := [v0]) [] [] follows_mixed Tryz.func45 rfl (of_decide_eq_true (by kernel_rfl)) (by kernel_rfl) (Eq.mp (by kernel_rfl) h)
def sh_report_Valid (v0 : Value) (R : Ending → World → Prop) (w : World) : Prop := 
 letI X := Pan R
 letI D := DoV Tryz.prog
 letI Q := CallF Tryz.prog
 letI I := Value.int IntKind.i64
 letI L := Instr.loadAt
 letI F := Instr.fieldAt
 letI V := Value.bool
(D (Instr.box 25 v0) w (fun t1 w1 =>
 D (F 25 t1 0) w1 (fun t2 w2 =>
 D (L 3 t2) w2 (fun t3 w3 =>
 Q 69 #[t3] w3 (fun t4 w4 =>
 Gd t4 true (D (F 25 t1 1) w4 (fun t5 w5 =>
 D (L 22 t5) w5 (fun t6 w6 =>
 CallB Tryz.prog Builtin.len #[22] 3 #[false] #[t6] w6 (fun t7 w7 =>
 D (binS BinOp.gtr 3 (Operand.tmp 9) (Operand.const (I 0)) t7 (I 0)) w7 (fun t8 w8 =>
 Gd t8 true (D (F 25 t1 1) w8 (fun t9 w9 =>
 D (L 22 t9) w9 (fun t10 w10 =>
 Q 39 #[t10] w10 (fun t11 w11 =>
 Gd t11 true (D (F 25 t1 2) w11 (fun t12 w12 =>
 D (L 23 t12) w12 (fun t13 w13 =>
 Q 70 #[t13, (I 1)] w13 (fun t14 w14 =>
 R (.returned t14) w14) X) X) X)
(R (.returned (V false)) w11)) X) X) X)
(R (.returned (V false)) w8)) X) X) X) X)
(R (.returned (V false)) w4)) X) X) X) X)
theorem sh_report_Valid_ok (v0 : Value) (h : sh_report_Valid v0 R w) : Calls Tryz.prog 46 #[v0] w R :=
  calls_of_vc (c := Tryz.f46.body.getD .skip) (args := [v0]) [] [] follows_mixed Tryz.func46 rfl (of_decide_eq_true (by kernel_rfl)) (by kernel_rfl) (Eq.mp (by kernel_rfl) h)
def sh_vehicle_memory_read (v0 : Value) (R : Ending → World → Prop) (w : World) : Prop := 
 letI X := Pan R
 letI D := DoV Tryz.prog
 letI U := DoU Tryz.prog
 letI Q := CallF Tryz.prog
 letI B := CallB Tryz.prog
 letI I := Value.int IntKind.i64
 letI T := Operand.tmp
 letI C := Operand.const
 letI L := Instr.loadAt
 letI F := Instr.fieldAt
 letI S := Instr.storeAt
 letI E := Instr.extract
 letI V := Value.bool
 letI J := BinOp.eql
(D (Instr.box 79 v0) w (fun t1 w1 =>
 D (L 79 t1) w1 (fun t2 w2 =>
 NilC Tryz.prog t2 w2 (fun t3 w3 =>
 D (F 57 t3 0) w3 (fun t4 w4 =>
 D (F 28 t4 3) w4 (fun t5 w5 =>
 D (L 26 t5) w5 (fun t6 w6 =>
 Q 71 #[t6] w6 (fun t7 w7 =>
 D (E t7 0) w7 (fun t8 w8 =>
 D (E t7 1) w8 (fun t9 w9 =>
 D (E t7 2) w9 (fun t10 w10 =>
 D (binS BinOp.neq 32 (T 24) (C (I 0)) t10 (I 0)) w10 (fun t11 w11 =>
 Br t11
(R (.returned (V false)) w11)
(DrawE w11 (fun Rs12 Rb12 w12 =>
 DetOp Rb12 Rs12 w12 (fun w13 K13 => D (L 79 t1) w13 K13 X) (fun c26_13 ψ13 =>
 DetOp Rb12 Rs12 w12 (fun w14 K14 => NilC Tryz.prog c26_13 w14 K14 X) (fun c27_14 ψ14 =>
 DetOp Rb12 Rs12 w12 (fun w15 K15 => D (F 57 c27_14 0) w15 K15 X) (fun c28_15 ψ15 =>
 DetOp Rb12 Rs12 w12 (fun w16 K16 => D (F 28 c28_15 0) w16 K16 X) (fun c29_16 ψ16 =>
 DetOp Rb12 Rs12 w12 (fun w17 K17 => D (L 3 c29_16) w17 K17 X) (fun c30_17 ψ17 =>
 DetOp Rb12 Rs12 w12 (fun w18 K18 => D (L 79 t1) w18 K18 X) (fun c31_18 ψ18 =>
 DetOp Rb12 Rs12 w12 (fun w19 K19 => NilC Tryz.prog c31_18 w19 K19 X) (fun c32_19 ψ19 =>
 DetOp Rb12 Rs12 w12 (fun w20 K20 => D (F 57 c32_19 0) w20 K20 X) (fun c33_20 ψ20 =>
 DetOp Rb12 Rs12 w12 (fun w21 K21 => D (F 28 c33_20 2) w21 K21 X) (fun c34_21 ψ21 =>
 DetOp Rb12 Rs12 w12 (fun w22 K22 => D (F 25 c34_21 1) w22 K22 X) (fun c35_22 ψ22 =>
 DetOp Rb12 Rs12 w12 (fun w23 K23 => D (L 22 c35_22) w23 K23 X) (fun c36_23 ψ23 =>
 DetOp Rb12 Rs12 w12 (fun w24 K24 => D (Instr.build 25 #[(0, c30_17), (1, c36_23)]) w24 K24 X) (fun c37_24 ψ24 =>
 NdOp Rb12 Rs12 w12 (fun w25 K25 => D (Instr.alloc 25 true (.tuple #[])) w25 K25 X) (fun v6_25 φ25 =>
 ∀ w26, Rb12 w12 w26 → ((((((((((((True ∧ ψ13 w26) ∧ ψ14 w26) ∧ ψ15 w26) ∧ ψ16 w26) ∧ ψ17 w26) ∧ ψ18 w26) ∧ ψ19 w26) ∧ ψ20 w26) ∧ ψ21 w26) ∧ ψ22 w26) ∧ ψ23 w26) ∧ ψ24 w26) ∧ φ25 w26 →
 U (S 25 v6_25 c37_24) w26 (fun _ w27 =>
 DrawE w27 (fun Rs28 Rb28 w28 =>
 DetOp Rb28 Rs28 w28 (fun w29 K29 => D (L 79 t1) w29 K29 X) (fun c38_29 ψ29 =>
 DetOp Rb28 Rs28 w28 (fun w30 K30 => D (L 79 t1) w30 K30 X) (fun c39_30 ψ30 =>
 DetOp Rb28 Rs28 w28 (fun w31 K31 => NilC Tryz.prog c39_30 w31 K31 X) (fun c40_31 ψ31 =>
 DetOp Rb28 Rs28 w28 (fun w32 K32 => D (F 57 c40_31 0) w32 K32 X) (fun c41_32 ψ32 =>
 DetOp Rb28 Rs28 w28 (fun w33 K33 => D (F 28 c41_32 4) w33 K33 X) (fun c42_33 ψ33 =>
 DetOp Rb28 Rs28 w28 (fun w34 K34 => D (L 3 c42_33) w34 K34 X) (fun c43_34 ψ34 =>
 DetOp Rb28 Rs28 w28 (fun w35 K35 => D (binS J 3 (T 43) (C (I 0)) c43_34 (I 0)) w35 K35 X) (fun c44_35 ψ35 =>
 ∀ w36, Rb28 w28 w36 → (((((((True ∧ ψ29 w36) ∧ ψ30 w36) ∧ ψ31 w36) ∧ ψ32 w36) ∧ ψ33 w36) ∧ ψ34 w36) ∧ ψ35 w36) →
 NilC Tryz.prog c38_29 w36 (fun t37 w37 =>
 D (F 57 t37 3) w37 (fun t38 w38 =>
 U (S 4 t38 c44_35) w38 (fun _ w39 =>
 B Builtin.len #[68] 3 #[false] #[t8] w39 (fun t40 w40 =>
 LoopE [7, 8, 49] [(I 0), (Value.slice none 0 0), (I 0)] w40 (fun h41 w41 K41 =>
 D (binS BinOp.lss 3 (T 49) (T 48) (h41 49) t40) w41 (fun t42 w42 =>
 Br t42
(JoinE [7, 8] (fun K43 =>
 D (Instr.indexAt 68 t8 (h41 49)) w42 (fun t44 w44 =>
 D (L 64 t44) w44 (fun t45 w45 =>
 D (Instr.alloc 64 true (.tuple #[])) w45 (fun t46 w46 =>
 U (S 64 t46 t45) w46 (fun _ w47 =>
 D (L 64 t46) w47 (fun t48 w48 =>
 Q 49 #[(Value.slice none 0 0), t48] w48 (fun t49 w49 =>
 D (E t49 0) w49 (fun t50 w50 =>
 D (E t49 1) w50 (fun _ w51 =>
 B Builtin.len #[26] 3 #[false] #[t50] w51 (fun t52 w52 =>
 D (binS BinOp.add 3 (T 58) (T 60) (h41 7) t52) w52 (fun t53 w53 =>
 JoinE [] (fun K54 =>
 DrawE w53 (fun Rs55 Rb55 w55 =>
 DetOp Rb55 Rs55 w55 (fun w56 K56 => D (L 79 t1) w56 K56 X) (fun c62_56 ψ56 =>
 DetOp Rb55 Rs55 w55 (fun w57 K57 => D (L 79 t1) w57 K57 X) (fun c63_57 ψ57 =>
 DetOp Rb55 Rs55 w55 (fun w58 K58 => NilC Tryz.prog c63_57 w58 K58 X) (fun c64_58 ψ58 =>
 DetOp Rb55 Rs55 w55 (fun w59 K59 => D (F 57 c64_58 3) w59 K59 X) (fun c65_59 ψ59 =>
 DetOp Rb55 Rs55 w55 (fun w60 K60 => D (L 4 c65_59) w60 K60 X) (fun c66_60 ψ60 =>
 Gd c66_60 false (DetOp Rb55 Rs55 w55 (fun w61 K61 => D (L 79 t1) w61 K61 X) (fun c69_61 ψ61 =>
 DetOp Rb55 Rs55 w55 (fun w62 K62 => NilC Tryz.prog c69_61 w62 K62 X) (fun c70_62 ψ62 =>
 DetOp Rb55 Rs55 w55 (fun w63 K63 => D (F 57 c70_62 0) w63 K63 X) (fun c71_63 ψ63 =>
 DetOp Rb55 Rs55 w55 (fun w64 K64 => D (F 28 c71_63 4) w64 K64 X) (fun c72_64 ψ64 =>
 DetOp Rb55 Rs55 w55 (fun w65 K65 => D (L 3 c72_64) w65 K65 X) (fun c73_65 ψ65 =>
 DetOp Rb55 Rs55 w55 (fun w66 K66 => D (binS J 3 (T 68) (T 73) t53 c73_65) w66 K66 X) (fun c74_66 ψ66 =>
 ∀ w67, Rb55 w55 w67 → (((((((((((True ∧ ψ56 w67) ∧ ψ57 w67) ∧ ψ58 w67) ∧ ψ59 w67) ∧ ψ60 w67) ∧ ψ61 w67) ∧ ψ62 w67) ∧ ψ63 w67) ∧ ψ64 w67) ∧ ψ65 w67) ∧ ψ66 w67) →
 NilC Tryz.prog c62_56 w67 (fun t68 w68 =>
 D (F 57 t68 3) w68 (fun t69 w69 =>
 U (S 4 t69 c74_66) w69 (fun _ w70 =>
 K54 [] w70) X) X) X)))))))
(∀ w71, Rb55 w55 w71 → (((((True ∧ ψ56 w71) ∧ ψ57 w71) ∧ ψ58 w71) ∧ ψ59 w71) ∧ ψ60 w71) →
 NilC Tryz.prog c62_56 w71 (fun t72 w72 =>
 D (F 57 t72 3) w72 (fun t73 w73 =>
 U (S 4 t73 (V true)) w73 (fun _ w74 =>
 K54 [] w74) X) X) X))))))))
(fun _ w75 =>
 D (F 64 t46 0) w75 (fun t76 w76 =>
 D (L 3 t76) w76 (fun t77 w77 =>
 D (binS J 3 (T 80) (C (I 1)) t77 (I 1)) w77 (fun t78 w78 =>
 Br t78
(D (F 25 v6_25 2) w78 (fun t79 w79 =>
 D (L 23 t79) w79 (fun t80 w80 =>
 D (F 64 t46 1) w80 (fun t81 w81 =>
 D (L 38 t81) w81 (fun t82 w82 =>
 D (Instr.buildSlice 23 1 #[(0, t82)]) w82 (fun t83 w83 =>
 B Builtin.append #[23, 23] 23 #[false, false] #[t80, t83] w83 (fun t84 w84 =>
 D (F 25 v6_25 2) w84 (fun t85 w85 =>
 U (S 23 t85 t84) w85 (fun _ w86 =>
 K43 [t53, (h41 8)] w86) X) X) X) X) X) X) X) X)
(D (F 64 t46 2) w78 (fun t87 w87 =>
 D (L 3 t87) w87 (fun t88 w88 =>
 D (F 25 v6_25 2) w88 (fun t89 w89 =>
 D (L 23 t89) w89 (fun t90 w90 =>
 B Builtin.len #[23] 3 #[false] #[t90] w90 (fun t91 w91 =>
 D (binS J 3 (T 91) (T 94) t88 t91) w91 (fun t92 w92 =>
 Br t92
(D (L 64 t46) w92 (fun t93 w93 =>
 D (Instr.buildSlice 68 1 #[(0, t93)]) w93 (fun t94 w94 =>
 B Builtin.append #[68, 68] 68 #[false, false] #[(h41 8), t94] w94 (fun t95 w95 =>
 K43 [t53, t95] w95) X) X) X)
(R (.returned (V false)) w92)) X) X) X) X) X) X)) X) X) X)) X) X) X) X) X) X) X) X) X) X)
(fun h96 w96 =>
 D (binS BinOp.add 3 (T 49) (C (I 1)) (h41 49) (I 1)) w96 (fun t97 w97 =>
 K41 [(h96 7), (h96 8), t97] w97) X))
(D (L 25 v6_25) w42 (fun t98 w98 =>
 Q 46 #[t98] w98 (fun t99 w99 =>
 D (Op.unary UnOp.not t99) w99 (fun t100 w100 =>
 Br t100
(R (.returned (V false)) w100)
(DrawE w100 (fun Rs101 Rb101 w101 =>
 DetOp Rb101 Rs101 w101 (fun w102 K102 => D (L 79 t1) w102 K102 X) (fun c104_102 ψ102 =>
 DetOp Rb101 Rs101 w101 (fun w103 K103 => D (L 79 t1) w103 K103 X) (fun c105_103 ψ103 =>
 DetOp Rb101 Rs101 w101 (fun w104 K104 => D (F 25 v6_25 2) w104 K104 X) (fun c106_104 ψ104 =>
 DetOp Rb101 Rs101 w101 (fun w105 K105 => D (L 23 c106_104) w105 K105 X) (fun c107_105 ψ105 =>
 DetOp Rb101 Rs101 w101 (fun w106 K106 => NilC Tryz.prog c104_102 w106 K106 X) (fun c109_106 ψ106 =>
 DetOp Rb101 Rs101 w101 (fun w107 K107 => D (F 57 c109_106 1) w107 K107 X) (fun c110_107 ψ107 =>
 DetOp Rb101 Rs101 w101 (fun w108 K108 => U (S 23 c110_107 c107_105) w108 K108 X) (fun c_108 ψ108 =>
 ∀ w109, Rb101 w101 w109 → (((((((True ∧ ψ102 w109) ∧ ψ103 w109) ∧ ψ104 w109) ∧ ψ105 w109) ∧ ψ106 w109) ∧ ψ107 w109) ∧ ψ108 w109) →
 NilC Tryz.prog c105_103 w109 (fun t110 w110 =>
 D (F 57 t110 2) w110 (fun t111 w111 =>
 U (S 3 t111 t9) w111 (fun _ w112 =>
 D (Instr.makeFunc (Fn.func 72) #[] #[t1]) w112 (fun t113 w113 =>
 Q 73 #[(h41 8), t113] w113 (fun t114 w114 =>
 D (Op.unary UnOp.not t114) w114 (fun t115 w115 =>
 R (.returned t115) w115) X) X) X) X) X) X)))))))))) X) X) X)) X)) X) X) X) X))))))))) X)))))))))))))))) X) X) X) X) X) X) X) X) X) X) X)
theorem sh_vehicle_memory_read_ok (v0 : Value) (h : sh_vehicle_memory_read v0 R w) : Calls Tryz.prog 47 #[v0] w R :=
  calls_of_vc (c := Tryz.f47.body.getD .skip) (args := [v0]) [(4, 12, true, 0), (5, 7, false, 0), (13, 14, false, 0), (22, 8, false, 0)] [7, 8, 49] follows_mixed Tryz.func47 rfl (of_decide_eq_true (by kernel_rfl)) (by kernel_rfl) (Eq.mp (by kernel_rfl) h)
def sh_slices_Equal___api_Entry_api_Entry_ (v0 v1 : Value) (R : Ending → World → Prop) (w : World) : Prop := 
 letI X := Pan R
 letI D := DoV Tryz.prog
 letI B := CallB Tryz.prog
 letI I := Value.int IntKind.i64
 letI T := Operand.tmp
 letI V := Value.bool
(B Builtin.len #[23] 3 #[false] #[v0] w (fun t1 w1 =>
 B Builtin.len #[23] 3 #[false] #[v1] w1 (fun t2 w2 =>
 D (binS BinOp.neq 3 (T 7) (T 9) t1 t2) w2 (fun t3 w3 =>
 Br t3
(R (.returned (V false)) w3)
(B Builtin.len #[23] 3 #[false] #[v0] w3 (fun t4 w4 =>
 LoopE [13] [(I 0)] w4 (fun h5 w5 K5 =>
 D (binS BinOp.lss 3 (T 13) (T 12) (h5 13) t4) w5 (fun t6 w6 =>
 Br t6
(DrawE w6 (fun Rs7 Rb7 w7 =>
 DetOp Rb7 Rs7 w7 (fun w8 K8 => D (Instr.indexAt 23 v0 (h5 13)) w8 K8 X) (fun c18_8 ψ8 =>
 DetOp Rb7 Rs7 w7 (fun w9 K9 => D (Instr.loadAt 38 c18_8) w9 K9 X) (fun c19_9 ψ9 =>
 DetOp Rb7 Rs7 w7 (fun w10 K10 => D (Instr.indexAt 23 v1 (h5 13)) w10 K10 X) (fun c22_10 ψ10 =>
 DetOp Rb7 Rs7 w7 (fun w11 K11 => D (Instr.loadAt 38 c22_10) w11 K11 X) (fun c23_11 ψ11 =>
 ∀ w12, Rb7 w7 w12 → ((((True ∧ ψ8 w12) ∧ ψ9 w12) ∧ ψ10 w12) ∧ ψ11 w12) →
 D (binS BinOp.neq 38 (T 19) (T 23) c19_9 c23_11) w12 (fun t13 w13 =>
 Br t13
(R (.returned (V false)) w13)
(D (binS BinOp.add 3 (T 13) (Operand.const (I 1)) (h5 13) (I 1)) w13 (fun t14 w14 =>
 K5 [t14] w14) X)) X))))))
(R (.returned (V true)) w6)) X)) X)) X) X) X)
theorem sh_slices_Equal___api_Entry_api_Entry__ok (v0 v1 : Value) (h : sh_slices_Equal___api_Entry_api_Entry_ v0 v1 R w) : Calls Tryz.prog 48 #[v0, v1] w R :=
  calls_of_vc (c := Tryz.f48.body.getD .skip) (args := [v0, v1]) [(6, 8, false, 0)] [13] follows_mixed Tryz.func48 rfl (of_decide_eq_true (by kernel_rfl)) (by kernel_rfl) (Eq.mp (by kernel_rfl) h)
def sh_report_Chain (v0 v1 : Value) (R : Ending → World → Prop) (w : World) : Prop := 
 letI X := Pan R
 letI D := DoV Tryz.prog
 letI Q := CallF Tryz.prog
 letI I := Value.int IntKind.i64
 letI T := Operand.tmp
 letI L := Instr.loadAt
 letI F := Instr.fieldAt
(D (Instr.box 25 v0) w (fun t1 w1 =>
 JoinE [] (fun K2 =>
 JoinE [19] (fun K3 =>
 D (L 25 t1) w1 (fun t4 w4 =>
 Q 46 #[t4] w4 (fun t5 w5 =>
 D (Op.unary UnOp.not t5) w5 (fun t6 w6 =>
 Gd t6 false (D (binS BinOp.lss 3 (T 10) (Operand.const (I 0)) v1 (I 0)) w6 (fun t7 w7 =>
 Gd t7 false (D (F 25 t1 2) w7 (fun t8 w8 =>
 D (L 23 t8) w8 (fun t9 w9 =>
 CallB Tryz.prog Builtin.len #[23] 3 #[false] #[t9] w9 (fun t10 w10 =>
 D (binS BinOp.gtr 3 (T 14) (T 17) v1 t10) w10 (fun t11 w11 =>
 K3 [t11] w11) X) X) X) X)
(K3 [(Value.bool true)] w7)) X)
(K3 [(Value.bool true)] w6)) X) X) X)
(fun h12 w12 =>
 Br (h12 19)
(R (.returned (Value.tuple #[(Value.int IntKind.u64 0), (I 1)])) w12)
(K2 [] w12)))
(fun _ w13 =>
 DrawR w13 (fun R14 S14 w14 =>
 DetOp R14 (Both R14 S14) w14 (fun w15 K15 => D (F 25 t1 2) w15 K15 X) (fun c20_15 ψ15 =>
 DetOp R14 (Both R14 S14) w14 (fun w16 K16 => D (L 23 c20_15) w16 K16 X) (fun c21_16 ψ16 =>
 DetOp R14 (Both R14 S14) w14 (fun w17 K17 => D (Instr.sliceAt 23 c21_16 none (some v1) none) w17 K17 X) (fun c23_17 ψ17 =>
 DetOp R14 (Both R14 S14) w14 (fun w18 K18 => D (F 25 t1 0) w18 K18 X) (fun c24_18 ψ18 =>
 DetOp R14 (Both R14 S14) w14 (fun w19 K19 => D (L 3 c24_18) w19 K19 X) (fun c25_19 ψ19 =>
 ThrE R14 S14 0 w14 (fun Θ14_0 T14_0 =>
 NdC R14 S14 0 w14 Θ14_0 (fun w20 K20 => D (Instr.buildSlice 91 1 #[(0, c25_19)]) w20 K20 X) (fun v26_20 φ20 =>
 NdC R14 S14 0 w14 φ20 (fun w21 K21 => Q 78 #[v26_20] w21 K21 X) (fun v27_21 φ21 =>
 T14_0 [v26_20, v27_21] φ21))) (fun Φ14_0 =>
 ∀ (h22 : Nat → Value) (w23 : World), R14 w14 w23 → (((((True ∧ ψ15 w23) ∧ ψ16 w23) ∧ ψ17 w23) ∧ ψ18 w23) ∧ ψ19 w23) ∧ (True ∧ Φ14_0 [(h22 26), (h22 27)] w23) →
 Q 77 #[c23_17, (h22 27)] w23 (fun t24 w24 =>
 R (.returned (Value.tuple #[t24, (I 0)])) w24) X))))))))) X)
theorem sh_report_Chain_ok (v0 v1 : Value) (h : sh_report_Chain v0 v1 R w) : Calls Tryz.prog 50 #[v0, v1] w R :=
  calls_of_vc (c := Tryz.f50.body.getD .skip) (args := [v0, v1]) [(3, 8, false, 2360296)] [] follows_mixed Tryz.func50 rfl (of_decide_eq_true (by kernel_rfl)) (by kernel_rfl) (Eq.mp (by kernel_rfl) h)
def sh_landfallref24_in (v0 v1 v2 : Value) (R : Ending → World → Prop) (w : World) : Prop := 
 letI T := Operand.tmp
(DoV Tryz.prog (binS BinOp.geq 3 (T 7) (T 8) v0 v1) w (fun t1 w1 =>
 Gd t1 true (DoV Tryz.prog (binS BinOp.leq 3 (T 11) (T 12) v0 v2) w1 (fun t2 w2 =>
 R (.returned t2) w2) (Pan R))
(R (.returned (Value.bool false)) w1)) (Pan R))
theorem sh_landfallref24_in_ok (v0 v1 v2 : Value) (h : sh_landfallref24_in v0 v1 v2 R w) : Calls Tryz.prog 51 #[v0, v1, v2] w R :=
  calls_of_vc (c := Tryz.f51.body.getD .skip) (args := [v0, v1, v2]) [] [] follows_mixed Tryz.func51 rfl (of_decide_eq_true (by kernel_rfl)) (by kernel_rfl) (Eq.mp (by kernel_rfl) h)
def sh_landfallref24_Follow (v0 v1 : Value) (R : Ending → World → Prop) (w : World) : Prop := 
 letI X := Pan R
 letI D := DoV Tryz.prog
 letI B := CallB Tryz.prog
 letI I := Value.int IntKind.i64
 letI T := Operand.tmp
 letI C := Operand.const
 letI L := Instr.loadAt
 letI F := Instr.fieldAt
 letI A := Instr.indexAt
 letI V := Value.bool
(LoopE [5] [(I 0)] w (fun h1 w1 K1 =>
 B Builtin.len #[23] 3 #[false] #[v0] w1 (fun t2 w2 =>
 D (binS BinOp.lss 3 (T 6) (T 8) (h1 5) t2) w2 (fun t3 w3 =>
 Br t3
(JoinE [] (fun K4 =>
 JoinE [46] (fun K5 =>
 DrawE w3 (fun Rs6 Rb6 w6 =>
 DetOp Rb6 Rs6 w6 (fun w7 K7 => D (A 23 v0 (h1 5)) w7 K7 X) (fun c14_7 ψ7 =>
 DetOp Rb6 Rs6 w6 (fun w8 K8 => D (L 38 c14_7) w8 K8 X) (fun c15_8 ψ8 =>
 DetOp Rs6 Rb6 w6 (fun w9 K9 => CallF Tryz.prog 14 #[c15_8] w9 K9 X) (fun c16_9 ψ9 =>
 DetOp Rb6 Rs6 w6 (fun w10 K10 => D (Op.unary UnOp.not c16_9) w10 K10 X) (fun c17_10 ψ10 =>
 Gd c17_10 false (DetOp Rb6 Rs6 w6 (fun w11 K11 => D (A 23 v0 (h1 5)) w11 K11 X) (fun c21_11 ψ11 =>
 DetOp Rb6 Rs6 w6 (fun w12 K12 => D (F 38 c21_11 0) w12 K12 X) (fun c22_12 ψ12 =>
 DetOp Rb6 Rs6 w6 (fun w13 K13 => D (L 3 c22_12) w13 K13 X) (fun c23_13 ψ13 =>
 DetOp Rb6 Rs6 w6 (fun w14 K14 => D (binS BinOp.add 3 (T 24) (T 25) v1 (h1 5)) w14 K14 X) (fun c26_14 ψ14 =>
 DetOp Rb6 Rs6 w6 (fun w15 K15 => D (binS BinOp.neq 3 (T 23) (T 26) c23_13 c26_14) w15 K15 X) (fun c27_15 ψ15 =>
 Gd c27_15 false (DetOp Rb6 Rs6 w6 (fun w16 K16 => D (binS BinOp.gtr 3 (T 30) (C (I 0)) (h1 5) (I 0)) w16 K16 X) (fun c31_16 ψ16 =>
 Gd c31_16 true (DetOp Rb6 Rs6 w6 (fun w17 K17 => D (A 23 v0 (h1 5)) w17 K17 X) (fun c35_17 ψ17 =>
 DetOp Rb6 Rs6 w6 (fun w18 K18 => D (F 38 c35_17 1) w18 K18 X) (fun c36_18 ψ18 =>
 DetOp Rb6 Rs6 w6 (fun w19 K19 => D (L 3 c36_18) w19 K19 X) (fun c37_19 ψ19 =>
 DetOp Rb6 Rs6 w6 (fun w20 K20 => D (binS BinOp.sub 3 (T 39) (C (I 1)) (h1 5) (I 1)) w20 K20 X) (fun c40_20 ψ20 =>
 DetOp Rb6 Rs6 w6 (fun w21 K21 => D (A 23 v0 c40_20) w21 K21 X) (fun c41_21 ψ21 =>
 DetOp Rb6 Rs6 w6 (fun w22 K22 => D (F 38 c41_21 1) w22 K22 X) (fun c42_22 ψ22 =>
 DetOp Rb6 Rs6 w6 (fun w23 K23 => D (L 3 c42_22) w23 K23 X) (fun c43_23 ψ23 =>
 ∀ w24, Rb6 w6 w24 → (((((((((((((((((True ∧ ψ7 w24) ∧ ψ8 w24) ∧ ψ9 w24) ∧ ψ10 w24) ∧ ψ11 w24) ∧ ψ12 w24) ∧ ψ13 w24) ∧ ψ14 w24) ∧ ψ15 w24) ∧ ψ16 w24) ∧ ψ17 w24) ∧ ψ18 w24) ∧ ψ19 w24) ∧ ψ20 w24) ∧ ψ21 w24) ∧ ψ22 w24) ∧ ψ23 w24) →
 D (binS BinOp.lss 3 (T 37) (T 43) c37_19 c43_23) w24 (fun t25 w25 =>
 K5 [t25] w25) X))))))))
(∀ w26, Rb6 w6 w26 → ((((((((((True ∧ ψ7 w26) ∧ ψ8 w26) ∧ ψ9 w26) ∧ ψ10 w26) ∧ ψ11 w26) ∧ ψ12 w26) ∧ ψ13 w26) ∧ ψ14 w26) ∧ ψ15 w26) ∧ ψ16 w26) →
 K5 [(V false)] w26)))
(∀ w27, Rb6 w6 w27 → (((((((((True ∧ ψ7 w27) ∧ ψ8 w27) ∧ ψ9 w27) ∧ ψ10 w27) ∧ ψ11 w27) ∧ ψ12 w27) ∧ ψ13 w27) ∧ ψ14 w27) ∧ ψ15 w27) →
 K5 [(V true)] w27)))))))
(∀ w28, Rb6 w6 w28 → ((((True ∧ ψ7 w28) ∧ ψ8 w28) ∧ ψ9 w28) ∧ ψ10 w28) →
 K5 [(V true)] w28)))))))
(fun h29 w29 =>
 Br (h29 46)
(R (.returned (V false)) w29)
(K4 [] w29)))
(fun _ w30 =>
 D (binS BinOp.add 3 (T 10) (C (I 1)) (h1 5) (I 1)) w30 (fun t31 w31 =>
 K1 [t31] w31) X))
(B Builtin.len #[23] 3 #[false] #[v0] w3 (fun t32 w32 =>
 D (binS BinOp.leq 3 (T 48) (C (I 2000)) t32 (I 2000)) w32 (fun t33 w33 =>
 R (.returned t33) w33) X) X)) X) X))
theorem sh_landfallref24_Follow_ok (v0 v1 : Value) (h : sh_landfallref24_Follow v0 v1 R w) : Calls Tryz.prog 52 #[v0, v1] w R :=
  calls_of_vc (c := Tryz.f52.body.getD .skip) (args := [v0, v1]) [(4, 32, false, 5)] [5] follows_mixed Tryz.func52 rfl (of_decide_eq_true (by kernel_rfl)) (by kernel_rfl) (Eq.mp (by kernel_rfl) h)
def sh_landfallref41_Chained (v0 v1 : Value) (R : Ending → World → Prop) (w : World) : Prop := 
 letI X := Pan R
 letI D := DoV Tryz.prog
 letI Q := CallF Tryz.prog
 letI I := Value.int IntKind.i64
 letI T := Operand.tmp
 letI L := Instr.loadAt
 letI F := Instr.fieldAt
 letI A := Instr.indexAt
(Q 45 #[v1] w (fun t1 w1 =>
 LoopE [5, 6] [t1, (I 0)] w1 (fun h2 w2 K2 =>
 CallB Tryz.prog Builtin.len #[68] 3 #[false] #[v0] w2 (fun t3 w3 =>
 D (binS BinOp.lss 3 (T 9) (T 11) (h2 6) t3) w3 (fun t4 w4 =>
 Br t4
(JoinE [5] (fun K5 =>
 D (A 68 v0 (h2 6)) w4 (fun t6 w6 =>
 D (F 64 t6 0) w6 (fun t7 w7 =>
 D (L 3 t7) w7 (fun t8 w8 =>
 D (binS BinOp.eql 3 (T 19) (Operand.const (I 2)) t8 (I 2)) w8 (fun t9 w9 =>
 Br t9
(D (A 68 v0 (h2 6)) w9 (fun t10 w10 =>
 D (F 64 t10 3) w10 (fun t11 w11 =>
 D (L 61 t11) w11 (fun t12 w12 =>
 D (binS BinOp.neq 61 (T 25) (T 26) t12 (h2 5)) w12 (fun t13 w13 =>
 Br t13
(R (.returned (Value.bool false)) w13)
(K5 [(h2 5)] w13)) X) X) X) X)
(D (A 68 v0 (h2 6)) w9 (fun t14 w14 =>
 D (F 64 t14 1) w14 (fun t15 w15 =>
 D (L 38 t15) w15 (fun t16 w16 =>
 D (Instr.buildSlice 23 1 #[(0, t16)]) w16 (fun t17 w17 =>
 Q 44 #[(h2 5), t17] w17 (fun t18 w18 =>
 K5 [t18] w18) X) X) X) X) X)) X) X) X) X)
(fun h19 w19 =>
 D (binS BinOp.add 3 (T 13) (Operand.const (I 1)) (h2 6) (I 1)) w19 (fun t20 w20 =>
 K2 [(h19 5), t20] w20) X))
(R (.returned (Value.bool true)) w4)) X) X)) X)
theorem sh_landfallref41_Chained_ok (v0 v1 : Value) (h : sh_landfallref41_Chained v0 v1 R w) : Calls Tryz.prog 54 #[v0, v1] w R :=
  calls_of_vc (c := Tryz.f54.body.getD .skip) (args := [v0, v1]) [] [5, 6] follows_mixed Tryz.func54 rfl (of_decide_eq_true (by kernel_rfl)) (by kernel_rfl) (Eq.mp (by kernel_rfl) h)
def sh_report_Check (v0 v1 : Value) (R : Ending → World → Prop) (w : World) : Prop := 
 letI X := Pan R
 letI D := DoV Tryz.prog
 letI Q := CallF Tryz.prog
 letI I := Value.int IntKind.i64
 letI T := Operand.tmp
 letI L := Instr.loadAt
 letI F := Instr.fieldAt
 letI V := Value.bool
(D (Instr.box 97 v0) w (fun t1 w1 =>
 D (F 97 t1 2) w1 (fun t2 w2 =>
 D (L 23 t2) w2 (fun t3 w3 =>
 JoinE [] (fun K4 =>
 JoinE [26] (fun K5 =>
 D (F 97 t1 0) w3 (fun t6 w6 =>
 D (L 3 t6) w6 (fun t7 w7 =>
 Q 69 #[t7] w7 (fun t8 w8 =>
 D (Op.unary UnOp.not t8) w8 (fun t9 w9 =>
 Gd t9 false (CallB Tryz.prog Builtin.len #[106] 3 #[false] #[t3] w9 (fun t10 w10 =>
 D (binS BinOp.eql 3 (T 17) (Operand.const (I 0)) t10 (I 0)) w10 (fun t11 w11 =>
 Gd t11 false (D (F 97 t1 1) w11 (fun t12 w12 =>
 D (L 3 t12) w12 (fun t13 w13 =>
 Q 70 #[t3, t13] w13 (fun t14 w14 =>
 D (Op.unary UnOp.not t14) w14 (fun t15 w15 =>
 K5 [t15] w15) X) X) X) X)
(K5 [(V true)] w11)) X) X)
(K5 [(V true)] w9)) X) X) X) X)
(fun h16 w16 =>
 Br (h16 26)
(R (.returned (Value.tuple #[(V false), (I 1)])) w16)
(K4 [] w16)))
(fun _ w17 =>
 DrawR w17 (fun R18 S18 w18 =>
 DetOp R18 (Both R18 S18) w18 (fun w19 K19 => D (F 97 t1 5) w19 K19 X) (fun c29_19 ψ19 =>
 DetOp R18 (Both R18 S18) w18 (fun w20 K20 => D (L 95 c29_19) w20 K20 X) (fun c30_20 ψ20 =>
 DetOp R18 (Both R18 S18) w18 (fun w21 K21 => D (L 97 t1) w21 K21 X) (fun c31_21 ψ21 =>
 ThrE R18 S18 0 w18 (fun Θ18_0 T18_0 =>
 NdC R18 S18 0 w18 Θ18_0 (fun w22 K22 => Q 85 #[c31_21] w22 K22 X) (fun v32_22 φ22 =>
 NdC R18 S18 0 w18 φ22 (fun w23 K23 => Q 84 #[v1, c30_20, v32_22] w23 K23 X) (fun v33_23 φ23 =>
 NdC R18 S18 0 w18 φ23 (fun w24 K24 => K24 v33_23 w24) (fun v27_24 φ24 =>
 NdC R18 S18 0 w18 φ24 (fun w25 K25 => D (Instr.extract v27_24 0) w25 K25 X) (fun v34_25 φ25 =>
 NdC R18 S18 0 w18 φ25 (fun w26 K26 => D (Instr.extract v27_24 1) w26 K26 X) (fun v35_26 φ26 =>
 NdC R18 S18 0 w18 φ26 (fun w27 K27 => K27 v34_25 w27) (fun v7_27 φ27 =>
 T18_0 [v32_22, v33_23, v27_24, v34_25, v35_26, v7_27] φ27))))))) (fun Φ18_0 =>
 ∀ (h28 : Nat → Value) (w29 : World), R18 w18 w29 → (((True ∧ ψ19 w29) ∧ ψ20 w29) ∧ ψ21 w29) ∧ (True ∧ Φ18_0 [(h28 32), (h28 33), (h28 27), (h28 34), (h28 35), (h28 7)] w29) →
 DrawE w29 (fun Rs30 Rb30 w30 =>
 Gd (h28 7) true (DetOp Rb30 Rs30 w30 (fun w31 K31 => D (F 97 t1 3) w31 K31 X) (fun c39_31 ψ31 =>
 DetOp Rb30 Rs30 w30 (fun w32 K32 => D (L 61 c39_31) w32 K32 X) (fun c40_32 ψ32 =>
 DetOp Rs30 Rb30 w30 (fun w33 K33 => Q 77 #[t3, c40_32] w33 K33 X) (fun c41_33 ψ33 =>
 DetOp Rb30 Rs30 w30 (fun w34 K34 => D (F 97 t1 4) w34 K34 X) (fun c42_34 ψ34 =>
 DetOp Rb30 Rs30 w30 (fun w35 K35 => D (L 61 c42_34) w35 K35 X) (fun c43_35 ψ35 =>
 DetOp Rb30 Rs30 w30 (fun w36 K36 => D (binS BinOp.eql 61 (T 41) (T 43) c41_33 c43_35) w36 K36 X) (fun c44_36 ψ36 =>
 ∀ w37, Rb30 w30 w37 → ((((((True ∧ ψ31 w37) ∧ ψ32 w37) ∧ ψ33 w37) ∧ ψ34 w37) ∧ ψ35 w37) ∧ ψ36 w37) →
 R (.returned (Value.tuple #[c44_36, (h28 35)])) w37)))))))
(∀ w38, Rb30 w30 w38 → True →
 R (.returned (Value.tuple #[(V false), (h28 35)])) w38))))))))) X) X) X)
theorem sh_report_Check_ok (v0 v1 : Value) (h : sh_report_Check v0 v1 R w) : Calls Tryz.prog 59 #[v0, v1] w R :=
  calls_of_vc (c := Tryz.f59.body.getD .skip) (args := [v0, v1]) [(4, 10, false, 153392104), (5, 12, false, 6)] [] follows_mixed Tryz.func59 rfl (of_decide_eq_true (by kernel_rfl)) (by kernel_rfl) (Eq.mp (by kernel_rfl) h)
def sh_landfallref21_in (v0 v1 v2 : Value) (R : Ending → World → Prop) (w : World) : Prop := 
 letI T := Operand.tmp
(DoV Tryz.prog (binS BinOp.geq 3 (T 7) (T 8) v0 v1) w (fun t1 w1 =>
 Gd t1 true (DoV Tryz.prog (binS BinOp.leq 3 (T 11) (T 12) v0 v2) w1 (fun t2 w2 =>
 R (.returned t2) w2) (Pan R))
(R (.returned (Value.bool false)) w1)) (Pan R))
theorem sh_landfallref21_in_ok (v0 v1 v2 : Value) (h : sh_landfallref21_in v0 v1 v2 R w) : Calls Tryz.prog 60 #[v0, v1, v2] w R :=
  calls_of_vc (c := Tryz.f60.body.getD .skip) (args := [v0, v1, v2]) [] [] follows_mixed Tryz.func60 rfl (of_decide_eq_true (by kernel_rfl)) (by kernel_rfl) (Eq.mp (by kernel_rfl) h)
def sh_landfallref21_span (v0 v1 v2 : Value) (R : Ending → World → Prop) (w : World) : Prop := 
 letI X := Pan R
 letI D := DoV Tryz.prog
 letI L := Instr.loadAt
 letI F := Instr.fieldAt
(D (Instr.box 36 v0) w (fun t1 w1 =>
 D (F 36 t1 0) w1 (fun t2 w2 =>
 D (L 3 t2) w2 (fun t3 w3 =>
 D (F 36 t1 1) w3 (fun t4 w4 =>
 D (L 3 t4) w4 (fun t5 w5 =>
 CallF Tryz.prog 60 #[t3, v1, t5] w5 (fun t6 w6 =>
 Gd t6 true (D (F 36 t1 1) w6 (fun t7 w7 =>
 D (L 3 t7) w7 (fun t8 w8 =>
 D (binS BinOp.leq 3 (Operand.tmp 15) (Operand.tmp 16) t8 v2) w8 (fun t9 w9 =>
 R (.returned t9) w9) X) X) X)
(R (.returned (Value.bool false)) w6)) X) X) X) X) X) X)
theorem sh_landfallref21_span_ok (v0 v1 v2 : Value) (h : sh_landfallref21_span v0 v1 v2 R w) : Calls Tryz.prog 61 #[v0, v1, v2] w R :=
  calls_of_vc (c := Tryz.f61.body.getD .skip) (args := [v0, v1, v2]) [] [] follows_mixed Tryz.func61 rfl (of_decide_eq_true (by kernel_rfl)) (by kernel_rfl) (Eq.mp (by kernel_rfl) h)
def sh_region_invalid (v0 : Value) (R : Ending → World → Prop) (w : World) : Prop := 
(CallF Tryz.prog 86 #[v0, (Value.func (Fn.func 87) #[] #[])] w (fun t1 w1 =>
 R (.returned t1) w1) (Pan R))
theorem sh_region_invalid_ok (v0 : Value) (h : sh_region_invalid v0 R w) : Calls Tryz.prog 62 #[v0] w R :=
  calls_of_vc (c := Tryz.f62.body.getD .skip) (args := [v0]) [] [] follows_mixed Tryz.func62 rfl (of_decide_eq_true (by kernel_rfl)) (by kernel_rfl) (Eq.mp (by kernel_rfl) h)
def sh_landfallref07_polygons (v0 : Value) (R : Ending → World → Prop) (w : World) : Prop := 
 letI X := Pan R
 letI D := DoV Tryz.prog
 letI I := Value.int IntKind.i64
 letI T := Operand.tmp
(LoopE [3] [(I 0)] w (fun h1 w1 K1 =>
 CallB Tryz.prog Builtin.len #[22] 3 #[false] #[v0] w1 (fun t2 w2 =>
 D (binS BinOp.lss 3 (T 5) (T 7) (h1 3) t2) w2 (fun t3 w3 =>
 Br t3
(D (Instr.indexAt 22 v0 (h1 3)) w3 (fun t4 w4 =>
 D (Instr.loadAt 53 t4) w4 (fun t5 w5 =>
 CallF Tryz.prog 89 #[t5] w5 (fun t6 w6 =>
 D (Op.unary UnOp.not t6) w6 (fun t7 w7 =>
 Br t7
(R (.returned (Value.bool false)) w7)
(D (binS BinOp.add 3 (T 9) (Operand.const (I 1)) (h1 3) (I 1)) w7 (fun t8 w8 =>
 K1 [t8] w8) X)) X) X) X) X)
(R (.returned (Value.bool true)) w3)) X) X))
theorem sh_landfallref07_polygons_ok (v0 : Value) (h : sh_landfallref07_polygons v0 R w) : Calls Tryz.prog 63 #[v0] w R :=
  calls_of_vc (c := Tryz.f63.body.getD .skip) (args := [v0]) [] [3] follows_mixed Tryz.func63 rfl (of_decide_eq_true (by kernel_rfl)) (by kernel_rfl) (Eq.mp (by kernel_rfl) h)
def sh_landfallref07_Same (v0 v1 : Value) (R : Ending → World → Prop) (w : World) : Prop := 
 letI X := Pan R
 letI D := DoV Tryz.prog
 letI B := CallB Tryz.prog
 letI I := Value.int IntKind.i64
 letI T := Operand.tmp
 letI V := Value.bool
(B Builtin.len #[22] 3 #[false] #[v0] w (fun t1 w1 =>
 B Builtin.len #[22] 3 #[false] #[v1] w1 (fun t2 w2 =>
 D (binS BinOp.neq 3 (T 8) (T 10) t1 t2) w2 (fun t3 w3 =>
 Br t3
(R (.returned (V false)) w3)
(LoopE [5] [(I 0)] w3 (fun h4 w4 K4 =>
 B Builtin.len #[22] 3 #[false] #[v0] w4 (fun t5 w5 =>
 D (binS BinOp.lss 3 (T 12) (T 14) (h4 5) t5) w5 (fun t6 w6 =>
 Br t6
(DrawE w6 (fun Rs7 Rb7 w7 =>
 DetOp Rb7 Rs7 w7 (fun w8 K8 => D (Instr.indexAt 22 v0 (h4 5)) w8 K8 X) (fun c20_8 ψ8 =>
 DetOp Rb7 Rs7 w7 (fun w9 K9 => D (Instr.loadAt 53 c20_8) w9 K9 X) (fun c21_9 ψ9 =>
 DetOp Rb7 Rs7 w7 (fun w10 K10 => D (Instr.indexAt 22 v1 (h4 5)) w10 K10 X) (fun c24_10 ψ10 =>
 DetOp Rb7 Rs7 w7 (fun w11 K11 => D (Instr.loadAt 53 c24_10) w11 K11 X) (fun c25_11 ψ11 =>
 ∀ w12, Rb7 w7 w12 → ((((True ∧ ψ8 w12) ∧ ψ9 w12) ∧ ψ10 w12) ∧ ψ11 w12) →
 CallF Tryz.prog 90 #[c21_9, c25_11] w12 (fun t13 w13 =>
 D (Op.unary UnOp.not t13) w13 (fun t14 w14 =>
 Br t14
(R (.returned (V false)) w14)
(D (binS BinOp.add 3 (T 16) (Operand.const (I 1)) (h4 5) (I 1)) w14 (fun t15 w15 =>
 K4 [t15] w15) X)) X) X))))))
(R (.returned (V true)) w6)) X) X))) X) X) X)
theorem sh_landfallref07_Same_ok (v0 v1 : Value) (h : sh_landfallref07_Same v0 v1 R w) : Calls Tryz.prog 64 #[v0, v1] w R :=
  calls_of_vc (c := Tryz.f64.body.getD .skip) (args := [v0, v1]) [(6, 8, false, 0)] [5] follows_mixed Tryz.func64 rfl (of_decide_eq_true (by kernel_rfl)) (by kernel_rfl) (Eq.mp (by kernel_rfl) h)
def sh_landfallref24_Ints (v0 : Value) (R : Ending → World → Prop) (w : World) : Prop := 
 letI X := Pan R
 letI D := DoV Tryz.prog
 letI L := Instr.loadAt
 letI F := Instr.fieldAt
(D (Instr.box 38 v0) w (fun t1 w1 =>
 D (F 38 t1 0) w1 (fun t2 w2 =>
 D (L 3 t2) w2 (fun t3 w3 =>
 D (F 38 t1 1) w3 (fun t4 w4 =>
 D (L 3 t4) w4 (fun t5 w5 =>
 D (F 38 t1 2) w5 (fun t6 w6 =>
 D (L 3 t6) w6 (fun t7 w7 =>
 D (F 38 t1 3) w7 (fun t8 w8 =>
 D (L 3 t8) w8 (fun t9 w9 =>
 D (F 38 t1 4) w9 (fun t10 w10 =>
 D (L 3 t10) w10 (fun t11 w11 =>
 D (F 38 t1 5) w11 (fun t12 w12 =>
 D (L 3 t12) w12 (fun t13 w13 =>
 D (F 38 t1 6) w13 (fun t14 w14 =>
 D (L 3 t14) w14 (fun t15 w15 =>
 D (F 38 t1 7) w15 (fun t16 w16 =>
 D (F 36 t16 0) w16 (fun t17 w17 =>
 D (L 3 t17) w17 (fun t18 w18 =>
 D (F 38 t1 7) w18 (fun t19 w19 =>
 D (F 36 t19 1) w19 (fun t20 w20 =>
 D (L 3 t20) w20 (fun t21 w21 =>
 D (F 38 t1 8) w21 (fun t22 w22 =>
 D (L 3 t22) w22 (fun t23 w23 =>
 D (F 38 t1 9) w23 (fun t24 w24 =>
 D (L 3 t24) w24 (fun t25 w25 =>
 D (F 38 t1 10) w25 (fun t26 w26 =>
 D (L 3 t26) w26 (fun t27 w27 =>
 D (Instr.buildSlice 91 12 #[(0, t3), (1, t5), (2, t7), (3, t9), (4, t11), (5, t13), (6, t15), (7, t18), (8, t21), (9, t23), (10, t25), (11, t27)]) w27 (fun t28 w28 =>
 R (.returned t28) w28) X) X) X) X) X) X) X) X) X) X) X) X) X) X) X) X) X) X) X) X) X) X) X) X) X) X) X) X)
theorem sh_landfallref24_Ints_ok (v0 : Value) (h : sh_landfallref24_Ints v0 R w) : Calls Tryz.prog 67 #[v0] w R :=
  calls_of_vc (c := Tryz.f67.body.getD .skip) (args := [v0]) [] [] follows_mixed Tryz.func67 rfl (of_decide_eq_true (by kernel_rfl)) (by kernel_rfl) (Eq.mp (by kernel_rfl) h)
def sh_report_isID (v0 : Value) (R : Ending → World → Prop) (w : World) : Prop := 
 letI I := Value.int IntKind.i64
(DoV Tryz.prog (binS BinOp.leq 3 (Operand.const (I 1)) (Operand.tmp 3) (I 1) v0) w (fun t1 w1 =>
 Gd t1 true (DoV Tryz.prog (binS BinOp.leq 3 (Operand.tmp 6) (Operand.const (I 1000000)) v0 (I 1000000)) w1 (fun t2 w2 =>
 R (.returned t2) w2) (Pan R))
(R (.returned (Value.bool false)) w1)) (Pan R))
theorem sh_report_isID_ok (v0 : Value) (h : sh_report_isID v0 R w) : Calls Tryz.prog 69 #[v0] w R :=
  calls_of_vc (c := Tryz.f69.body.getD .skip) (args := [v0]) [] [] follows_mixed Tryz.func69 rfl (of_decide_eq_true (by kernel_rfl)) (by kernel_rfl) (Eq.mp (by kernel_rfl) h)
def sh__report_entries_follow (v0 v1 : Value) (R : Ending → World → Prop) (w : World) : Prop := 
 letI X := Pan R
 letI D := DoV Tryz.prog
 letI B := CallB Tryz.prog
 letI I := Value.int IntKind.i64
 letI T := Operand.tmp
 letI C := Operand.const
 letI L := Instr.loadAt
 letI F := Instr.fieldAt
 letI V := Value.bool
(B Builtin.len #[106] 3 #[false] #[v0] w (fun t1 w1 =>
 LoopE [9] [(I 0)] w1 (fun h2 w2 K2 =>
 D (binS BinOp.lss 3 (T 9) (T 8) (h2 9) t1) w2 (fun t3 w3 =>
 Br t3
(JoinE [] (fun K4 =>
 D (Instr.indexAt 106 v0 (h2 9)) w3 (fun t5 w5 =>
 D (L 38 t5) w5 (fun t6 w6 =>
 D (Instr.alloc 38 true (.tuple #[])) w6 (fun t7 w7 =>
 DoU Tryz.prog (Instr.storeAt 38 t7 t6) w7 (fun _ w8 =>
 JoinE [39] (fun K9 =>
 DrawE w8 (fun Rs10 Rb10 w10 =>
 DetOp Rb10 Rs10 w10 (fun w11 K11 => D (L 38 t7) w11 K11 X) (fun c14_11 ψ11 =>
 DetOp Rs10 Rb10 w10 (fun w12 K12 => CallF Tryz.prog 92 #[c14_11] w12 K12 X) (fun c15_12 ψ12 =>
 DetOp Rb10 Rs10 w10 (fun w13 K13 => D (Op.unary UnOp.not c15_12) w13 K13 X) (fun c16_13 ψ13 =>
 Gd c16_13 false (DetOp Rb10 Rs10 w10 (fun w14 K14 => D (F 38 t7 0) w14 K14 X) (fun c18_14 ψ14 =>
 DetOp Rb10 Rs10 w10 (fun w15 K15 => D (L 3 c18_14) w15 K15 X) (fun c19_15 ψ15 =>
 DetOp Rb10 Rs10 w10 (fun w16 K16 => D (binS BinOp.add 3 (T 20) (T 21) v1 (h2 9)) w16 K16 X) (fun c22_16 ψ16 =>
 DetOp Rb10 Rs10 w10 (fun w17 K17 => D (binS BinOp.neq 3 (T 19) (T 22) c19_15 c22_16) w17 K17 X) (fun c23_17 ψ17 =>
 Gd c23_17 false (DetOp Rb10 Rs10 w10 (fun w18 K18 => D (binS BinOp.gtr 3 (T 26) (C (I 0)) (h2 9) (I 0)) w18 K18 X) (fun c27_18 ψ18 =>
 Gd c27_18 true (DetOp Rb10 Rs10 w10 (fun w19 K19 => D (F 38 t7 1) w19 K19 X) (fun c29_19 ψ19 =>
 DetOp Rb10 Rs10 w10 (fun w20 K20 => D (L 3 c29_19) w20 K20 X) (fun c30_20 ψ20 =>
 DetOp Rb10 Rs10 w10 (fun w21 K21 => D (binS BinOp.sub 3 (T 32) (C (I 1)) (h2 9) (I 1)) w21 K21 X) (fun c33_21 ψ21 =>
 DetOp Rb10 Rs10 w10 (fun w22 K22 => D (Instr.indexAt 106 v0 c33_21) w22 K22 X) (fun c34_22 ψ22 =>
 DetOp Rb10 Rs10 w10 (fun w23 K23 => D (F 38 c34_22 1) w23 K23 X) (fun c35_23 ψ23 =>
 DetOp Rb10 Rs10 w10 (fun w24 K24 => D (L 3 c35_23) w24 K24 X) (fun c36_24 ψ24 =>
 ∀ w25, Rb10 w10 w25 → ((((((((((((((True ∧ ψ11 w25) ∧ ψ12 w25) ∧ ψ13 w25) ∧ ψ14 w25) ∧ ψ15 w25) ∧ ψ16 w25) ∧ ψ17 w25) ∧ ψ18 w25) ∧ ψ19 w25) ∧ ψ20 w25) ∧ ψ21 w25) ∧ ψ22 w25) ∧ ψ23 w25) ∧ ψ24 w25) →
 D (binS BinOp.lss 3 (T 30) (T 36) c30_20 c36_24) w25 (fun t26 w26 =>
 K9 [t26] w26) X)))))))
(∀ w27, Rb10 w10 w27 → ((((((((True ∧ ψ11 w27) ∧ ψ12 w27) ∧ ψ13 w27) ∧ ψ14 w27) ∧ ψ15 w27) ∧ ψ16 w27) ∧ ψ17 w27) ∧ ψ18 w27) →
 K9 [(V false)] w27)))
(∀ w28, Rb10 w10 w28 → (((((((True ∧ ψ11 w28) ∧ ψ12 w28) ∧ ψ13 w28) ∧ ψ14 w28) ∧ ψ15 w28) ∧ ψ16 w28) ∧ ψ17 w28) →
 K9 [(V true)] w28))))))
(∀ w29, Rb10 w10 w29 → (((True ∧ ψ11 w29) ∧ ψ12 w29) ∧ ψ13 w29) →
 K9 [(V true)] w29))))))
(fun h30 w30 =>
 Br (h30 39)
(R (.returned (V false)) w30)
(K4 [] w30))) X) X) X) X)
(fun _ w31 =>
 D (binS BinOp.add 3 (T 9) (C (I 1)) (h2 9) (I 1)) w31 (fun t32 w32 =>
 K2 [t32] w32) X))
(B Builtin.len #[106] 3 #[false] #[v0] w3 (fun t33 w33 =>
 D (binS BinOp.leq 3 (T 42) (C (I 2000)) t33 (I 2000)) w33 (fun t34 w34 =>
 R (.returned t34) w34) X) X)) X)) X)
theorem sh__report_entries_follow_ok (v0 v1 : Value) (h : sh__report_entries_follow v0 v1 R w) : Calls Tryz.prog 70 #[v0, v1] w R :=
  calls_of_vc (c := Tryz.f70.body.getD .skip) (args := [v0, v1]) [(4, 23, false, 2)] [9] follows_mixed Tryz.func70 rfl (of_decide_eq_true (by kernel_rfl)) (by kernel_rfl) (Eq.mp (by kernel_rfl) h)
def sh_vehicle_memory_read_1 (v0 v1 : Value) (R : Ending → World → Prop) (w : World) : Prop := 
 letI X := Pan R
 letI D := DoV Tryz.prog
 letI L := Instr.loadAt
(D (Instr.box 64 v0) w (fun t1 w1 =>
 DrawE w1 (fun Rs2 Rb2 w2 =>
 DetOp Rb2 Rs2 w2 (fun w3 K3 => D (L 79 v1) w3 K3 X) (fun c4_3 ψ3 =>
 DetOp Rb2 Rs2 w2 (fun w4 K4 => D (Instr.fieldAt 64 t1 2) w4 K4 X) (fun c5_4 ψ4 =>
 DetOp Rb2 Rs2 w2 (fun w5 K5 => D (L 3 c5_4) w5 K5 X) (fun c6_5 ψ5 =>
 DetOp Rs2 Rb2 w2 (fun w6 K6 => CallF Tryz.prog 28 #[c4_3, c6_5] w6 K6 X) (fun c7_6 ψ6 =>
 DetOp Rb2 Rs2 w2 (fun w7 K7 => D (Instr.fieldAt 64 t1 3) w7 K7 X) (fun c8_7 ψ7 =>
 DetOp Rb2 Rs2 w2 (fun w8 K8 => D (L 61 c8_7) w8 K8 X) (fun c9_8 ψ8 =>
 ∀ w9, Rb2 w2 w9 → ((((((True ∧ ψ3 w9) ∧ ψ4 w9) ∧ ψ5 w9) ∧ ψ6 w9) ∧ ψ7 w9) ∧ ψ8 w9) →
 D (binS BinOp.neq 61 (Operand.tmp 7) (Operand.tmp 9) c7_6 c9_8) w9 (fun t10 w10 =>
 R (.returned t10) w10) X)))))))) X)
theorem sh_vehicle_memory_read_1_ok (v0 v1 : Value) (h : sh_vehicle_memory_read_1 v0 v1 R w) : Calls Tryz.prog 72 #[v0, v1] w R :=
  calls_of_vc (c := Tryz.f72.body.getD .skip) (args := [v0, v1]) [(1, 6, false, 4)] [] follows_mixed Tryz.func72 rfl (of_decide_eq_true (by kernel_rfl)) (by kernel_rfl) (Eq.mp (by kernel_rfl) h)
def sh_slices_ContainsFunc___api_Record_api_Record_ (v0 v1 : Value) (R : Ending → World → Prop) (w : World) : Prop := 
 letI I := Value.int IntKind.i64
(CallF Tryz.prog 95 #[v0, v1] w (fun t1 w1 =>
 DoV Tryz.prog (binS BinOp.geq 3 (Operand.tmp 7) (Operand.const (I 0)) t1 (I 0)) w1 (fun t2 w2 =>
 R (.returned t2) w2) (Pan R)) (Pan R))
theorem sh_slices_ContainsFunc___api_Record_api_Record__ok (v0 v1 : Value) (h : sh_slices_ContainsFunc___api_Record_api_Record_ v0 v1 R w) : Calls Tryz.prog 73 #[v0, v1] w R :=
  calls_of_vc (c := Tryz.f73.body.getD .skip) (args := [v0, v1]) [] [] follows_mixed Tryz.func73 rfl (of_decide_eq_true (by kernel_rfl)) (by kernel_rfl) (Eq.mp (by kernel_rfl) h)
def sh__report_entries_carry (v0 v1 : Value) (R : Ending → World → Prop) (w : World) : Prop := 
 letI X := Pan R
 letI D := DoV Tryz.prog
 letI Q := CallF Tryz.prog
 letI I := Value.int IntKind.i64
 letI T := Operand.tmp
(CallB Tryz.prog Builtin.len #[106] 3 #[false] #[v0] w (fun t1 w1 =>
 LoopE [1, 9] [v1, (I 0)] w1 (fun h2 w2 K2 =>
 D (binS BinOp.lss 3 (T 9) (T 8) (h2 9) t1) w2 (fun t3 w3 =>
 Br t3
(D (Instr.indexAt 106 v0 (h2 9)) w3 (fun t4 w4 =>
 D (Instr.loadAt 38 t4) w4 (fun t5 w5 =>
 D (Instr.alloc 38 true (.tuple #[])) w5 (fun t6 w6 =>
 DoU Tryz.prog (Instr.storeAt 38 t6 t5) w6 (fun _ w7 =>
 D (Instr.loadAt 38 t6) w7 (fun t8 w8 =>
 Q 100 #[t8] w8 (fun t9 w9 =>
 Q 99 #[(h2 1), t9] w9 (fun t10 w10 =>
 D (binS BinOp.add 3 (T 9) (Operand.const (I 1)) (h2 9) (I 1)) w10 (fun t11 w11 =>
 K2 [t10, t11] w11) X) X) X) X) X) X) X) X)
(R (.returned (h2 1)) w3)) X)) X)
theorem sh__report_entries_carry_ok (v0 v1 : Value) (h : sh__report_entries_carry v0 v1 R w) : Calls Tryz.prog 77 #[v0, v1] w R :=
  calls_of_vc (c := Tryz.f77.body.getD .skip) (args := [v0, v1]) [] [1, 9] follows_mixed Tryz.func77 rfl (of_decide_eq_true (by kernel_rfl)) (by kernel_rfl) (Eq.mp (by kernel_rfl) h)
def sh_report_message (v0 : Value) (R : Ending → World → Prop) (w : World) : Prop := 
 letI X := Pan R
 letI D := DoV Tryz.prog
 letI B := CallB Tryz.prog
 letI I := Value.int IntKind.i64
 letI T := Operand.tmp
 letI C := Operand.const
 letI L := Instr.loadAt
 letI F := Instr.fieldAt
(D (Instr.box 97 v0) w (fun t1 w1 =>
 D (F 97 t1 0) w1 (fun t2 w2 =>
 D (L 3 t2) w2 (fun t3 w3 =>
 D (F 97 t1 1) w3 (fun t4 w4 =>
 D (L 3 t4) w4 (fun t5 w5 =>
 D (F 97 t1 2) w5 (fun t6 w6 =>
 D (L 23 t6) w6 (fun t7 w7 =>
 B Builtin.len #[23] 3 #[false] #[t7] w7 (fun t8 w8 =>
 D (Instr.buildSlice 91 3 #[(0, t3), (1, t5), (2, t8)]) w8 (fun t9 w9 =>
 D (F 97 t1 3) w9 (fun t10 w10 =>
 D (L 61 t10) w10 (fun t11 w11 =>
 D (F 97 t1 4) w11 (fun t12 w12 =>
 D (L 61 t12) w12 (fun t13 w13 =>
 D (Instr.buildSlice 133 2 #[(0, t11), (1, t13)]) w13 (fun t14 w14 =>
 B Builtin.len #[133] 3 #[false] #[t14] w14 (fun t15 w15 =>
 LoopE [3, 20] [t9, (I 0)] w15 (fun h16 w16 K16 =>
 D (binS BinOp.lss 3 (T 20) (T 19) (h16 20) t15) w16 (fun t17 w17 =>
 Br t17
(D (Instr.indexAt 133 t14 (h16 20)) w17 (fun t18 w18 =>
 D (L 61 t18) w18 (fun t19 w19 =>
 D (binS BinOp.shr 61 (T 25) (C (Value.int IntKind.u64 32)) t19 (Value.int IntKind.u64 32)) w19 (fun t20 w20 =>
 D (convert 61 3 t20) w20 (fun t21 w21 =>
 D (binS BinOp.and 61 (T 28) (C (Value.int IntKind.u64 4294967295)) t19 (Value.int IntKind.u64 4294967295)) w21 (fun t22 w22 =>
 D (convert 61 3 t22) w22 (fun t23 w23 =>
 D (Instr.buildSlice 91 2 #[(0, t21), (1, t23)]) w23 (fun t24 w24 =>
 B Builtin.append #[91, 91] 91 #[false, false] #[(h16 3), t24] w24 (fun t25 w25 =>
 D (binS BinOp.add 3 (T 20) (C (I 1)) (h16 20) (I 1)) w25 (fun t26 w26 =>
 K16 [t25, t26] w26) X) X) X) X) X) X) X) X) X)
(R (.returned (h16 3)) w17)) X)) X) X) X) X) X) X) X) X) X) X) X) X) X) X) X)
theorem sh_report_message_ok (v0 : Value) (h : sh_report_message v0 R w) : Calls Tryz.prog 85 #[v0] w R :=
  calls_of_vc (c := Tryz.f85.body.getD .skip) (args := [v0]) [] [3, 20] follows_mixed Tryz.func85 rfl (of_decide_eq_true (by kernel_rfl)) (by kernel_rfl) (Eq.mp (by kernel_rfl) h)
def sh_slices_ContainsFunc_____api_Point___api_Point_ (v0 v1 : Value) (R : Ending → World → Prop) (w : World) : Prop := 
 letI I := Value.int IntKind.i64
(CallF Tryz.prog 108 #[v0, v1] w (fun t1 w1 =>
 DoV Tryz.prog (binS BinOp.geq 3 (Operand.tmp 7) (Operand.const (I 0)) t1 (I 0)) w1 (fun t2 w2 =>
 R (.returned t2) w2) (Pan R)) (Pan R))
theorem sh_slices_ContainsFunc_____api_Point___api_Point__ok (v0 v1 : Value) (h : sh_slices_ContainsFunc_____api_Point___api_Point_ v0 v1 R w) : Calls Tryz.prog 86 #[v0, v1] w R :=
  calls_of_vc (c := Tryz.f86.body.getD .skip) (args := [v0, v1]) [] [] follows_mixed Tryz.func86 rfl (of_decide_eq_true (by kernel_rfl)) (by kernel_rfl) (Eq.mp (by kernel_rfl) h)
def sh_region_invalid_1 (v0 : Value) (R : Ending → World → Prop) (w : World) : Prop := 
(CallF Tryz.prog 88 #[v0] w (fun t1 w1 =>
 DoV Tryz.prog (Op.unary UnOp.not t1) w1 (fun t2 w2 =>
 R (.returned t2) w2) (Pan R)) (Pan R))
theorem sh_region_invalid_1_ok (v0 : Value) (h : sh_region_invalid_1 v0 R w) : Calls Tryz.prog 87 #[v0] w R :=
  calls_of_vc (c := Tryz.f87.body.getD .skip) (args := [v0]) [] [] follows_mixed Tryz.func87 rfl (of_decide_eq_true (by kernel_rfl)) (by kernel_rfl) (Eq.mp (by kernel_rfl) h)
def sh_hull_Valid (v0 : Value) (R : Ending → World → Prop) (w : World) : Prop := 
 letI X := Pan R
 letI D := DoV Tryz.prog
 letI U := DoU Tryz.prog
 letI Q := CallF Tryz.prog
 letI B := CallB Tryz.prog
 letI I := Value.int IntKind.i64
 letI T := Operand.tmp
 letI C := Operand.const
 letI L := Instr.loadAt
 letI S := Instr.storeAt
 letI A := Instr.indexAt
 letI N := Instr.alloc
 letI V := Value.bool
 letI M := BinOp.lss
(D (Instr.box 53 v0) w (fun t1 w1 =>
 D (N 4 true (.tuple #[])) w1 (fun t2 w2 =>
 JoinE [] (fun K3 =>
 JoinE [16] (fun K4 =>
 D (L 53 t1) w2 (fun t5 w5 =>
 B Builtin.len #[53] 3 #[false] #[t5] w5 (fun t6 w6 =>
 D (binS M 3 (T 10) (C (I 1)) t6 (I 1)) w6 (fun t7 w7 =>
 Gd t7 false (D (L 53 t1) w7 (fun t8 w8 =>
 B Builtin.len #[53] 3 #[false] #[t8] w8 (fun t9 w9 =>
 D (binS BinOp.gtr 3 (T 14) (C (I 64)) t9 (I 64)) w9 (fun t10 w10 =>
 K4 [t10] w10) X) X) X)
(K4 [(V true)] w7)) X) X) X)
(fun h11 w11 =>
 Br (h11 16)
(U (S 4 t2 (V false)) w11 (fun _ w12 =>
 Res Tryz.prog [.cell t2 4] w12 R) X)
(K3 [] w11)))
(fun _ w13 =>
 D (L 53 t1) w13 (fun t14 w14 =>
 B Builtin.len #[53] 3 #[false] #[t14] w14 (fun t15 w15 =>
 LoopE [19] [(I 0)] w15 (fun h16 w16 K16 =>
 D (binS M 3 (T 19) (T 18) (h16 19) t15) w16 (fun t17 w17 =>
 Br t17
(JoinE [] (fun K18 =>
 D (A 53 t14 (h16 19)) w17 (fun t19 w19 =>
 D (L 52 t19) w19 (fun t20 w20 =>
 D (N 52 true (.tuple #[])) w20 (fun t21 w21 =>
 U (S 52 t21 t20) w21 (fun _ w22 =>
 JoinE [38] (fun K23 =>
 DrawE w22 (fun Rs24 Rb24 w24 =>
 DetOp Rb24 Rs24 w24 (fun w25 K25 => D (L 52 t21) w25 K25 X) (fun c24_25 ψ25 =>
 DetOp Rs24 Rb24 w24 (fun w26 K26 => Q 109 #[c24_25] w26 K26 X) (fun c25_26 ψ26 =>
 DetOp Rb24 Rs24 w24 (fun w27 K27 => D (Op.unary UnOp.not c25_26) w27 K27 X) (fun c26_27 ψ27 =>
 Gd c26_27 false (DetOp Rb24 Rs24 w24 (fun w28 K28 => D (binS BinOp.gtr 3 (T 28) (C (I 0)) (h16 19) (I 0)) w28 K28 X) (fun c29_28 ψ28 =>
 Gd c29_28 true (DetOp Rb24 Rs24 w24 (fun w29 K29 => D (L 53 t1) w29 K29 X) (fun c31_29 ψ29 =>
 DetOp Rb24 Rs24 w24 (fun w30 K30 => D (A 53 c31_29 (I 0)) w30 K30 X) (fun c32_30 ψ30 =>
 DetOp Rb24 Rs24 w24 (fun w31 K31 => D (L 52 c32_30) w31 K31 X) (fun c33_31 ψ31 =>
 DetOp Rb24 Rs24 w24 (fun w32 K32 => D (L 52 t21) w32 K32 X) (fun c34_32 ψ32 =>
 ∀ w33, Rb24 w24 w33 → ((((((((True ∧ ψ25 w33) ∧ ψ26 w33) ∧ ψ27 w33) ∧ ψ28 w33) ∧ ψ29 w33) ∧ ψ30 w33) ∧ ψ31 w33) ∧ ψ32 w33) →
 Q 110 #[c33_31, c34_32] w33 (fun t34 w34 =>
 D (binS BinOp.geq 3 (T 35) (C (I 0)) t34 (I 0)) w34 (fun t35 w35 =>
 K23 [t35] w35) X) X)))))
(∀ w36, Rb24 w24 w36 → ((((True ∧ ψ25 w36) ∧ ψ26 w36) ∧ ψ27 w36) ∧ ψ28 w36) →
 K23 [(V false)] w36)))
(∀ w37, Rb24 w24 w37 → (((True ∧ ψ25 w37) ∧ ψ26 w37) ∧ ψ27 w37) →
 K23 [(V true)] w37))))))
(fun h38 w38 =>
 Br (h38 38)
(U (S 4 t2 (V false)) w38 (fun _ w39 =>
 Res Tryz.prog [.cell t2 4] w39 R) X)
(K18 [] w38))) X) X) X) X)
(fun _ w40 =>
 D (binS BinOp.add 3 (T 19) (C (I 1)) (h16 19) (I 1)) w40 (fun t41 w41 =>
 K16 [t41] w41) X))
(D (L 53 t1) w17 (fun t42 w42 =>
 B Builtin.len #[53] 3 #[false] #[t42] w42 (fun t43 w43 =>
 D (binS M 3 (T 41) (C (I 3)) t43 (I 3)) w43 (fun t44 w44 =>
 Br t44
(U (S 4 t2 (V true)) w44 (fun _ w45 =>
 Res Tryz.prog [.cell t2 4] w45 R) X)
(D (L 53 t1) w44 (fun t46 w46 =>
 Q 111 #[t46] w46 (fun t47 w47 =>
 RangeE Tryz.prog t47 2 w47 (fun D48 xs48 w49 J48 =>
 D (N 52 true (.tuple #[])) w49 (fun t50 w50 =>
 U (S 52 t50 (nth xs48 0)) w50 (fun _ w51 =>
 D (N 52 true (.tuple #[])) w51 (fun t52 w52 =>
 U (S 52 t52 (nth xs48 1)) w52 (fun _ w53 =>
(KeepL D48 w49 w53 ∧ ∀ o54,
 D (L 53 t1) (w53.putObj (D48 + 1) o54) (fun t55 w55 =>
 B Builtin.len #[53] 3 #[false] #[t55] w55 (fun t56 w56 =>
 LoopE [49] [(I 0)] w56 (fun h57 w57 K57 =>
 D (binS M 3 (T 49) (T 48) (h57 49) t56) w57 (fun t58 w58 =>
 Br t58
(JoinE [] (fun K59 =>
 D (A 53 t55 (h57 49)) w58 (fun t60 w60 =>
 D (L 52 t60) w60 (fun t61 w61 =>
 D (N 52 true (.tuple #[])) w61 (fun t62 w62 =>
 U (S 52 t62 t61) w62 (fun _ w63 =>
 JoinE [67] (fun K64 =>
 D (L 52 t62) w63 (fun t65 w65 =>
 D (L 52 t50) w65 (fun t66 w66 =>
 D (binS BinOp.neq 52 (T 53) (T 54) t65 t66) w66 (fun t67 w67 =>
 Gd t67 true (D (L 52 t62) w67 (fun t68 w68 =>
 D (L 52 t52) w68 (fun t69 w69 =>
 D (binS BinOp.neq 52 (T 57) (T 58) t68 t69) w69 (fun t70 w70 =>
 Gd t70 true (D (L 52 t50) w70 (fun t71 w71 =>
 D (L 52 t52) w71 (fun t72 w72 =>
 D (L 52 t62) w72 (fun t73 w73 =>
 Q 112 #[t71, t72, t73] w73 (fun t74 w74 =>
 D (binS BinOp.leq 3 (T 65) (C (I 0)) t74 (I 0)) w74 (fun t75 w75 =>
 K64 [t75] w75) NoX) NoX) NoX) NoX) NoX)
(K64 [(V false)] w70)) NoX) NoX) NoX)
(K64 [(V false)] w67)) NoX) NoX) NoX)
(fun h76 w76 =>
 Br (h76 67)
(U (S 4 t2 (V false)) w76 (fun _ w77 =>
(KeepL D48 (w53.putObj (D48 + 1) o54) w77 ∧ ∀ o78, J48 .ret (w77.putObj (D48 + 1) o78))) NoX)
(K59 [] w76))) NoX) NoX) NoX) NoX)
(fun _ w79 =>
 D (binS BinOp.add 3 (T 49) (C (I 1)) (h57 49) (I 1)) w79 (fun t80 w80 =>
 K57 [t80] w80) NoX))
((KeepL D48 (w53.putObj (D48 + 1) o54) w58 ∧ ∀ o81, J48 .normal (w58.putObj (D48 + 1) o81)))) NoX)) NoX) NoX)) NoX) NoX) NoX) NoX)
(fun D82 w83 =>
 U (S 4 t2 (V true)) w83 (fun _ w84 =>
 MarkE D82 w84 (fun w85 => Res Tryz.prog [.cell t2 4] w85 R)) NoX)
(fun D86 w87 =>
 MarkE D86 w87 (fun w88 => Res Tryz.prog [.cell t2 4] w88 R))
[]) X) X)) X) X) X)) X)) X) X)) X) X)
theorem sh_hull_Valid_ok (v0 : Value) (h : sh_hull_Valid v0 R w) : Calls Tryz.prog 88 #[v0] w R :=
  calls_of_vcM (c := Tryz.f88.body.getD .skip) (args := [v0]) [(6, 11, false, 2)] [19, 49] follows_mixed Tryz.func88 rfl (of_decide_eq_true (by kernel_rfl)) (by kernel_rfl) (Eq.mp (by kernel_rfl) h)
def sh_landfallref03_Valid (v0 : Value) (R : Ending → World → Prop) (w : World) : Prop := 
 letI X := Pan R
 letI D := DoV Tryz.prog
 letI Q := CallF Tryz.prog
 letI I := Value.int IntKind.i64
 letI T := Operand.tmp
 letI C := Operand.const
 letI L := Instr.loadAt
 letI A := Instr.indexAt
 letI V := Value.bool
 letI M := BinOp.lss
 letI O := BinOp.add
(CallB Tryz.prog Builtin.len #[53] 3 #[false] #[v0] w (fun t1 w1 =>
 JoinE [] (fun K2 =>
 JoinE [19] (fun K3 =>
 D (binS M 3 (T 9) (C (I 1)) t1 (I 1)) w1 (fun t4 w4 =>
 Gd t4 false (D (binS BinOp.gtr 3 (T 12) (C (I 64)) t1 (I 64)) w4 (fun t5 w5 =>
 Gd t5 false (Q 113 #[v0] w5 (fun t6 w6 =>
 D (Op.unary UnOp.not t6) w6 (fun t7 w7 =>
 K3 [t7] w7) X) X)
(K3 [(V true)] w5)) X)
(K3 [(V true)] w4)) X)
(fun h8 w8 =>
 Br (h8 19)
(R (.returned (V false)) w8)
(K2 [] w8)))
(fun _ w9 =>
 LoopE [4] [(I 1)] w9 (fun h10 w10 K10 =>
 D (binS M 3 (T 20) (T 21) (h10 4) t1) w10 (fun t11 w11 =>
 Br t11
(DrawE w11 (fun Rs12 Rb12 w12 =>
 DetOp Rb12 Rs12 w12 (fun w13 K13 => D (A 53 v0 (I 0)) w13 K13 X) (fun c26_13 ψ13 =>
 DetOp Rb12 Rs12 w12 (fun w14 K14 => D (L 52 c26_13) w14 K14 X) (fun c27_14 ψ14 =>
 DetOp Rb12 Rs12 w12 (fun w15 K15 => D (A 53 v0 (h10 4)) w15 K15 X) (fun c30_15 ψ15 =>
 DetOp Rb12 Rs12 w12 (fun w16 K16 => D (L 52 c30_15) w16 K16 X) (fun c31_16 ψ16 =>
 ∀ w17, Rb12 w12 w17 → ((((True ∧ ψ13 w17) ∧ ψ14 w17) ∧ ψ15 w17) ∧ ψ16 w17) →
 Q 114 #[c27_14, c31_16] w17 (fun t18 w18 =>
 D (Op.unary UnOp.not t18) w18 (fun t19 w19 =>
 Br t19
(R (.returned (V false)) w19)
(D (binS O 3 (T 23) (C (I 1)) (h10 4) (I 1)) w19 (fun t20 w20 =>
 K10 [t20] w20) X)) X) X))))))
(LoopE [5, 6] [(I 0), undef] w11 (fun h21 w21 K21 =>
 JoinE [] (fun K22 =>
 D (binS M 3 (T 34) (T 35) (h21 5) t1) w21 (fun t23 w23 =>
 Gd t23 true (D (binS BinOp.gtr 3 (T 38) (C (I 2)) t1 (I 2)) w23 (fun t24 w24 =>
 Br t24
(K22 [] w24)
(R (.returned (V true)) w24)) X)
(R (.returned (V true)) w23)) X)
(fun _ w25 =>
 LoopE [6] [(I 0)] w25 (fun h26 w26 K26 =>
 D (binS M 3 (T 43) (T 44) (h26 6) t1) w26 (fun t27 w27 =>
 Br t27
(JoinE [] (fun K28 =>
 JoinE [77] (fun K29 =>
 DrawE w27 (fun Rs30 Rb30 w30 =>
 DetOp Rb30 Rs30 w30 (fun w31 K31 => D (binS BinOp.neq 3 (T 48) (T 49) (h26 6) (h21 5)) w31 K31 X) (fun c50_31 ψ31 =>
 Gd c50_31 true (DetOp Rb30 Rs30 w30 (fun w32 K32 => D (binS O 3 (T 53) (C (I 1)) (h21 5) (I 1)) w32 K32 X) (fun c54_32 ψ32 =>
 DetOp Rb30 Rs30 w30 (fun w33 K33 => D (binS BinOp.rem 3 (T 54) (T 55) c54_32 t1) w33 K33 X) (fun c56_33 ψ33 =>
 DetOp Rb30 Rs30 w30 (fun w34 K34 => D (binS BinOp.neq 3 (T 52) (T 56) (h26 6) c56_33) w34 K34 X) (fun c57_34 ψ34 =>
 Gd c57_34 true (DetOp Rb30 Rs30 w30 (fun w35 K35 => D (A 53 v0 (h21 5)) w35 K35 X) (fun c62_35 ψ35 =>
 DetOp Rb30 Rs30 w30 (fun w36 K36 => D (L 52 c62_35) w36 K36 X) (fun c63_36 ψ36 =>
 DetOp Rb30 Rs30 w30 (fun w37 K37 => D (binS O 3 (T 65) (C (I 1)) (h21 5) (I 1)) w37 K37 X) (fun c66_37 ψ37 =>
 DetOp Rb30 Rs30 w30 (fun w38 K38 => D (binS BinOp.rem 3 (T 66) (T 67) c66_37 t1) w38 K38 X) (fun c68_38 ψ38 =>
 DetOp Rb30 Rs30 w30 (fun w39 K39 => D (A 53 v0 c68_38) w39 K39 X) (fun c69_39 ψ39 =>
 DetOp Rb30 Rs30 w30 (fun w40 K40 => D (L 52 c69_39) w40 K40 X) (fun c70_40 ψ40 =>
 DetOp Rb30 Rs30 w30 (fun w41 K41 => D (A 53 v0 (h26 6)) w41 K41 X) (fun c73_41 ψ41 =>
 DetOp Rb30 Rs30 w30 (fun w42 K42 => D (L 52 c73_41) w42 K42 X) (fun c74_42 ψ42 =>
 ∀ w43, Rb30 w30 w43 → ((((((((((((True ∧ ψ31 w43) ∧ ψ32 w43) ∧ ψ33 w43) ∧ ψ34 w43) ∧ ψ35 w43) ∧ ψ36 w43) ∧ ψ37 w43) ∧ ψ38 w43) ∧ ψ39 w43) ∧ ψ40 w43) ∧ ψ41 w43) ∧ ψ42 w43) →
 Q 115 #[c63_36, c70_40, c74_42] w43 (fun t44 w44 =>
 D (binS BinOp.leq 3 (T 75) (C (I 0)) t44 (I 0)) w44 (fun t45 w45 =>
 K29 [t45] w45) X) X)))))))))
(∀ w46, Rb30 w30 w46 → ((((True ∧ ψ31 w46) ∧ ψ32 w46) ∧ ψ33 w46) ∧ ψ34 w46) →
 K29 [(V false)] w46)))))
(∀ w47, Rb30 w30 w47 → (True ∧ ψ31 w47) →
 K29 [(V false)] w47))))
(fun h48 w48 =>
 Br (h48 77)
(R (.returned (V false)) w48)
(K28 [] w48)))
(fun _ w49 =>
 D (binS O 3 (T 46) (C (I 1)) (h26 6) (I 1)) w49 (fun t50 w50 =>
 K26 [t50] w50) X))
(D (binS O 3 (T 41) (C (I 1)) (h21 5) (I 1)) w27 (fun t51 w51 =>
 K21 [t51, (h26 6)] w51) X)) X))))) X))) X)
theorem sh_landfallref03_Valid_ok (v0 : Value) (h : sh_landfallref03_Valid v0 R w) : Calls Tryz.prog 89 #[v0] w R :=
  calls_of_vc (c := Tryz.f89.body.getD .skip) (args := [v0]) [(7, 7, false, 0), (15, 27, false, 0)] [4, 5, 6] follows_mixed Tryz.func89 rfl (of_decide_eq_true (by kernel_rfl)) (by kernel_rfl) (Eq.mp (by kernel_rfl) h)
def sh_landfallref03_Same (v0 v1 : Value) (R : Ending → World → Prop) (w : World) : Prop := 
 letI X := Pan R
 letI D := DoV Tryz.prog
 letI B := CallB Tryz.prog
 letI I := Value.int IntKind.i64
 letI T := Operand.tmp
 letI V := Value.bool
(B Builtin.len #[53] 3 #[false] #[v0] w (fun t1 w1 =>
 B Builtin.len #[53] 3 #[false] #[v1] w1 (fun t2 w2 =>
 D (binS BinOp.neq 3 (T 7) (T 9) t1 t2) w2 (fun t3 w3 =>
 Br t3
(R (.returned (V false)) w3)
(LoopE [5] [(I 0)] w3 (fun h4 w4 K4 =>
 B Builtin.len #[53] 3 #[false] #[v0] w4 (fun t5 w5 =>
 D (binS BinOp.lss 3 (T 11) (T 13) (h4 5) t5) w5 (fun t6 w6 =>
 Br t6
(DrawE w6 (fun Rs7 Rb7 w7 =>
 DetOp Rb7 Rs7 w7 (fun w8 K8 => D (Instr.indexAt 53 v0 (h4 5)) w8 K8 X) (fun c19_8 ψ8 =>
 DetOp Rb7 Rs7 w7 (fun w9 K9 => D (Instr.loadAt 52 c19_8) w9 K9 X) (fun c20_9 ψ9 =>
 DetOp Rb7 Rs7 w7 (fun w10 K10 => D (Instr.indexAt 53 v1 (h4 5)) w10 K10 X) (fun c23_10 ψ10 =>
 DetOp Rb7 Rs7 w7 (fun w11 K11 => D (Instr.loadAt 52 c23_10) w11 K11 X) (fun c24_11 ψ11 =>
 ∀ w12, Rb7 w7 w12 → ((((True ∧ ψ8 w12) ∧ ψ9 w12) ∧ ψ10 w12) ∧ ψ11 w12) →
 D (binS BinOp.neq 52 (T 20) (T 24) c20_9 c24_11) w12 (fun t13 w13 =>
 Br t13
(R (.returned (V false)) w13)
(D (binS BinOp.add 3 (T 15) (Operand.const (I 1)) (h4 5) (I 1)) w13 (fun t14 w14 =>
 K4 [t14] w14) X)) X))))))
(R (.returned (V true)) w6)) X) X))) X) X) X)
theorem sh_landfallref03_Same_ok (v0 v1 : Value) (h : sh_landfallref03_Same v0 v1 R w) : Calls Tryz.prog 90 #[v0, v1] w R :=
  calls_of_vc (c := Tryz.f90.body.getD .skip) (args := [v0, v1]) [(6, 8, false, 0)] [5] follows_mixed Tryz.func90 rfl (of_decide_eq_true (by kernel_rfl)) (by kernel_rfl) (Eq.mp (by kernel_rfl) h)
def sh_report_isEntry (v0 : Value) (R : Ending → World → Prop) (w : World) : Prop := 
 letI X := Pan R
 letI D := DoV Tryz.prog
 letI Q := CallF Tryz.prog
 letI I := Value.int IntKind.i64
 letI T := Operand.tmp
 letI C := Operand.const
 letI L := Instr.loadAt
 letI F := Instr.fieldAt
 letI A := Instr.indexAt
 letI V := Value.bool
 letI J := BinOp.eql
 letI M := BinOp.lss
(D (Instr.box 38 v0) w (fun t1 w1 =>
 D (F 38 t1 2) w1 (fun t2 w2 =>
 D (L 3 t2) w2 (fun t3 w3 =>
 Q 117 #[t3] w3 (fun t4 w4 =>
 D (Instr.extract t4 0) w4 (fun t5 w5 =>
 D (Instr.extract t4 1) w5 (fun t6 w6 =>
 D (Instr.alloc 145 true (.tuple #[])) w6 (fun t7 w7 =>
 DoU Tryz.prog (Instr.storeAt 145 t7 t5) w7 (fun _ w8 =>
 JoinE [] (fun K9 =>
 JoinE [43] (fun K10 =>
 D (Op.unary UnOp.not t6) w8 (fun t11 w11 =>
 Gd t11 false (D (F 38 t1 0) w11 (fun t12 w12 =>
 D (L 3 t12) w12 (fun t13 w13 =>
 D (binS M 3 (T 17) (C (I 1)) t13 (I 1)) w13 (fun t14 w14 =>
 Gd t14 false (D (F 38 t1 0) w14 (fun t15 w15 =>
 D (L 3 t15) w15 (fun t16 w16 =>
 D (binS BinOp.gtr 3 (T 22) (C (I 2000)) t16 (I 2000)) w16 (fun t17 w17 =>
 Gd t17 false (D (F 38 t1 1) w17 (fun t18 w18 =>
 D (L 3 t18) w18 (fun t19 w19 =>
 D (binS M 3 (T 27) (C (I 0)) t19 (I 0)) w19 (fun t20 w20 =>
 Gd t20 false (D (F 38 t1 1) w20 (fun t21 w21 =>
 D (L 3 t21) w21 (fun t22 w22 =>
 D (binS BinOp.gtr 3 (T 32) (C (I 1000000000)) t22 (I 1000000000)) w22 (fun t23 w23 =>
 Gd t23 false (D (F 38 t1 7) w23 (fun t24 w24 =>
 D (F 36 t24 0) w24 (fun t25 w25 =>
 D (L 3 t25) w25 (fun t26 w26 =>
 D (F 38 t1 7) w26 (fun t27 w27 =>
 D (F 36 t27 1) w27 (fun t28 w28 =>
 D (L 3 t28) w28 (fun t29 w29 =>
 D (binS BinOp.gtr 3 (T 38) (T 41) t26 t29) w29 (fun t30 w30 =>
 K10 [t30] w30) X) X) X) X) X) X) X)
(K10 [(V true)] w23)) X) X) X)
(K10 [(V true)] w20)) X) X) X)
(K10 [(V true)] w17)) X) X) X)
(K10 [(V true)] w14)) X) X) X)
(K10 [(V true)] w11)) X)
(fun h31 w31 =>
 Br (h31 43)
(R (.returned (V false)) w31)
(K9 [] w31)))
(fun _ w32 =>
 D (L 38 t1) w32 (fun t33 w33 =>
 Q 100 #[t33] w33 (fun t34 w34 =>
 D (Instr.sliceAt 91 t34 (some (I 3)) none none) w34 (fun t35 w35 =>
 CallB Tryz.prog Builtin.len #[91] 3 #[false] #[t35] w35 (fun t36 w36 =>
 LoopE [48] [(I 0)] w36 (fun h37 w37 K37 =>
 D (binS M 3 (T 48) (T 47) (h37 48) t36) w37 (fun t38 w38 =>
 Br t38
(JoinE [] (fun K39 =>
 D (A 91 t35 (h37 48)) w38 (fun t40 w40 =>
 D (L 3 t40) w40 (fun t41 w41 =>
 JoinE [66] (fun K42 =>
 D (A 145 t7 (h37 48)) w41 (fun t43 w43 =>
 D (A 143 t43 (I 0)) w43 (fun t44 w44 =>
 D (L 3 t44) w44 (fun t45 w45 =>
 D (binS M 3 (T 53) (T 57) t41 t45) w45 (fun t46 w46 =>
 Gd t46 false (D (A 145 t7 (h37 48)) w46 (fun t47 w47 =>
 D (A 143 t47 (I 1)) w47 (fun t48 w48 =>
 D (L 3 t48) w48 (fun t49 w49 =>
 D (binS BinOp.gtr 3 (T 60) (T 64) t41 t49) w49 (fun t50 w50 =>
 K42 [t50] w50) X) X) X) X)
(K42 [(V true)] w46)) X) X) X) X)
(fun h51 w51 =>
 Br (h51 66)
(R (.returned (V false)) w51)
(K39 [] w51))) X) X)
(fun _ w52 =>
 D (binS BinOp.add 3 (T 48) (C (I 1)) (h37 48) (I 1)) w52 (fun t53 w53 =>
 K37 [t53] w53) X))
(D (F 38 t1 2) w38 (fun t54 w54 =>
 D (L 3 t54) w54 (fun t55 w55 =>
 D (binS J 3 (T 69) (C (I 1)) t55 (I 1)) w55 (fun t56 w56 =>
 Br t56
(D (F 38 t1 7) w56 (fun t57 w57 =>
 D (F 36 t57 0) w57 (fun t58 w58 =>
 D (L 3 t58) w58 (fun t59 w59 =>
 D (F 38 t1 7) w59 (fun t60 w60 =>
 D (F 36 t60 1) w60 (fun t61 w61 =>
 D (L 3 t61) w61 (fun t62 w62 =>
 D (binS J 3 (T 74) (T 77) t59 t62) w62 (fun t63 w63 =>
 Gd t63 true (D (F 38 t1 6) w63 (fun t64 w64 =>
 D (L 3 t64) w64 (fun t65 w65 =>
 D (F 38 t1 1) w65 (fun t66 w66 =>
 D (L 3 t66) w66 (fun t67 w67 =>
 D (binS BinOp.leq 3 (T 81) (T 83) t65 t67) w67 (fun t68 w68 =>
 R (.returned t68) w68) X) X) X) X) X)
(R (.returned (V false)) w63)) X) X) X) X) X) X) X)
(D (binS J 3 (T 69) (C (I 6)) t55 (I 6)) w56 (fun t69 w69 =>
 Br t69
(D (F 38 t1 7) w69 (fun t70 w70 =>
 D (F 36 t70 0) w70 (fun t71 w71 =>
 D (L 3 t71) w71 (fun t72 w72 =>
 D (F 38 t1 7) w72 (fun t73 w73 =>
 D (F 36 t73 1) w73 (fun t74 w74 =>
 D (L 3 t74) w74 (fun t75 w75 =>
 D (binS J 3 (T 90) (T 93) t72 t75) w75 (fun t76 w76 =>
 R (.returned t76) w76) X) X) X) X) X) X) X)
(R (.returned (V true)) w69)) X)) X) X) X)) X)) X) X) X) X)) X) X) X) X) X) X) X) X)
theorem sh_report_isEntry_ok (v0 : Value) (h : sh_report_isEntry v0 R w) : Calls Tryz.prog 92 #[v0] w R :=
  calls_of_vc (c := Tryz.f92.body.getD .skip) (args := [v0]) [] [48] follows_mixed Tryz.func92 rfl (of_decide_eq_true (by kernel_rfl)) (by kernel_rfl) (Eq.mp (by kernel_rfl) h)
def sh_report_ints (v0 : Value) (R : Ending → World → Prop) (w : World) : Prop := 
 letI X := Pan R
 letI D := DoV Tryz.prog
 letI L := Instr.loadAt
 letI F := Instr.fieldAt
(D (Instr.box 38 v0) w (fun t1 w1 =>
 D (F 38 t1 0) w1 (fun t2 w2 =>
 D (L 3 t2) w2 (fun t3 w3 =>
 D (F 38 t1 1) w3 (fun t4 w4 =>
 D (L 3 t4) w4 (fun t5 w5 =>
 D (F 38 t1 2) w5 (fun t6 w6 =>
 D (L 3 t6) w6 (fun t7 w7 =>
 D (F 38 t1 3) w7 (fun t8 w8 =>
 D (L 3 t8) w8 (fun t9 w9 =>
 D (F 38 t1 4) w9 (fun t10 w10 =>
 D (L 3 t10) w10 (fun t11 w11 =>
 D (F 38 t1 5) w11 (fun t12 w12 =>
 D (L 3 t12) w12 (fun t13 w13 =>
 D (F 38 t1 6) w13 (fun t14 w14 =>
 D (L 3 t14) w14 (fun t15 w15 =>
 D (F 38 t1 7) w15 (fun t16 w16 =>
 D (F 36 t16 0) w16 (fun t17 w17 =>
 D (L 3 t17) w17 (fun t18 w18 =>
 D (F 38 t1 7) w18 (fun t19 w19 =>
 D (F 36 t19 1) w19 (fun t20 w20 =>
 D (L 3 t20) w20 (fun t21 w21 =>
 D (F 38 t1 8) w21 (fun t22 w22 =>
 D (L 3 t22) w22 (fun t23 w23 =>
 D (F 38 t1 9) w23 (fun t24 w24 =>
 D (L 3 t24) w24 (fun t25 w25 =>
 D (F 38 t1 10) w25 (fun t26 w26 =>
 D (L 3 t26) w26 (fun t27 w27 =>
 D (Instr.buildSlice 91 12 #[(0, t3), (1, t5), (2, t7), (3, t9), (4, t11), (5, t13), (6, t15), (7, t18), (8, t21), (9, t23), (10, t25), (11, t27)]) w27 (fun t28 w28 =>
 R (.returned t28) w28) X) X) X) X) X) X) X) X) X) X) X) X) X) X) X) X) X) X) X) X) X) X) X) X) X) X) X) X)
theorem sh_report_ints_ok (v0 : Value) (h : sh_report_ints v0 R w) : Calls Tryz.prog 100 #[v0] w R :=
  calls_of_vc (c := Tryz.f100.body.getD .skip) (args := [v0]) [] [] follows_mixed Tryz.func100 rfl (of_decide_eq_true (by kernel_rfl)) (by kernel_rfl) (Eq.mp (by kernel_rfl) h)
def sh_slices_IndexFunc_____api_Point___api_Point_ (v0 v1 : Value) (R : Ending → World → Prop) (w : World) : Prop := 
 letI X := Pan R
 letI D := DoV Tryz.prog
 letI I := Value.int IntKind.i64
 letI T := Operand.tmp
(CallB Tryz.prog Builtin.len #[22] 3 #[false] #[v0] w (fun t1 w1 =>
 LoopE [8] [(I 0)] w1 (fun h2 w2 K2 =>
 D (binS BinOp.lss 3 (T 8) (T 7) (h2 8) t1) w2 (fun t3 w3 =>
 Br t3
(D (Instr.indexAt 22 v0 (h2 8)) w3 (fun t4 w4 =>
 D (Instr.loadAt 53 t4) w4 (fun t5 w5 =>
 CallV Tryz.prog v1 #[t5] w5 (fun t6 w6 =>
 Br t6
(R (.returned (h2 8)) w6)
(D (binS BinOp.add 3 (T 8) (Operand.const (I 1)) (h2 8) (I 1)) w6 (fun t7 w7 =>
 K2 [t7] w7) X)) X) X) X)
(R (.returned (I (-1))) w3)) X)) X)
theorem sh_slices_IndexFunc_____api_Point___api_Point__ok (v0 v1 : Value) (h : sh_slices_IndexFunc_____api_Point___api_Point_ v0 v1 R w) : Calls Tryz.prog 108 #[v0, v1] w R :=
  calls_of_vc (c := Tryz.f108.body.getD .skip) (args := [v0, v1]) [] [8] follows_mixed Tryz.func108 rfl (of_decide_eq_true (by kernel_rfl)) (by kernel_rfl) (Eq.mp (by kernel_rfl) h)
def sh_hull_isPlace (v0 : Value) (R : Ending → World → Prop) (w : World) : Prop := 
 letI X := Pan R
 letI D := DoV Tryz.prog
 letI B := CallB Tryz.prog
 letI I := Value.int IntKind.i64
 letI L := Instr.loadAt
 letI F := Instr.fieldAt
(D (Instr.box 52 v0) w (fun t1 w1 =>
 D (F 52 t1 0) w1 (fun t2 w2 =>
 D (L 3 t2) w2 (fun t3 w3 =>
 D (F 52 t1 0) w3 (fun t4 w4 =>
 D (L 3 t4) w4 (fun t5 w5 =>
 D (Op.unary UnOp.neg t5) w5 (fun t6 w6 =>
 D (F 52 t1 1) w6 (fun t7 w7 =>
 D (L 3 t7) w7 (fun t8 w8 =>
 D (F 52 t1 1) w8 (fun t9 w9 =>
 D (L 3 t9) w9 (fun t10 w10 =>
 D (Op.unary UnOp.neg t10) w10 (fun t11 w11 =>
 B Builtin.max #[3, 3, 3, 3] 3 #[false, false, false, false] #[t3, t6, t8, t11] w11 (fun t12 w12 =>
 D (binS BinOp.leq 3 (Operand.tmp 13) (Operand.const (I 500000)) t12 (I 500000)) w12 (fun t13 w13 =>
 Gd t13 true (D (F 52 t1 0) w13 (fun t14 w14 =>
 D (L 3 t14) w14 (fun t15 w15 =>
 D (F 52 t1 1) w15 (fun t16 w16 =>
 D (L 3 t16) w16 (fun t17 w17 =>
 B Builtin.min #[3, 3] 3 #[false, false] #[t15, t17] w17 (fun t18 w18 =>
 D (binS BinOp.geq 3 (Operand.tmp 20) (Operand.const (I (-500000))) t18 (I (-500000))) w18 (fun t19 w19 =>
 R (.returned t19) w19) X) X) X) X) X) X)
(R (.returned (Value.bool false)) w13)) X) X) X) X) X) X) X) X) X) X) X) X) X)
theorem sh_hull_isPlace_ok (v0 : Value) (h : sh_hull_isPlace v0 R w) : Calls Tryz.prog 109 #[v0] w R :=
  calls_of_vc (c := Tryz.f109.body.getD .skip) (args := [v0]) [] [] follows_mixed Tryz.func109 rfl (of_decide_eq_true (by kernel_rfl)) (by kernel_rfl) (Eq.mp (by kernel_rfl) h)
def sh_hull_compare (v0 v1 : Value) (R : Ending → World → Prop) (w : World) : Prop := 
 letI X := Pan R
 letI D := DoV Tryz.prog
 letI Q := CallF Tryz.prog
 letI L := Instr.loadAt
 letI F := Instr.fieldAt
(D (Instr.box 52 v0) w (fun t1 w1 =>
 D (Instr.box 52 v1) w1 (fun t2 w2 =>
 DrawE w2 (fun Rs3 Rb3 w3 =>
 DetOp Rb3 Rs3 w3 (fun w4 K4 => D (F 52 t1 0) w4 K4 X) (fun c5_4 ψ4 =>
 DetOp Rb3 Rs3 w3 (fun w5 K5 => D (L 3 c5_4) w5 K5 X) (fun c6_5 ψ5 =>
 DetOp Rb3 Rs3 w3 (fun w6 K6 => D (F 52 t2 0) w6 K6 X) (fun c7_6 ψ6 =>
 DetOp Rb3 Rs3 w3 (fun w7 K7 => D (L 3 c7_6) w7 K7 X) (fun c8_7 ψ7 =>
 DetOp Rs3 Rb3 w3 (fun w8 K8 => Q 128 #[c6_5, c8_7] w8 K8 X) (fun c9_8 ψ8 =>
 DetOp Rb3 Rs3 w3 (fun w9 K9 => D (F 52 t1 1) w9 K9 X) (fun c10_9 ψ9 =>
 DetOp Rb3 Rs3 w3 (fun w10 K10 => D (L 3 c10_9) w10 K10 X) (fun c11_10 ψ10 =>
 DetOp Rb3 Rs3 w3 (fun w11 K11 => D (F 52 t2 1) w11 K11 X) (fun c12_11 ψ11 =>
 DetOp Rb3 Rs3 w3 (fun w12 K12 => D (L 3 c12_11) w12 K12 X) (fun c13_12 ψ12 =>
 ∀ w13, Rb3 w3 w13 → (((((((((True ∧ ψ4 w13) ∧ ψ5 w13) ∧ ψ6 w13) ∧ ψ7 w13) ∧ ψ8 w13) ∧ ψ9 w13) ∧ ψ10 w13) ∧ ψ11 w13) ∧ ψ12 w13) →
 Q 128 #[c11_10, c13_12] w13 (fun t14 w14 =>
 D (Instr.buildSlice 91 2 #[(0, c9_8), (1, t14)]) w14 (fun t15 w15 =>
 Q 127 #[t15] w15 (fun t16 w16 =>
 R (.returned t16) w16) X) X) X))))))))))) X) X)
theorem sh_hull_compare_ok (v0 v1 : Value) (h : sh_hull_compare v0 v1 R w) : Calls Tryz.prog 110 #[v0, v1] w R :=
  calls_of_vc (c := Tryz.f110.body.getD .skip) (args := [v0, v1]) [(1, 9, false, 5)] [] follows_mixed Tryz.func110 rfl (of_decide_eq_true (by kernel_rfl)) (by kernel_rfl) (Eq.mp (by kernel_rfl) h)
def sh_hull_sides (v0 : Value) (R : Ending → World → Prop) (w : World) : Prop := 
(DoV Tryz.prog (Instr.box 53 v0) w (fun t1 w1 =>
 DoV Tryz.prog (Instr.makeFunc (Fn.func 129) #[] #[t1]) w1 (fun t2 w2 =>
 R (.returned t2) w2) (Pan R)) (Pan R))
theorem sh_hull_sides_ok (v0 : Value) (h : sh_hull_sides v0 R w) : Calls Tryz.prog 111 #[v0] w R :=
  calls_of_vc (c := Tryz.f111.body.getD .skip) (args := [v0]) [] [] follows_mixed Tryz.func111 rfl (of_decide_eq_true (by kernel_rfl)) (by kernel_rfl) (Eq.mp (by kernel_rfl) h)
def sh_hull_turn (v0 v1 v2 : Value) (R : Ending → World → Prop) (w : World) : Prop := 
 letI X := Pan R
 letI D := DoV Tryz.prog
 letI T := Operand.tmp
 letI L := Instr.loadAt
 letI F := Instr.fieldAt
(D (Instr.box 52 v0) w (fun t1 w1 =>
 D (Instr.box 52 v1) w1 (fun t2 w2 =>
 D (Instr.box 52 v2) w2 (fun t3 w3 =>
 D (F 52 t2 0) w3 (fun t4 w4 =>
 D (L 3 t4) w4 (fun t5 w5 =>
 D (F 52 t1 0) w5 (fun t6 w6 =>
 D (L 3 t6) w6 (fun t7 w7 =>
 D (binS BinOp.sub 3 (T 8) (T 10) t5 t7) w7 (fun t8 w8 =>
 D (F 52 t3 1) w8 (fun t9 w9 =>
 D (L 3 t9) w9 (fun t10 w10 =>
 D (F 52 t1 1) w10 (fun t11 w11 =>
 D (L 3 t11) w11 (fun t12 w12 =>
 D (binS BinOp.sub 3 (T 13) (T 15) t10 t12) w12 (fun t13 w13 =>
 D (binS BinOp.mul 3 (T 11) (T 16) t8 t13) w13 (fun t14 w14 =>
 D (F 52 t2 1) w14 (fun t15 w15 =>
 D (L 3 t15) w15 (fun t16 w16 =>
 D (F 52 t1 1) w16 (fun t17 w17 =>
 D (L 3 t17) w17 (fun t18 w18 =>
 D (binS BinOp.sub 3 (T 19) (T 21) t16 t18) w18 (fun t19 w19 =>
 D (F 52 t3 0) w19 (fun t20 w20 =>
 D (L 3 t20) w20 (fun t21 w21 =>
 D (F 52 t1 0) w21 (fun t22 w22 =>
 D (L 3 t22) w22 (fun t23 w23 =>
 D (binS BinOp.sub 3 (T 24) (T 26) t21 t23) w23 (fun t24 w24 =>
 D (binS BinOp.mul 3 (T 22) (T 27) t19 t24) w24 (fun t25 w25 =>
 D (binS BinOp.sub 3 (T 17) (T 28) t14 t25) w25 (fun t26 w26 =>
 R (.returned t26) w26) X) X) X) X) X) X) X) X) X) X) X) X) X) X) X) X) X) X) X) X) X) X) X) X) X) X)
theorem sh_hull_turn_ok (v0 v1 v2 : Value) (h : sh_hull_turn v0 v1 v2 R w) : Calls Tryz.prog 112 #[v0, v1, v2] w R :=
  calls_of_vc (c := Tryz.f112.body.getD .skip) (args := [v0, v1, v2]) [] [] follows_mixed Tryz.func112 rfl (of_decide_eq_true (by kernel_rfl)) (by kernel_rfl) (Eq.mp (by kernel_rfl) h)
def sh_landfallref03_places (v0 : Value) (R : Ending → World → Prop) (w : World) : Prop := 
 letI X := Pan R
 letI D := DoV Tryz.prog
 letI I := Value.int IntKind.i64
 letI T := Operand.tmp
(LoopE [3] [(I 0)] w (fun h1 w1 K1 =>
 CallB Tryz.prog Builtin.len #[53] 3 #[false] #[v0] w1 (fun t2 w2 =>
 D (binS BinOp.lss 3 (T 4) (T 6) (h1 3) t2) w2 (fun t3 w3 =>
 Br t3
(D (Instr.indexAt 53 v0 (h1 3)) w3 (fun t4 w4 =>
 D (Instr.loadAt 52 t4) w4 (fun t5 w5 =>
 CallF Tryz.prog 130 #[t5] w5 (fun t6 w6 =>
 D (Op.unary UnOp.not t6) w6 (fun t7 w7 =>
 Br t7
(R (.returned (Value.bool false)) w7)
(D (binS BinOp.add 3 (T 8) (Operand.const (I 1)) (h1 3) (I 1)) w7 (fun t8 w8 =>
 K1 [t8] w8) X)) X) X) X) X)
(R (.returned (Value.bool true)) w3)) X) X))
theorem sh_landfallref03_places_ok (v0 : Value) (h : sh_landfallref03_places v0 R w) : Calls Tryz.prog 113 #[v0] w R :=
  calls_of_vc (c := Tryz.f113.body.getD .skip) (args := [v0]) [] [3] follows_mixed Tryz.func113 rfl (of_decide_eq_true (by kernel_rfl)) (by kernel_rfl) (Eq.mp (by kernel_rfl) h)
def sh_landfallref03_Less (v0 v1 : Value) (R : Ending → World → Prop) (w : World) : Prop := 
 letI X := Pan R
 letI D := DoV Tryz.prog
 letI T := Operand.tmp
 letI L := Instr.loadAt
 letI F := Instr.fieldAt
(D (Instr.box 52 v0) w (fun t1 w1 =>
 D (Instr.box 52 v1) w1 (fun t2 w2 =>
 D (F 52 t1 0) w2 (fun t3 w3 =>
 D (L 3 t3) w3 (fun t4 w4 =>
 D (F 52 t2 0) w4 (fun t5 w5 =>
 D (L 3 t5) w5 (fun t6 w6 =>
 D (binS BinOp.lss 3 (T 6) (T 8) t4 t6) w6 (fun t7 w7 =>
 Gd t7 false (D (F 52 t1 0) w7 (fun t8 w8 =>
 D (L 3 t8) w8 (fun t9 w9 =>
 D (F 52 t2 0) w9 (fun t10 w10 =>
 D (L 3 t10) w10 (fun t11 w11 =>
 D (binS BinOp.eql 3 (T 12) (T 14) t9 t11) w11 (fun t12 w12 =>
 Gd t12 true (D (F 52 t1 1) w12 (fun t13 w13 =>
 D (L 3 t13) w13 (fun t14 w14 =>
 D (F 52 t2 1) w14 (fun t15 w15 =>
 D (L 3 t15) w15 (fun t16 w16 =>
 D (binS BinOp.lss 3 (T 18) (T 20) t14 t16) w16 (fun t17 w17 =>
 R (.returned t17) w17) X) X) X) X) X)
(R (.returned (Value.bool false)) w12)) X) X) X) X) X)
(R (.returned (Value.bool true)) w7)) X) X) X) X) X) X) X)
theorem sh_landfallref03_Less_ok (v0 v1 : Value) (h : sh_landfallref03_Less v0 v1 R w) : Calls Tryz.prog 114 #[v0, v1] w R :=
  calls_of_vc (c := Tryz.f114.body.getD .skip) (args := [v0, v1]) [] [] follows_mixed Tryz.func114 rfl (of_decide_eq_true (by kernel_rfl)) (by kernel_rfl) (Eq.mp (by kernel_rfl) h)
def sh_landfallref03_Cross (v0 v1 v2 : Value) (R : Ending → World → Prop) (w : World) : Prop := 
 letI X := Pan R
 letI D := DoV Tryz.prog
 letI T := Operand.tmp
 letI L := Instr.loadAt
 letI F := Instr.fieldAt
(D (Instr.box 52 v0) w (fun t1 w1 =>
 D (Instr.box 52 v1) w1 (fun t2 w2 =>
 D (Instr.box 52 v2) w2 (fun t3 w3 =>
 D (F 52 t2 0) w3 (fun t4 w4 =>
 D (L 3 t4) w4 (fun t5 w5 =>
 D (F 52 t1 0) w5 (fun t6 w6 =>
 D (L 3 t6) w6 (fun t7 w7 =>
 D (binS BinOp.sub 3 (T 8) (T 10) t5 t7) w7 (fun t8 w8 =>
 D (F 52 t3 1) w8 (fun t9 w9 =>
 D (L 3 t9) w9 (fun t10 w10 =>
 D (F 52 t1 1) w10 (fun t11 w11 =>
 D (L 3 t11) w11 (fun t12 w12 =>
 D (binS BinOp.sub 3 (T 13) (T 15) t10 t12) w12 (fun t13 w13 =>
 D (binS BinOp.mul 3 (T 11) (T 16) t8 t13) w13 (fun t14 w14 =>
 D (F 52 t2 1) w14 (fun t15 w15 =>
 D (L 3 t15) w15 (fun t16 w16 =>
 D (F 52 t1 1) w16 (fun t17 w17 =>
 D (L 3 t17) w17 (fun t18 w18 =>
 D (binS BinOp.sub 3 (T 19) (T 21) t16 t18) w18 (fun t19 w19 =>
 D (F 52 t3 0) w19 (fun t20 w20 =>
 D (L 3 t20) w20 (fun t21 w21 =>
 D (F 52 t1 0) w21 (fun t22 w22 =>
 D (L 3 t22) w22 (fun t23 w23 =>
 D (binS BinOp.sub 3 (T 24) (T 26) t21 t23) w23 (fun t24 w24 =>
 D (binS BinOp.mul 3 (T 22) (T 27) t19 t24) w24 (fun t25 w25 =>
 D (binS BinOp.sub 3 (T 17) (T 28) t14 t25) w25 (fun t26 w26 =>
 R (.returned t26) w26) X) X) X) X) X) X) X) X) X) X) X) X) X) X) X) X) X) X) X) X) X) X) X) X) X) X)
theorem sh_landfallref03_Cross_ok (v0 v1 v2 : Value) (h : sh_landfallref03_Cross v0 v1 v2 R w) : Calls Tryz.prog 115 #[v0, v1, v2] w R :=
  calls_of_vc (c := Tryz.f115.body.getD .skip) (args := [v0, v1, v2]) [] [] follows_mixed Tryz.func115 rfl (of_decide_eq_true (by kernel_rfl)) (by kernel_rfl) (Eq.mp (by kernel_rfl) h)
def sh_report_of (v0 : Value) (R : Ending → World → Prop) (w : World) : Prop := 
 letI X := Pan R
 letI D := DoV Tryz.prog
 letI U := DoU Tryz.prog
 letI Q := CallF Tryz.prog
 letI I := Value.int IntKind.i64
 letI T := Operand.tmp
 letI C := Operand.const
 letI L := Instr.loadAt
 letI S := Instr.storeAt
 letI N := Instr.alloc
 letI V := Value.bool
 letI J := BinOp.eql
(D (N 145 true (.tuple #[])) w (fun t1 w1 =>
 D (Instr.build 143 #[(0, (I 1)), (1, (I 8))]) w1 (fun t2 w2 =>
 D (Instr.build 143 #[(0, (I 1)), (1, (I 1000000))]) w2 (fun t3 w3 =>
 D (Instr.build 143 #[(0, (I 0)), (1, (I 63))]) w3 (fun t4 w4 =>
 D (N 143 true (.tuple #[])) w4 (fun t5 w5 =>
 D (N 143 true (.tuple #[])) w5 (fun t6 w6 =>
 D (N 143 true (.tuple #[])) w6 (fun t7 w7 =>
 U (S 143 t5 t2) w7 (fun _ w8 =>
 U (S 143 t6 t3) w8 (fun _ w9 =>
 U (S 143 t7 t4) w9 (fun _ w10 =>
 D (Instr.build 143 #[(0, (I 0)), (1, (I 100000))]) w10 (fun t11 w11 =>
 D (N 143 true (.tuple #[])) w11 (fun t12 w12 =>
 U (S 143 t12 t11) w12 (fun _ w13 =>
 JoinE [] (fun K14 =>
 D (binS J 3 (T 13) (C (I 1)) v0 (I 1)) w13 (fun t15 w15 =>
 Br t15
(DrawE w15 (fun Rs16 Rb16 w16 =>
 DetOp Rb16 Rs16 w16 (fun w17 K17 => Q 131 #[] w17 K17 X) (fun c16_17 ψ17 =>
 DetOp Rb16 Rs16 w16 (fun w18 K18 => Q 131 #[] w18 K18 X) (fun c17_18 ψ18 =>
 DetOp Rb16 Rs16 w16 (fun w19 K19 => D (L 143 t7) w19 K19 X) (fun c18_19 ψ19 =>
 DetOp Rb16 Rs16 w16 (fun w20 K20 => D (Instr.build 143 #[(0, (I 0)), (1, (I 100000))]) w20 K20 X) (fun c19_20 ψ20 =>
 DetOp Rb16 Rs16 w16 (fun w21 K21 => D (L 143 t12) w21 K21 X) (fun c20_21 ψ21 =>
 DetOp Rb16 Rs16 w16 (fun w22 K22 => D (L 143 t12) w22 K22 X) (fun c21_22 ψ22 =>
 DetOp Rb16 Rs16 w16 (fun w23 K23 => D (Instr.build 143 #[(0, (I (-1000))), (1, (I 1000))]) w23 K23 X) (fun c22_23 ψ23 =>
 DetOp Rb16 Rs16 w16 (fun w24 K24 => D (Instr.build 143 #[(0, (I 0)), (1, (I 10000))]) w24 K24 X) (fun c23_24 ψ24 =>
 DetOp Rb16 Rs16 w16 (fun w25 K25 => D (Instr.build 143 #[(0, (I 0)), (1, (I 1000000000))]) w25 K25 X) (fun c24_25 ψ25 =>
 DetOp Rs16 Rb16 w16 (fun w26 K26 => Q 131 #[] w26 K26 X) (fun c25_26 ψ26 =>
 ∀ w27, Rb16 w16 w27 → ((((((((((True ∧ ψ17 w27) ∧ ψ18 w27) ∧ ψ19 w27) ∧ ψ20 w27) ∧ ψ21 w27) ∧ ψ22 w27) ∧ ψ23 w27) ∧ ψ24 w27) ∧ ψ25 w27) ∧ ψ26 w27) →
 D (Instr.build 145 #[(0, c16_17), (1, c17_18), (2, c18_19), (3, c19_20), (4, c20_21), (5, c21_22), (6, c22_23), (7, c23_24), (8, c24_25), (9, c25_26)]) w27 (fun t28 w28 =>
 U (S 145 t1 t28) w28 (fun _ w29 =>
 Res Tryz.prog [.cell t1 145, .tmp (V true)] w29 R) X) X))))))))))))
(D (binS J 3 (T 13) (C (I 2)) v0 (I 2)) w15 (fun t30 w30 =>
 Br t30
(D (Instr.build 143 #[(0, (I (-100000))), (1, (I 100000))]) w30 (fun t31 w31 =>
 D (N 143 true (.tuple #[])) w31 (fun t32 w32 =>
 U (S 143 t32 t31) w32 (fun _ w33 =>
 DrawE w33 (fun Rs34 Rb34 w34 =>
 DetOp Rb34 Rs34 w34 (fun w35 K35 => D (L 143 t5) w35 K35 X) (fun c30_35 ψ35 =>
 DetOp Rb34 Rs34 w34 (fun w36 K36 => Q 131 #[] w36 K36 X) (fun c31_36 ψ36 =>
 DetOp Rb34 Rs34 w34 (fun w37 K37 => Q 131 #[] w37 K37 X) (fun c32_37 ψ37 =>
 DetOp Rs34 Rb34 w34 (fun w38 K38 => Q 131 #[] w38 K38 X) (fun c33_38 ψ38 =>
 DetOp Rb34 Rs34 w34 (fun w39 K39 => D (L 143 t32) w39 K39 X) (fun c34_39 ψ39 =>
 DetOp Rb34 Rs34 w34 (fun w40 K40 => D (L 143 t32) w40 K40 X) (fun c35_40 ψ40 =>
 ∀ w41, Rb34 w34 w41 → ((((((True ∧ ψ35 w41) ∧ ψ36 w41) ∧ ψ37 w41) ∧ ψ38 w41) ∧ ψ39 w41) ∧ ψ40 w41) →
 D (Instr.build 145 #[(0, c30_35), (1, c31_36), (2, c32_37), (3, c33_38), (4, c34_39), (5, c35_40)]) w41 (fun t42 w42 =>
 U (S 145 t1 t42) w42 (fun _ w43 =>
 Res Tryz.prog [.cell t1 145, .tmp (V true)] w43 R) X) X)))))))) X) X) X)
(JoinE [37] (fun K44 =>
 D (binS J 3 (T 13) (C (I 3)) v0 (I 3)) w30 (fun t45 w45 =>
 Br t45
(K44 [t45] w45)
(D (binS J 3 (T 13) (C (I 7)) v0 (I 7)) w45 (fun t46 w46 =>
 Br t46
(K44 [t46] w46)
(D (binS J 3 (T 13) (C (I 6)) v0 (I 6)) w46 (fun t47 w47 =>
 K44 [t47] w47) X)) X)) X)
(fun h48 w48 =>
 Br (h48 37)
(DrawE w48 (fun Rs49 Rb49 w49 =>
 DetOp Rb49 Rs49 w49 (fun w50 K50 => D (L 143 t5) w50 K50 X) (fun c41_50 ψ50 =>
 DetOp Rb49 Rs49 w49 (fun w51 K51 => D (L 143 t6) w51 K51 X) (fun c42_51 ψ51 =>
 DetOp Rb49 Rs49 w49 (fun w52 K52 => Q 131 #[] w52 K52 X) (fun c43_52 ψ52 =>
 DetOp Rs49 Rb49 w49 (fun w53 K53 => Q 131 #[] w53 K53 X) (fun c44_53 ψ53 =>
 DetOp Rb49 Rs49 w49 (fun w54 K54 => D (L 143 t12) w54 K54 X) (fun c45_54 ψ54 =>
 DetOp Rb49 Rs49 w49 (fun w55 K55 => D (L 143 t12) w55 K55 X) (fun c46_55 ψ55 =>
 ∀ w56, Rb49 w49 w56 → ((((((True ∧ ψ50 w56) ∧ ψ51 w56) ∧ ψ52 w56) ∧ ψ53 w56) ∧ ψ54 w56) ∧ ψ55 w56) →
 D (Instr.build 145 #[(0, c41_50), (1, c42_51), (2, c43_52), (3, c44_53), (4, c45_54), (5, c46_55)]) w56 (fun t57 w57 =>
 U (S 145 t1 t57) w57 (fun _ w58 =>
 Res Tryz.prog [.cell t1 145, .tmp (V true)] w58 R) X) X))))))))
(D (binS J 3 (T 13) (C (I 4)) v0 (I 4)) w48 (fun t59 w59 =>
 Br t59
(D (L 143 t5) w59 (fun t60 w60 =>
 D (L 143 t6) w60 (fun t61 w61 =>
 D (L 143 t7) w61 (fun t62 w62 =>
 D (Instr.build 143 #[(0, (I 0)), (1, (I 31))]) w62 (fun t63 w63 =>
 D (Instr.build 145 #[(0, t60), (1, t61), (2, t62), (3, t63)]) w63 (fun t64 w64 =>
 U (S 145 t1 t64) w64 (fun _ w65 =>
 Res Tryz.prog [.cell t1 145, .tmp (V true)] w65 R) X) X) X) X) X) X)
(D (binS J 3 (T 13) (C (I 5)) v0 (I 5)) w59 (fun t66 w66 =>
 Br t66
(DrawE w66 (fun Rs67 Rb67 w67 =>
 DetOp Rb67 Rs67 w67 (fun w68 K68 => D (L 143 t5) w68 K68 X) (fun c57_68 ψ68 =>
 DetOp Rb67 Rs67 w67 (fun w69 K69 => D (L 143 t6) w69 K69 X) (fun c58_69 ψ69 =>
 DetOp Rb67 Rs67 w67 (fun w70 K70 => Q 131 #[] w70 K70 X) (fun c59_70 ψ70 =>
 DetOp Rb67 Rs67 w67 (fun w71 K71 => Q 131 #[] w71 K71 X) (fun c60_71 ψ71 =>
 DetOp Rs67 Rb67 w67 (fun w72 K72 => Q 131 #[] w72 K72 X) (fun c61_72 ψ72 =>
 DetOp Rb67 Rs67 w67 (fun w73 K73 => D (L 143 t12) w73 K73 X) (fun c62_73 ψ73 =>
 ∀ w74, Rb67 w67 w74 → ((((((True ∧ ψ68 w74) ∧ ψ69 w74) ∧ ψ70 w74) ∧ ψ71 w74) ∧ ψ72 w74) ∧ ψ73 w74) →
 D (Instr.build 145 #[(0, c57_68), (1, c58_69), (2, c59_70), (3, c60_71), (4, c61_72), (5, c62_73)]) w74 (fun t75 w75 =>
 U (S 145 t1 t75) w75 (fun _ w76 =>
 Res Tryz.prog [.cell t1 145, .tmp (V true)] w76 R) X) X))))))))
(K14 [] w66)) X)) X)))) X)) X)
(fun _ w77 =>
 D (Instr.build 145 #[]) w77 (fun t78 w78 =>
 U (S 145 t1 t78) w78 (fun _ w79 =>
 Res Tryz.prog [.cell t1 145, .tmp (V false)] w79 R) X) X)) X) X) X) X) X) X) X) X) X) X) X) X) X)
theorem sh_report_of_ok (v0 : Value) (h : sh_report_of v0 R w) : Calls Tryz.prog 117 #[v0] w R :=
  calls_of_vc (c := Tryz.f117.body.getD .skip) (args := [v0]) [(5, 10, false, 10), (8, 6, false, 4), (12, 6, false, 4), (16, 6, false, 5)] [] follows_mixed Tryz.func117 rfl (of_decide_eq_true (by kernel_rfl)) (by kernel_rfl) (Eq.mp (by kernel_rfl) h)
def sh_cmp_Or_int_ (v0 : Value) (R : Ending → World → Prop) (w : World) : Prop := 
 letI X := Pan R
 letI D := DoV Tryz.prog
 letI I := Value.int IntKind.i64
 letI T := Operand.tmp
(CallB Tryz.prog Builtin.len #[91] 3 #[false] #[v0] w (fun t1 w1 =>
 LoopE [8] [(I 0)] w1 (fun h2 w2 K2 =>
 D (binS BinOp.lss 3 (T 8) (T 7) (h2 8) t1) w2 (fun t3 w3 =>
 Br t3
(D (Instr.indexAt 91 v0 (h2 8)) w3 (fun t4 w4 =>
 D (Instr.loadAt 3 t4) w4 (fun t5 w5 =>
 D (binS BinOp.neq 3 (T 12) (T 13) t5 (I 0)) w5 (fun t6 w6 =>
 Br t6
(R (.returned t5) w6)
(D (binS BinOp.add 3 (T 8) (Operand.const (I 1)) (h2 8) (I 1)) w6 (fun t7 w7 =>
 K2 [t7] w7) X)) X) X) X)
(R (.returned (I 0)) w3)) X)) X)
theorem sh_cmp_Or_int__ok (v0 : Value) (h : sh_cmp_Or_int_ v0 R w) : Calls Tryz.prog 127 #[v0] w R :=
  calls_of_vc (c := Tryz.f127.body.getD .skip) (args := [v0]) [] [8] follows_mixed Tryz.func127 rfl (of_decide_eq_true (by kernel_rfl)) (by kernel_rfl) (Eq.mp (by kernel_rfl) h)
def sh_cmp_Compare_int_ (v0 v1 : Value) (R : Ending → World → Prop) (w : World) : Prop := 
 letI X := Pan R
 letI Q := CallF Tryz.prog
 letI I := Value.int IntKind.i64
 letI T := Operand.tmp
(Q 139 #[v0] w (fun t1 w1 =>
 Q 139 #[v1] w1 (fun t2 w2 =>
 Br t1
(Br t2
(R (.returned (I 0)) w2)
(R (.returned (I (-1))) w2))
(Br t2
(R (.returned (I 1)) w2)
(DoV Tryz.prog (binS BinOp.lss 3 (T 14) (T 15) v0 v1) w2 (fun t3 w3 =>
 Br t3
(R (.returned (I (-1))) w3)
(DoV Tryz.prog (binS BinOp.gtr 3 (T 17) (T 18) v0 v1) w3 (fun t4 w4 =>
 Br t4
(R (.returned (I 1)) w4)
(R (.returned (I 0)) w4)) X)) X))) X) X)
theorem sh_cmp_Compare_int__ok (v0 v1 : Value) (h : sh_cmp_Compare_int_ v0 v1 R w) : Calls Tryz.prog 128 #[v0, v1] w R :=
  calls_of_vc (c := Tryz.f128.body.getD .skip) (args := [v0, v1]) [] [] follows_mixed Tryz.func128 rfl (of_decide_eq_true (by kernel_rfl)) (by kernel_rfl) (Eq.mp (by kernel_rfl) h)
def sh_hull_sides_1 (v0 v1 : Value) (R : Ending → World → Prop) (w : World) : Prop := 
 letI X := Pan R
 letI D := DoV Tryz.prog
 letI B := CallB Tryz.prog
 letI I := Value.int IntKind.i64
 letI T := Operand.tmp
 letI L := Instr.loadAt
(D (L 53 v1) w (fun t1 w1 =>
 B Builtin.len #[53] 3 #[false] #[t1] w1 (fun t2 w2 =>
 LoopE [7] [(I 0)] w2 (fun h3 w3 K3 =>
 D (binS BinOp.lss 3 (T 7) (T 6) (h3 7) t2) w3 (fun t4 w4 =>
 Br t4
(D (Instr.indexAt 53 t1 (h3 7)) w4 (fun t5 w5 =>
 D (L 52 t5) w5 (fun t6 w6 =>
 D (Instr.alloc 52 true (.tuple #[])) w6 (fun t7 w7 =>
 DoU Tryz.prog (Instr.storeAt 52 t7 t6) w7 (fun _ w8 =>
 DrawE w8 (fun Rs9 Rb9 w9 =>
 DetOp Rb9 Rs9 w9 (fun w10 K10 => D (L 52 t7) w10 K10 X) (fun c13_10 ψ10 =>
 DetOp Rb9 Rs9 w9 (fun w11 K11 => D (L 53 v1) w11 K11 X) (fun c14_11 ψ11 =>
 DetOp Rb9 Rs9 w9 (fun w12 K12 => D (binS BinOp.add 3 (T 15) (Operand.const (I 1)) (h3 7) (I 1)) w12 K12 X) (fun c16_12 ψ12 =>
 DetOp Rb9 Rs9 w9 (fun w13 K13 => D (L 53 v1) w13 K13 X) (fun c17_13 ψ13 =>
 DetOp Rb9 Rs9 w9 (fun w14 K14 => B Builtin.len #[53] 3 #[false] #[c17_13] w14 K14 X) (fun c18_14 ψ14 =>
 DetOp Rb9 Rs9 w9 (fun w15 K15 => D (binS BinOp.rem 3 (T 16) (T 18) c16_12 c18_14) w15 K15 X) (fun c19_15 ψ15 =>
 DetOp Rb9 Rs9 w9 (fun w16 K16 => D (Instr.indexAt 53 c14_11 c19_15) w16 K16 X) (fun c20_16 ψ16 =>
 DetOp Rb9 Rs9 w9 (fun w17 K17 => D (L 52 c20_16) w17 K17 X) (fun c21_17 ψ17 =>
 ∀ w18, Rb9 w9 w18 → ((((((((True ∧ ψ10 w18) ∧ ψ11 w18) ∧ ψ12 w18) ∧ ψ13 w18) ∧ ψ14 w18) ∧ ψ15 w18) ∧ ψ16 w18) ∧ ψ17 w18) →
 CallV Tryz.prog v0 #[c13_10, c21_17] w18 (fun t19 w19 =>
 D (Op.unary UnOp.not t19) w19 (fun t20 w20 =>
 Br t20
(R (.returned (Value.tuple #[])) w20)
(D (binS BinOp.add 3 (T 7) (Operand.const (I 1)) (h3 7) (I 1)) w20 (fun t21 w21 =>
 K3 [t21] w21) X)) X) X)))))))))) X) X) X) X)
(R (.returned (Value.tuple #[])) w4)) X)) X) X)
theorem sh_hull_sides_1_ok (v0 v1 : Value) (h : sh_hull_sides_1 v0 v1 R w) : Calls Tryz.prog 129 #[v0, v1] w R :=
  calls_of_vc (c := Tryz.f129.body.getD .skip) (args := [v0, v1]) [(3, 10, false, 0)] [7] follows_mixed Tryz.func129 rfl (of_decide_eq_true (by kernel_rfl)) (by kernel_rfl) (Eq.mp (by kernel_rfl) h)
def sh_landfallref03_Place (v0 : Value) (R : Ending → World → Prop) (w : World) : Prop := 
 letI X := Pan R
 letI D := DoV Tryz.prog
 letI I := Value.int IntKind.i64
 letI T := Operand.tmp
 letI C := Operand.const
 letI L := Instr.loadAt
 letI F := Instr.fieldAt
 letI V := Value.bool
(D (Instr.box 52 v0) w (fun t1 w1 =>
 D (F 52 t1 0) w1 (fun t2 w2 =>
 D (L 3 t2) w2 (fun t3 w3 =>
 D (binS BinOp.geq 3 (T 4) (C (I (-500000))) t3 (I (-500000))) w3 (fun t4 w4 =>
 Gd t4 true (D (F 52 t1 0) w4 (fun t5 w5 =>
 D (L 3 t5) w5 (fun t6 w6 =>
 D (binS BinOp.leq 3 (T 8) (C (I 500000)) t6 (I 500000)) w6 (fun t7 w7 =>
 Gd t7 true (D (F 52 t1 1) w7 (fun t8 w8 =>
 D (L 3 t8) w8 (fun t9 w9 =>
 D (binS BinOp.geq 3 (T 13) (C (I (-500000))) t9 (I (-500000))) w9 (fun t10 w10 =>
 Gd t10 true (D (F 52 t1 1) w10 (fun t11 w11 =>
 D (L 3 t11) w11 (fun t12 w12 =>
 D (binS BinOp.leq 3 (T 18) (C (I 500000)) t12 (I 500000)) w12 (fun t13 w13 =>
 R (.returned t13) w13) X) X) X)
(R (.returned (V false)) w10)) X) X) X)
(R (.returned (V false)) w7)) X) X) X)
(R (.returned (V false)) w4)) X) X) X) X)
theorem sh_landfallref03_Place_ok (v0 : Value) (h : sh_landfallref03_Place v0 R w) : Calls Tryz.prog 130 #[v0] w R :=
  calls_of_vc (c := Tryz.f130.body.getD .skip) (args := [v0]) [] [] follows_mixed Tryz.func130 rfl (of_decide_eq_true (by kernel_rfl)) (by kernel_rfl) (Eq.mp (by kernel_rfl) h)
def sh_report_none (R : Ending → World → Prop) (w : World) : Prop := 
 letI X := Pan R
 letI I := Value.int IntKind.i64
(DoV Tryz.prog (Instr.alloc 143 true (.tuple #[])) w (fun t1 w1 =>
 DoV Tryz.prog (Instr.build 143 #[(0, (I 0)), (1, (I 0))]) w1 (fun t2 w2 =>
 DoU Tryz.prog (Instr.storeAt 143 t1 t2) w2 (fun _ w3 =>
 Res Tryz.prog [.cell t1 143] w3 R) X) X) X)
theorem sh_report_none_ok (h : sh_report_none  R w) : Calls Tryz.prog 131 #[] w R :=
  calls_of_vc (c := Tryz.f131.body.getD .skip) (args := []) [] [] follows_mixed Tryz.func131 rfl (of_decide_eq_true (by kernel_rfl)) (by kernel_rfl) (Eq.mp (by kernel_rfl) h)
def sh_cmp_isNaN_int_ (v0 : Value) (R : Ending → World → Prop) (w : World) : Prop := 
(DoV Tryz.prog (binS BinOp.neq 3 (Operand.tmp 3) (Operand.tmp 4) v0 v0) w (fun t1 w1 =>
 R (.returned t1) w1) (Pan R))
theorem sh_cmp_isNaN_int__ok (v0 : Value) (h : sh_cmp_isNaN_int_ v0 R w) : Calls Tryz.prog 139 #[v0] w R :=
  calls_of_vc (c := Tryz.f139.body.getD .skip) (args := [v0]) [] [] follows_mixed Tryz.func139 rfl (of_decide_eq_true (by kernel_rfl)) (by kernel_rfl) (Eq.mp (by kernel_rfl) h)
end Go.Proofs.YtoeblipchoglaaaGreatDoor
