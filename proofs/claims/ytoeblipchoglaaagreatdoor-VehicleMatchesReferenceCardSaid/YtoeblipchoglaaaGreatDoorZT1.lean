/- The chains of operations of some functions of the program. -/
import Derived.Test.YtoeblipchoglaaaGreatDoorZBaseA
import Derived.Test.YtoeblipchoglaaaGreatDoorProg
import Derived.KernelRfl
namespace Go.Proofs.YtoeblipchoglaaaGreatDoor
open Sh
set_option linter.unusedVariables false
variable {R : Ending → World → Prop} {w : World}
set_option maxRecDepth 100000
theorem follows_mixed : Tryz.prog.follows .mixedOrders = true := by kernel_rfl
def sh_landfallref40_Load (v0 : Value) (R : Ending → World → Prop) (w : World) : Prop := 
 letI X := Pan R
 letI D := DoV Tryz.prog
 letI Q := CallF Tryz.prog
 letI B := CallB Tryz.prog
 letI I := Value.int IntKind.i64
 letI T := Operand.tmp
 letI L := Instr.loadAt
 letI E := Instr.extract
(Q 55 #[v0] w (fun t1 w1 =>
 D (E t1 0) w1 (fun t2 w2 =>
 D (E t1 1) w2 (fun _ w3 =>
 D (E t1 2) w3 (fun t4 w4 =>
 D (binS BinOp.neq 32 (T 21) (Operand.const (I 0)) t4 (I 0)) w4 (fun t5 w5 =>
 Br t5
(R (.returned (Value.tuple #[(Value.slice none 0 0), (I 0), t4])) w5)
(LoopE [8, 9, 10] [(Value.slice none 0 0), (I 0), (I 0)] w5 (fun h6 w6 K6 =>
 B Builtin.len #[86] 3 #[false] #[t2] w6 (fun t7 w7 =>
 D (binS BinOp.lss 3 (T 24) (T 26) (h6 10) t7) w7 (fun t8 w8 =>
 Br t8
(D (Instr.indexAt 86 t2 (h6 10)) w8 (fun t9 w9 =>
 D (L 91 t9) w9 (fun t10 w10 =>
 Q 56 #[t10] w10 (fun t11 w11 =>
 D (E t11 0) w11 (fun t12 w12 =>
 D (E t11 1) w12 (fun t13 w13 =>
 D (Instr.alloc 64 true (.tuple #[])) w13 (fun t14 w14 =>
 DoU Tryz.prog (Instr.storeAt 64 t14 t12) w14 (fun _ w15 =>
 D (Op.unary UnOp.not t13) w15 (fun t16 w16 =>
 Br t16
(R (.returned (Value.tuple #[(h6 8), (h6 9), (I 0)])) w16)
(D (Instr.indexAt 86 t2 (h6 10)) w16 (fun t17 w17 =>
 D (L 91 t17) w17 (fun t18 w18 =>
 Q 57 #[t18] w18 (fun t19 w19 =>
 D (E t19 0) w19 (fun t20 w20 =>
 D (E t19 1) w20 (fun _ w21 =>
 D (L 64 t14) w21 (fun t22 w22 =>
 D (Instr.buildSlice 68 1 #[(0, t22)]) w22 (fun t23 w23 =>
 B Builtin.append #[68, 68] 68 #[false, false] #[(h6 8), t23] w23 (fun t24 w24 =>
 B Builtin.len #[26] 3 #[false] #[t20] w24 (fun t25 w25 =>
 D (binS BinOp.add 3 (T 54) (T 56) (h6 9) t25) w25 (fun t26 w26 =>
 D (binS BinOp.add 3 (T 28) (Operand.const (I 1)) (h6 10) (I 1)) w26 (fun t27 w27 =>
 K6 [t24, t26, t27] w27) X) X) X) X) X) X) X) X) X) X) X)) X) X) X) X) X) X) X) X)
(R (.returned (Value.tuple #[(h6 8), (h6 9), (I 0)])) w8)) X) X))) X) X) X) X) X)
theorem sh_landfallref40_Load_ok (v0 : Value) (h : sh_landfallref40_Load v0 R w) : Calls Tryz.prog 32 #[v0] w R :=
  calls_of_vc (c := Tryz.f32.body.getD .skip) (args := [v0]) [] [8, 9, 10] follows_mixed Tryz.func32 rfl (of_decide_eq_true (by kernel_rfl)) (by kernel_rfl) (Eq.mp (by kernel_rfl) h)
def sh_landfallref40_Put (v0 v1 : Value) (R : Ending → World → Prop) (w : World) : Prop := 
 letI X := Pan R
 letI D := DoV Tryz.prog
 letI Q := CallF Tryz.prog
 letI B := CallB Tryz.prog
 letI I := Value.int IntKind.i64
 letI T := Operand.tmp
(D (Instr.box 64 v1) w (fun t1 w1 =>
 D (Instr.loadAt 64 t1) w1 (fun t2 w2 =>
 Q 65 #[t2] w2 (fun t3 w3 =>
 D (Op.unary UnOp.not t3) w3 (fun t4 w4 =>
 Br t4
(R (.returned (Value.tuple #[(Value.slice none 0 0), (I 1)])) w4)
(D (Instr.loadAt 64 t1) w4 (fun t5 w5 =>
 Q 58 #[t5] w5 (fun t6 w6 =>
 Q 57 #[t6] w6 (fun t7 w7 =>
 D (Instr.extract t7 0) w7 (fun t8 w8 =>
 D (Instr.extract t7 1) w8 (fun _ w9 =>
 B Builtin.len #[26] 3 #[false] #[v0] w9 (fun t10 w10 =>
 B Builtin.len #[26] 3 #[false] #[t8] w10 (fun t11 w11 =>
 D (binS BinOp.add 3 (T 20) (T 22) t10 t11) w11 (fun t12 w12 =>
 D (binS BinOp.gtr 3 (T 23) (Operand.const (I 200000)) t12 (I 200000)) w12 (fun t13 w13 =>
 Br t13
(R (.returned (Value.tuple #[(Value.slice none 0 0), (I 2)])) w13)
(D (Instr.buildSlice 26 0 #[]) w13 (fun t14 w14 =>
 B Builtin.append #[26, 26] 26 #[false, false] #[t14, v0] w14 (fun t15 w15 =>
 B Builtin.append #[26, 26] 26 #[false, false] #[t15, t8] w15 (fun t16 w16 =>
 R (.returned (Value.tuple #[t16, (I 0)])) w16) X) X) X)) X) X) X) X) X) X) X) X) X)) X) X) X) X)
theorem sh_landfallref40_Put_ok (v0 v1 : Value) (h : sh_landfallref40_Put v0 v1 R w) : Calls Tryz.prog 43 #[v0, v1] w R :=
  calls_of_vc (c := Tryz.f43.body.getD .skip) (args := [v0, v1]) [] [] follows_mixed Tryz.func43 rfl (of_decide_eq_true (by kernel_rfl)) (by kernel_rfl) (Eq.mp (by kernel_rfl) h)
def sh_journal_Put (v0 v1 : Value) (R : Ending → World → Prop) (w : World) : Prop := 
 letI X := Pan R
 letI D := DoV Tryz.prog
 letI Q := CallF Tryz.prog
 letI B := CallB Tryz.prog
 letI I := Value.int IntKind.i64
 letI T := Operand.tmp
(D (Instr.box 64 v1) w (fun t1 w1 =>
 D (Instr.loadAt 64 t1) w1 (fun t2 w2 =>
 Q 74 #[t2] w2 (fun t3 w3 =>
 D (Op.unary UnOp.not t3) w3 (fun t4 w4 =>
 Br t4
(R (.returned (Value.tuple #[(Value.slice none 0 0), (I 1)])) w4)
(D (Instr.loadAt 64 t1) w4 (fun t5 w5 =>
 Q 76 #[t5] w5 (fun t6 w6 =>
 Q 75 #[t6] w6 (fun t7 w7 =>
 D (Instr.extract t7 0) w7 (fun t8 w8 =>
 D (Instr.extract t7 1) w8 (fun t9 w9 =>
 JoinE [] (fun K10 =>
 JoinE [26] (fun K11 =>
 D (binS BinOp.neq 32 (T 17) (Operand.const (I 0)) t9 (I 0)) w9 (fun t12 w12 =>
 Gd t12 false (B Builtin.len #[26] 3 #[false] #[v0] w12 (fun t13 w13 =>
 B Builtin.len #[26] 3 #[false] #[t8] w13 (fun t14 w14 =>
 D (binS BinOp.add 3 (T 21) (T 23) t13 t14) w14 (fun t15 w15 =>
 D (binS BinOp.gtr 3 (T 24) (Operand.const (I 200000)) t15 (I 200000)) w15 (fun t16 w16 =>
 K11 [t16] w16) X) X) X) X)
(K11 [(Value.bool true)] w12)) X)
(fun h17 w17 =>
 Br (h17 26)
(R (.returned (Value.tuple #[(Value.slice none 0 0), (I 2)])) w17)
(K10 [] w17)))
(fun _ w18 =>
 D (Instr.buildSlice 26 0 #[]) w18 (fun t19 w19 =>
 B Builtin.append #[26, 26] 26 #[false, false] #[t19, v0] w19 (fun t20 w20 =>
 B Builtin.append #[26, 26] 26 #[false, false] #[t20, t8] w20 (fun t21 w21 =>
 R (.returned (Value.tuple #[t21, (I 0)])) w21) X) X) X)) X) X) X) X) X)) X) X) X) X)
theorem sh_journal_Put_ok (v0 v1 : Value) (h : sh_journal_Put v0 v1 R w) : Calls Tryz.prog 49 #[v0, v1] w R :=
  calls_of_vc (c := Tryz.f49.body.getD .skip) (args := [v0, v1]) [] [] follows_mixed Tryz.func49 rfl (of_decide_eq_true (by kernel_rfl)) (by kernel_rfl) (Eq.mp (by kernel_rfl) h)
def sh_landfallref40_Kept (v0 : Value) (R : Ending → World → Prop) (w : World) : Prop := 
 letI X := Pan R
 letI D := DoV Tryz.prog
 letI B := CallB Tryz.prog
 letI I := Value.int IntKind.i64
 letI T := Operand.tmp
 letI C := Operand.const
 letI L := Instr.loadAt
 letI F := Instr.fieldAt
 letI A := Instr.indexAt
 letI V := Value.bool
(LoopE [4, 5] [(Value.slice none 0 0), (I 0)] w (fun h1 w1 K1 =>
 B Builtin.len #[68] 3 #[false] #[v0] w1 (fun t2 w2 =>
 D (binS BinOp.lss 3 (T 6) (T 8) (h1 5) t2) w2 (fun t3 w3 =>
 Br t3
(JoinE [4] (fun K4 =>
 D (A 68 v0 (h1 5)) w3 (fun t5 w5 =>
 D (F 64 t5 0) w5 (fun t6 w6 =>
 D (L 3 t6) w6 (fun t7 w7 =>
 D (binS BinOp.eql 3 (T 16) (C (I 2)) t7 (I 2)) w7 (fun t8 w8 =>
 Br t8
(D (A 68 v0 (h1 5)) w8 (fun t9 w9 =>
 D (F 64 t9 2) w9 (fun t10 w10 =>
 D (L 3 t10) w10 (fun t11 w11 =>
 B Builtin.len #[23] 3 #[false] #[(h1 4)] w11 (fun t12 w12 =>
 D (binS BinOp.neq 3 (T 22) (T 24) t11 t12) w12 (fun t13 w13 =>
 Br t13
(R (.returned (Value.tuple #[(Value.slice none 0 0), (V false)])) w13)
(K4 [(h1 4)] w13)) X) X) X) X) X)
(D (A 68 v0 (h1 5)) w8 (fun t14 w14 =>
 D (F 64 t14 1) w14 (fun t15 w15 =>
 D (F 38 t15 0) w15 (fun t16 w16 =>
 D (L 3 t16) w16 (fun t17 w17 =>
 B Builtin.len #[23] 3 #[false] #[(h1 4)] w17 (fun t18 w18 =>
 D (binS BinOp.add 3 (T 33) (C (I 1)) t18 (I 1)) w18 (fun t19 w19 =>
 D (binS BinOp.neq 3 (T 31) (T 34) t17 t19) w19 (fun t20 w20 =>
 Br t20
(R (.returned (Value.tuple #[(Value.slice none 0 0), (V false)])) w20)
(D (A 68 v0 (h1 5)) w20 (fun t21 w21 =>
 D (F 64 t21 1) w21 (fun t22 w22 =>
 D (L 38 t22) w22 (fun t23 w23 =>
 D (Instr.buildSlice 23 1 #[(0, t23)]) w23 (fun t24 w24 =>
 B Builtin.append #[23, 23] 23 #[false, false] #[(h1 4), t24] w24 (fun t25 w25 =>
 K4 [t25] w25) X) X) X) X) X)) X) X) X) X) X) X) X)) X) X) X) X)
(fun h26 w26 =>
 D (binS BinOp.add 3 (T 10) (C (I 1)) (h1 5) (I 1)) w26 (fun t27 w27 =>
 K1 [(h26 4), t27] w27) X))
(R (.returned (Value.tuple #[(h1 4), (V true)])) w3)) X) X))
theorem sh_landfallref40_Kept_ok (v0 : Value) (h : sh_landfallref40_Kept v0 R w) : Calls Tryz.prog 53 #[v0] w R :=
  calls_of_vc (c := Tryz.f53.body.getD .skip) (args := [v0]) [] [4, 5] follows_mixed Tryz.func53 rfl (of_decide_eq_true (by kernel_rfl)) (by kernel_rfl) (Eq.mp (by kernel_rfl) h)
def sh_landfallref08_Frames (v0 : Value) (R : Ending → World → Prop) (w : World) : Prop := 
 letI X := Pan R
 letI D := DoV Tryz.prog
 letI B := CallB Tryz.prog
 letI I := Value.int IntKind.i64
 letI T := Operand.tmp
(B Builtin.len #[26] 3 #[false] #[v0] w (fun t1 w1 =>
 D (binS BinOp.gtr 3 (T 10) (Operand.const (I 200000)) t1 (I 200000)) w1 (fun t2 w2 =>
 Br t2
(R (.returned (Value.tuple #[(Value.slice none 0 0), (I 0), (I 2)])) w2)
(LoopE [5, 6] [(Value.slice none 0 0), (I 0)] w2 (fun h3 w3 K3 =>
 D (Instr.sliceAt 26 v0 (some (h3 6)) none none) w3 (fun t4 w4 =>
 CallF Tryz.prog 79 #[t4] w4 (fun t5 w5 =>
 D (Instr.extract t5 0) w5 (fun t6 w6 =>
 D (Instr.extract t5 1) w6 (fun t7 w7 =>
 D (binS BinOp.eql 3 (T 19) (Operand.const (I 0)) t7 (I 0)) w7 (fun t8 w8 =>
 Br t8
(R (.returned (Value.tuple #[(h3 5), (h3 6), (I 0)])) w8)
(D (Instr.buildSlice 86 1 #[(0, t6)]) w8 (fun t9 w9 =>
 B Builtin.append #[86, 86] 86 #[false, false] #[(h3 5), t9] w9 (fun t10 w10 =>
 D (binS BinOp.add 3 (T 27) (T 28) (h3 6) t7) w10 (fun t11 w11 =>
 K3 [t10, t11] w11) X) X) X)) X) X) X) X) X))) X) X)
theorem sh_landfallref08_Frames_ok (v0 : Value) (h : sh_landfallref08_Frames v0 R w) : Calls Tryz.prog 55 #[v0] w R :=
  calls_of_vc (c := Tryz.f55.body.getD .skip) (args := [v0]) [] [5, 6] follows_mixed Tryz.func55 rfl (of_decide_eq_true (by kernel_rfl)) (by kernel_rfl) (Eq.mp (by kernel_rfl) h)
def sh_landfallref40_Record (v0 : Value) (R : Ending → World → Prop) (w : World) : Prop := 
 letI X := Pan R
 letI D := DoV Tryz.prog
 letI U := DoU Tryz.prog
 letI Q := CallF Tryz.prog
 letI B := CallB Tryz.prog
 letI I := Value.int IntKind.i64
 letI T := Operand.tmp
 letI C := Operand.const
 letI L := Instr.loadAt
 letI S := Instr.storeAt
 letI A := Instr.indexAt
 letI N := Instr.alloc
 letI V := Value.bool
 letI J := BinOp.eql
(D (N 64 true (.tuple #[])) w (fun t1 w1 =>
 JoinE [] (fun K2 =>
 JoinE [15] (fun K3 =>
 B Builtin.len #[91] 3 #[false] #[v0] w1 (fun t4 w4 =>
 D (binS J 3 (T 8) (C (I 13)) t4 (I 13)) w4 (fun t5 w5 =>
 Gd t5 true (D (A 91 v0 (I 0)) w5 (fun t6 w6 =>
 D (L 3 t6) w6 (fun t7 w7 =>
 D (binS J 3 (T 13) (C (I 1)) t7 (I 1)) w7 (fun t8 w8 =>
 K3 [t8] w8) X) X) X)
(K3 [(V false)] w5)) X) X)
(fun h9 w9 =>
 Br (h9 15)
(DrawE w9 (fun Rs10 Rb10 w10 =>
 DetOp Rb10 Rs10 w10 (fun w11 K11 => D (A 91 v0 (I 1)) w11 K11 X) (fun c17_11 ψ11 =>
 DetOp Rb10 Rs10 w10 (fun w12 K12 => D (L 3 c17_11) w12 K12 X) (fun c18_12 ψ12 =>
 DetOp Rb10 Rs10 w10 (fun w13 K13 => D (A 91 v0 (I 2)) w13 K13 X) (fun c20_13 ψ13 =>
 DetOp Rb10 Rs10 w10 (fun w14 K14 => D (L 3 c20_13) w14 K14 X) (fun c21_14 ψ14 =>
 DetOp Rb10 Rs10 w10 (fun w15 K15 => D (A 91 v0 (I 3)) w15 K15 X) (fun c23_15 ψ15 =>
 DetOp Rb10 Rs10 w10 (fun w16 K16 => D (L 3 c23_15) w16 K16 X) (fun c24_16 ψ16 =>
 DetOp Rb10 Rs10 w10 (fun w17 K17 => D (A 91 v0 (I 4)) w17 K17 X) (fun c26_17 ψ17 =>
 DetOp Rb10 Rs10 w10 (fun w18 K18 => D (L 3 c26_17) w18 K18 X) (fun c27_18 ψ18 =>
 DetOp Rb10 Rs10 w10 (fun w19 K19 => D (A 91 v0 (I 5)) w19 K19 X) (fun c29_19 ψ19 =>
 DetOp Rb10 Rs10 w10 (fun w20 K20 => D (L 3 c29_19) w20 K20 X) (fun c30_20 ψ20 =>
 DetOp Rb10 Rs10 w10 (fun w21 K21 => D (A 91 v0 (I 6)) w21 K21 X) (fun c32_21 ψ21 =>
 DetOp Rb10 Rs10 w10 (fun w22 K22 => D (L 3 c32_21) w22 K22 X) (fun c33_22 ψ22 =>
 DetOp Rb10 Rs10 w10 (fun w23 K23 => D (A 91 v0 (I 7)) w23 K23 X) (fun c35_23 ψ23 =>
 DetOp Rb10 Rs10 w10 (fun w24 K24 => D (L 3 c35_23) w24 K24 X) (fun c36_24 ψ24 =>
 DetOp Rb10 Rs10 w10 (fun w25 K25 => D (A 91 v0 (I 8)) w25 K25 X) (fun c38_25 ψ25 =>
 DetOp Rb10 Rs10 w10 (fun w26 K26 => D (L 3 c38_25) w26 K26 X) (fun c39_26 ψ26 =>
 DetOp Rb10 Rs10 w10 (fun w27 K27 => D (A 91 v0 (I 9)) w27 K27 X) (fun c41_27 ψ27 =>
 DetOp Rb10 Rs10 w10 (fun w28 K28 => D (L 3 c41_27) w28 K28 X) (fun c42_28 ψ28 =>
 DetOp Rb10 Rs10 w10 (fun w29 K29 => D (Instr.build 36 #[(0, c39_26), (1, c42_28)]) w29 K29 X) (fun c43_29 ψ29 =>
 DetOp Rb10 Rs10 w10 (fun w30 K30 => D (A 91 v0 (I 10)) w30 K30 X) (fun c45_30 ψ30 =>
 DetOp Rb10 Rs10 w10 (fun w31 K31 => D (L 3 c45_30) w31 K31 X) (fun c46_31 ψ31 =>
 DetOp Rb10 Rs10 w10 (fun w32 K32 => D (A 91 v0 (I 11)) w32 K32 X) (fun c48_32 ψ32 =>
 DetOp Rb10 Rs10 w10 (fun w33 K33 => D (L 3 c48_32) w33 K33 X) (fun c49_33 ψ33 =>
 DetOp Rb10 Rs10 w10 (fun w34 K34 => D (A 91 v0 (I 12)) w34 K34 X) (fun c51_34 ψ34 =>
 DetOp Rb10 Rs10 w10 (fun w35 K35 => D (L 3 c51_34) w35 K35 X) (fun c52_35 ψ35 =>
 DetOp Rb10 Rs10 w10 (fun w36 K36 => D (Instr.build 38 #[(0, c18_12), (1, c21_14), (2, c24_16), (3, c27_18), (4, c30_20), (5, c33_22), (6, c36_24), (7, c43_29), (8, c46_31), (9, c49_33), (10, c52_35)]) w36 K36 X) (fun c53_36 ψ36 =>
 NdOp Rb10 Rs10 w10 (fun w37 K37 => D (N 38 true (.tuple #[])) w37 K37 X) (fun v4_37 φ37 =>
 ∀ w38, Rb10 w10 w38 → ((((((((((((((((((((((((((True ∧ ψ11 w38) ∧ ψ12 w38) ∧ ψ13 w38) ∧ ψ14 w38) ∧ ψ15 w38) ∧ ψ16 w38) ∧ ψ17 w38) ∧ ψ18 w38) ∧ ψ19 w38) ∧ ψ20 w38) ∧ ψ21 w38) ∧ ψ22 w38) ∧ ψ23 w38) ∧ ψ24 w38) ∧ ψ25 w38) ∧ ψ26 w38) ∧ ψ27 w38) ∧ ψ28 w38) ∧ ψ29 w38) ∧ ψ30 w38) ∧ ψ31 w38) ∧ ψ32 w38) ∧ ψ33 w38) ∧ ψ34 w38) ∧ ψ35 w38) ∧ ψ36 w38) ∧ φ37 w38 →
 U (S 38 v4_37 c53_36) w38 (fun _ w39 =>
 DrawE w39 (fun Rs40 Rb40 w40 =>
 DetOp Rb40 Rs40 w40 (fun w41 K41 => D (A 91 v0 (I 0)) w41 K41 X) (fun c55_41 ψ41 =>
 DetOp Rb40 Rs40 w40 (fun w42 K42 => D (L 3 c55_41) w42 K42 X) (fun c56_42 ψ42 =>
 DetOp Rb40 Rs40 w40 (fun w43 K43 => D (L 38 v4_37) w43 K43 X) (fun c57_43 ψ43 =>
 DetOp Rb40 Rs40 w40 (fun w44 K44 => D (Instr.build 64 #[(0, c56_42), (1, c57_43)]) w44 K44 X) (fun c58_44 ψ44 =>
 NdOp Rb40 Rs40 w40 (fun w45 K45 => D (N 64 true (.tuple #[])) w45 K45 X) (fun v5_45 φ45 =>
 ∀ w46, Rb40 w40 w46 → ((((True ∧ ψ41 w46) ∧ ψ42 w46) ∧ ψ43 w46) ∧ ψ44 w46) ∧ φ45 w46 →
 U (S 64 v5_45 c58_44) w46 (fun _ w47 =>
 DrawE w47 (fun Rs48 Rb48 w48 =>
 DetOp Rb48 Rs48 w48 (fun w49 K49 => D (L 64 v5_45) w49 K49 X) (fun c59_49 ψ49 =>
 DetOp Rb48 Rs48 w48 (fun w50 K50 => D (L 64 v5_45) w50 K50 X) (fun c60_50 ψ50 =>
 DetOp Rs48 Rb48 w48 (fun w51 K51 => Q 65 #[c60_50] w51 K51 X) (fun c61_51 ψ51 =>
 ∀ w52, Rb48 w48 w52 → (((True ∧ ψ49 w52) ∧ ψ50 w52) ∧ ψ51 w52) →
 U (S 64 t1 c59_49) w52 (fun _ w53 =>
 Res Tryz.prog [.cell t1 64, .tmp c61_51] w53 R) X))))) X))))))) X)))))))))))))))))))))))))))))
(K2 [] w9)))
(fun _ w54 =>
 JoinE [] (fun K55 =>
 JoinE [82] (fun K56 =>
 B Builtin.len #[91] 3 #[false] #[v0] w54 (fun t57 w57 =>
 D (binS J 3 (T 63) (C (I 4)) t57 (I 4)) w57 (fun t58 w58 =>
 Gd t58 true (D (A 91 v0 (I 0)) w58 (fun t59 w59 =>
 D (L 3 t59) w59 (fun t60 w60 =>
 D (binS J 3 (T 68) (C (I 2)) t60 (I 2)) w60 (fun t61 w61 =>
 Gd t61 true (D (A 91 v0 (I 2)) w61 (fun t62 w62 =>
 D (L 3 t62) w62 (fun t63 w63 =>
 Q 80 #[t63] w63 (fun t64 w64 =>
 Gd t64 true (D (A 91 v0 (I 3)) w64 (fun t65 w65 =>
 D (L 3 t65) w65 (fun t66 w66 =>
 Q 80 #[t66] w66 (fun t67 w67 =>
 K56 [t67] w67) X) X) X)
(K56 [(V false)] w64)) X) X) X)
(K56 [(V false)] w61)) X) X) X)
(K56 [(V false)] w58)) X) X)
(fun h68 w68 =>
 Br (h68 82)
(DrawE w68 (fun Rs69 Rb69 w69 =>
 DetOp Rb69 Rs69 w69 (fun w70 K70 => D (A 91 v0 (I 0)) w70 K70 X) (fun c84_70 ψ70 =>
 DetOp Rb69 Rs69 w69 (fun w71 K71 => D (L 3 c84_70) w71 K71 X) (fun c85_71 ψ71 =>
 DetOp Rb69 Rs69 w69 (fun w72 K72 => D (A 91 v0 (I 1)) w72 K72 X) (fun c87_72 ψ72 =>
 DetOp Rb69 Rs69 w69 (fun w73 K73 => D (L 3 c87_72) w73 K73 X) (fun c88_73 ψ73 =>
 DetOp Rb69 Rs69 w69 (fun w74 K74 => D (A 91 v0 (I 2)) w74 K74 X) (fun c90_74 ψ74 =>
 DetOp Rb69 Rs69 w69 (fun w75 K75 => D (L 3 c90_74) w75 K75 X) (fun c91_75 ψ75 =>
 DetOp Rb69 Rs69 w69 (fun w76 K76 => D (convert 3 61 c91_75) w76 K76 X) (fun c92_76 ψ76 =>
 DetOp Rb69 Rs69 w69 (fun w77 K77 => D (binS BinOp.mul 61 (T 92) (C (Value.int IntKind.u64 4294967296)) c92_76 (Value.int IntKind.u64 4294967296)) w77 K77 X) (fun c93_77 ψ77 =>
 DetOp Rb69 Rs69 w69 (fun w78 K78 => D (A 91 v0 (I 3)) w78 K78 X) (fun c95_78 ψ78 =>
 DetOp Rb69 Rs69 w69 (fun w79 K79 => D (L 3 c95_78) w79 K79 X) (fun c96_79 ψ79 =>
 DetOp Rb69 Rs69 w69 (fun w80 K80 => D (convert 3 61 c96_79) w80 K80 X) (fun c97_80 ψ80 =>
 DetOp Rb69 Rs69 w69 (fun w81 K81 => D (binS BinOp.add 61 (T 93) (T 97) c93_77 c97_80) w81 K81 X) (fun c98_81 ψ81 =>
 DetOp Rb69 Rs69 w69 (fun w82 K82 => D (Instr.build 64 #[(0, c85_71), (2, c88_73), (3, c98_81)]) w82 K82 X) (fun c99_82 ψ82 =>
 NdOp Rb69 Rs69 w69 (fun w83 K83 => D (N 64 true (.tuple #[])) w83 K83 X) (fun v6_83 φ83 =>
 ∀ w84, Rb69 w69 w84 → (((((((((((((True ∧ ψ70 w84) ∧ ψ71 w84) ∧ ψ72 w84) ∧ ψ73 w84) ∧ ψ74 w84) ∧ ψ75 w84) ∧ ψ76 w84) ∧ ψ77 w84) ∧ ψ78 w84) ∧ ψ79 w84) ∧ ψ80 w84) ∧ ψ81 w84) ∧ ψ82 w84) ∧ φ83 w84 →
 U (S 64 v6_83 c99_82) w84 (fun _ w85 =>
 DrawE w85 (fun Rs86 Rb86 w86 =>
 DetOp Rb86 Rs86 w86 (fun w87 K87 => D (L 64 v6_83) w87 K87 X) (fun c100_87 ψ87 =>
 DetOp Rb86 Rs86 w86 (fun w88 K88 => D (L 64 v6_83) w88 K88 X) (fun c101_88 ψ88 =>
 DetOp Rs86 Rb86 w86 (fun w89 K89 => Q 65 #[c101_88] w89 K89 X) (fun c102_89 ψ89 =>
 ∀ w90, Rb86 w86 w90 → (((True ∧ ψ87 w90) ∧ ψ88 w90) ∧ ψ89 w90) →
 U (S 64 t1 c100_87) w90 (fun _ w91 =>
 Res Tryz.prog [.cell t1 64, .tmp c102_89] w91 R) X))))) X))))))))))))))))
(K55 [] w68)))
(fun _ w92 =>
 D (Instr.build 64 #[]) w92 (fun t93 w93 =>
 U (S 64 t1 t93) w93 (fun _ w94 =>
 Res Tryz.prog [.cell t1 64, .tmp (V false)] w94 R) X) X))) X)
theorem sh_landfallref40_Record_ok (v0 : Value) (h : sh_landfallref40_Record v0 R w) : Calls Tryz.prog 56 #[v0] w R :=
  calls_of_vc (c := Tryz.f56.body.getD .skip) (args := [v0]) [(2, 38, true, 0), (3, 5, true, 0), (4, 3, false, 3), (6, 17, true, 0), (7, 3, false, 3)] [] follows_mixed Tryz.func56 rfl (of_decide_eq_true (by kernel_rfl)) (by kernel_rfl) (Eq.mp (by kernel_rfl) h)
def sh_landfallref08_Frame (v0 : Value) (R : Ending → World → Prop) (w : World) : Prop := 
 letI X := Pan R
 letI D := DoV Tryz.prog
 letI Q := CallF Tryz.prog
 letI B := CallB Tryz.prog
 letI I := Value.int IntKind.i64
 letI T := Operand.tmp
 letI C := Operand.const
(Q 81 #[v0] w (fun t1 w1 =>
 D (Instr.extract t1 0) w1 (fun t2 w2 =>
 D (Instr.extract t1 1) w2 (fun t3 w3 =>
 D (binS BinOp.neq 32 (T 12) (C (I 0)) t3 (I 0)) w3 (fun t4 w4 =>
 Br t4
(R (.returned (Value.tuple #[(Value.slice none 0 0), t3])) w4)
(B Builtin.len #[26] 3 #[false] #[t2] w4 (fun t5 w5 =>
 D (binS BinOp.quo 3 (T 16) (C (I 65536)) t5 (I 65536)) w5 (fun t6 w6 =>
 D (convert 3 5 t6) w6 (fun t7 w7 =>
 B Builtin.len #[26] 3 #[false] #[t2] w7 (fun t8 w8 =>
 D (binS BinOp.quo 3 (T 20) (C (I 256)) t8 (I 256)) w8 (fun t9 w9 =>
 D (binS BinOp.rem 3 (T 21) (C (I 256)) t9 (I 256)) w9 (fun t10 w10 =>
 D (convert 3 5 t10) w10 (fun t11 w11 =>
 B Builtin.len #[26] 3 #[false] #[t2] w11 (fun t12 w12 =>
 D (binS BinOp.rem 3 (T 25) (C (I 256)) t12 (I 256)) w12 (fun t13 w13 =>
 D (convert 3 5 t13) w13 (fun t14 w14 =>
 D (Instr.buildSlice 26 3 #[(0, t7), (1, t11), (2, t14)]) w14 (fun t15 w15 =>
 B Builtin.append #[26, 26] 26 #[false, false] #[t15, t2] w15 (fun t16 w16 =>
 D (convert 26 9 t16) w16 (fun t17 w17 =>
 Q 83 #[t17] w17 (fun t18 w18 =>
 Q 82 #[t18] w18 (fun t19 w19 =>
 B Builtin.append #[26, 26] 26 #[false, false] #[t16, t19] w19 (fun t20 w20 =>
 R (.returned (Value.tuple #[t20, (I 0)])) w20) X) X) X) X) X) X) X) X) X) X) X) X) X) X) X) X)) X) X) X) X)
theorem sh_landfallref08_Frame_ok (v0 : Value) (h : sh_landfallref08_Frame v0 R w) : Calls Tryz.prog 57 #[v0] w R :=
  calls_of_vc (c := Tryz.f57.body.getD .skip) (args := [v0]) [] [] follows_mixed Tryz.func57 rfl (of_decide_eq_true (by kernel_rfl)) (by kernel_rfl) (Eq.mp (by kernel_rfl) h)
def sh_landfallref40_Ints (v0 : Value) (R : Ending → World → Prop) (w : World) : Prop := 
 letI X := Pan R
 letI D := DoV Tryz.prog
 letI I := Value.int IntKind.i64
 letI T := Operand.tmp
 letI C := Operand.const
 letI L := Instr.loadAt
 letI F := Instr.fieldAt
(D (Instr.box 64 v0) w (fun t1 w1 =>
 D (F 64 t1 0) w1 (fun t2 w2 =>
 D (L 3 t2) w2 (fun t3 w3 =>
 D (binS BinOp.eql 3 (T 5) (C (I 2)) t3 (I 2)) w3 (fun t4 w4 =>
 Br t4
(D (F 64 t1 0) w4 (fun t5 w5 =>
 D (L 3 t5) w5 (fun t6 w6 =>
 D (F 64 t1 2) w6 (fun t7 w7 =>
 D (L 3 t7) w7 (fun t8 w8 =>
 D (F 64 t1 3) w8 (fun t9 w9 =>
 D (L 61 t9) w9 (fun t10 w10 =>
 D (binS BinOp.quo 61 (T 12) (C (Value.int IntKind.u64 4294967296)) t10 (Value.int IntKind.u64 4294967296)) w10 (fun t11 w11 =>
 D (convert 61 3 t11) w11 (fun t12 w12 =>
 D (F 64 t1 3) w12 (fun t13 w13 =>
 D (L 61 t13) w13 (fun t14 w14 =>
 D (binS BinOp.rem 61 (T 16) (C (Value.int IntKind.u64 4294967296)) t14 (Value.int IntKind.u64 4294967296)) w14 (fun t15 w15 =>
 D (convert 61 3 t15) w15 (fun t16 w16 =>
 D (Instr.buildSlice 91 4 #[(0, t6), (1, t8), (2, t12), (3, t16)]) w16 (fun t17 w17 =>
 R (.returned t17) w17) X) X) X) X) X) X) X) X) X) X) X) X) X)
(D (F 64 t1 1) w4 (fun t18 w18 =>
 D (L 38 t18) w18 (fun t19 w19 =>
 D (Instr.alloc 38 true (.tuple #[])) w19 (fun t20 w20 =>
 DoU Tryz.prog (Instr.storeAt 38 t20 t19) w20 (fun _ w21 =>
 D (F 64 t1 0) w21 (fun t22 w22 =>
 D (L 3 t22) w22 (fun t23 w23 =>
 D (F 38 t20 0) w23 (fun t24 w24 =>
 D (L 3 t24) w24 (fun t25 w25 =>
 D (F 38 t20 1) w25 (fun t26 w26 =>
 D (L 3 t26) w26 (fun t27 w27 =>
 D (F 38 t20 2) w27 (fun t28 w28 =>
 D (L 3 t28) w28 (fun t29 w29 =>
 D (F 38 t20 3) w29 (fun t30 w30 =>
 D (L 3 t30) w30 (fun t31 w31 =>
 D (F 38 t20 4) w31 (fun t32 w32 =>
 D (L 3 t32) w32 (fun t33 w33 =>
 D (F 38 t20 5) w33 (fun t34 w34 =>
 D (L 3 t34) w34 (fun t35 w35 =>
 D (F 38 t20 6) w35 (fun t36 w36 =>
 D (L 3 t36) w36 (fun t37 w37 =>
 D (F 38 t20 7) w37 (fun t38 w38 =>
 D (F 36 t38 0) w38 (fun t39 w39 =>
 D (L 3 t39) w39 (fun t40 w40 =>
 D (F 38 t20 7) w40 (fun t41 w41 =>
 D (F 36 t41 1) w41 (fun t42 w42 =>
 D (L 3 t42) w42 (fun t43 w43 =>
 D (F 38 t20 8) w43 (fun t44 w44 =>
 D (L 3 t44) w44 (fun t45 w45 =>
 D (F 38 t20 9) w45 (fun t46 w46 =>
 D (L 3 t46) w46 (fun t47 w47 =>
 D (F 38 t20 10) w47 (fun t48 w48 =>
 D (L 3 t48) w48 (fun t49 w49 =>
 D (Instr.buildSlice 91 13 #[(0, t23), (1, t25), (2, t27), (3, t29), (4, t31), (5, t33), (6, t35), (7, t37), (8, t40), (9, t43), (10, t45), (11, t47), (12, t49)]) w49 (fun t50 w50 =>
 R (.returned t50) w50) X) X) X) X) X) X) X) X) X) X) X) X) X) X) X) X) X) X) X) X) X) X) X) X) X) X) X) X) X) X) X) X) X)) X) X) X) X)
theorem sh_landfallref40_Ints_ok (v0 : Value) (h : sh_landfallref40_Ints v0 R w) : Calls Tryz.prog 58 #[v0] w R :=
  calls_of_vc (c := Tryz.f58.body.getD .skip) (args := [v0]) [] [] follows_mixed Tryz.func58 rfl (of_decide_eq_true (by kernel_rfl)) (by kernel_rfl) (Eq.mp (by kernel_rfl) h)
def sh_landfallref40_Form (v0 : Value) (R : Ending → World → Prop) (w : World) : Prop := 
 letI X := Pan R
 letI D := DoV Tryz.prog
 letI I := Value.int IntKind.i64
 letI T := Operand.tmp
 letI C := Operand.const
 letI L := Instr.loadAt
 letI F := Instr.fieldAt
 letI V := Value.bool
 letI J := BinOp.eql
(D (Instr.box 64 v0) w (fun t1 w1 =>
 D (F 64 t1 0) w1 (fun t2 w2 =>
 D (L 3 t2) w2 (fun t3 w3 =>
 D (binS J 3 (T 4) (C (I 1)) t3 (I 1)) w3 (fun t4 w4 =>
 Br t4
(D (F 64 t1 1) w4 (fun t5 w5 =>
 D (F 38 t5 0) w5 (fun t6 w6 =>
 D (L 3 t6) w6 (fun t7 w7 =>
 D (binS BinOp.geq 3 (T 8) (C (I 1)) t7 (I 1)) w7 (fun t8 w8 =>
 Gd t8 true (D (F 64 t1 1) w8 (fun t9 w9 =>
 D (F 38 t9 0) w9 (fun t10 w10 =>
 D (L 3 t10) w10 (fun t11 w11 =>
 D (binS BinOp.leq 3 (T 13) (C (I 2000)) t11 (I 2000)) w11 (fun t12 w12 =>
 Gd t12 true (D (F 64 t1 2) w12 (fun t13 w13 =>
 D (L 3 t13) w13 (fun t14 w14 =>
 D (binS J 3 (T 18) (C (I 0)) t14 (I 0)) w14 (fun t15 w15 =>
 Gd t15 true (D (F 64 t1 3) w15 (fun t16 w16 =>
 D (L 61 t16) w16 (fun t17 w17 =>
 D (binS J 61 (T 23) (C (Value.int IntKind.u64 0)) t17 (Value.int IntKind.u64 0)) w17 (fun t18 w18 =>
 R (.returned t18) w18) X) X) X)
(R (.returned (V false)) w15)) X) X) X)
(R (.returned (V false)) w12)) X) X) X) X)
(R (.returned (V false)) w8)) X) X) X) X)
(D (F 64 t1 0) w4 (fun t19 w19 =>
 D (L 3 t19) w19 (fun t20 w20 =>
 D (binS J 3 (T 27) (C (I 2)) t20 (I 2)) w20 (fun t21 w21 =>
 Gd t21 true (D (F 64 t1 1) w21 (fun t22 w22 =>
 D (L 38 t22) w22 (fun t23 w23 =>
 D (Instr.build 38 #[]) w23 (fun t24 w24 =>
 D (binS J 38 (T 31) (T 32) t23 t24) w24 (fun t25 w25 =>
 Gd t25 true (D (F 64 t1 2) w25 (fun t26 w26 =>
 D (L 3 t26) w26 (fun t27 w27 =>
 D (binS BinOp.geq 3 (T 37) (C (I 0)) t27 (I 0)) w27 (fun t28 w28 =>
 Gd t28 true (D (F 64 t1 2) w28 (fun t29 w29 =>
 D (L 3 t29) w29 (fun t30 w30 =>
 D (binS BinOp.leq 3 (T 42) (C (I 2000)) t30 (I 2000)) w30 (fun t31 w31 =>
 R (.returned t31) w31) X) X) X)
(R (.returned (V false)) w28)) X) X) X)
(R (.returned (V false)) w25)) X) X) X) X)
(R (.returned (V false)) w21)) X) X) X)) X) X) X) X)
theorem sh_landfallref40_Form_ok (v0 : Value) (h : sh_landfallref40_Form v0 R w) : Calls Tryz.prog 65 #[v0] w R :=
  calls_of_vc (c := Tryz.f65.body.getD .skip) (args := [v0]) [] [] follows_mixed Tryz.func65 rfl (of_decide_eq_true (by kernel_rfl)) (by kernel_rfl) (Eq.mp (by kernel_rfl) h)
def sh_landfallref05_Next (v0 v1 : Value) (R : Ending → World → Prop) (w : World) : Prop := 
 letI X := Pan R
 letI Q := CallF Tryz.prog
(Q 91 #[v0, v1] w (fun t1 w1 =>
 DoV Tryz.prog (convert 26 9 t1) w1 (fun t2 w2 =>
 Q 83 #[t2] w2 (fun t3 w3 =>
 R (.returned t3) w3) X) X) X)
theorem sh_landfallref05_Next_ok (v0 v1 : Value) (h : sh_landfallref05_Next v0 v1 R w) : Calls Tryz.prog 66 #[v0, v1] w R :=
  calls_of_vc (c := Tryz.f66.body.getD .skip) (args := [v0, v1]) [] [] follows_mixed Tryz.func66 rfl (of_decide_eq_true (by kernel_rfl)) (by kernel_rfl) (Eq.mp (by kernel_rfl) h)
def sh_landfallref05_Sum (v0 : Value) (R : Ending → World → Prop) (w : World) : Prop := 
 letI Q := CallF Tryz.prog
(Q 83 #[(Value.string { data := #[] })] w (fun t1 w1 =>
 Q 66 #[t1, v0] w1 (fun t2 w2 =>
 R (.returned t2) w2) (Pan R)) (Pan R))
theorem sh_landfallref05_Sum_ok (v0 : Value) (h : sh_landfallref05_Sum v0 R w) : Calls Tryz.prog 68 #[v0] w R :=
  calls_of_vc (c := Tryz.f68.body.getD .skip) (args := [v0]) [] [] follows_mixed Tryz.func68 rfl (of_decide_eq_true (by kernel_rfl)) (by kernel_rfl) (Eq.mp (by kernel_rfl) h)
def sh_journal_Load (v0 : Value) (R : Ending → World → Prop) (w : World) : Prop := 
 letI X := Pan R
 letI D := DoV Tryz.prog
 letI Q := CallF Tryz.prog
 letI B := CallB Tryz.prog
 letI I := Value.int IntKind.i64
 letI T := Operand.tmp
 letI E := Instr.extract
(Q 93 #[v0] w (fun t1 w1 =>
 D (E t1 0) w1 (fun t2 w2 =>
 D (E t1 1) w2 (fun _ w3 =>
 D (E t1 2) w3 (fun t4 w4 =>
 D (binS BinOp.neq 32 (T 22) (Operand.const (I 0)) t4 (I 0)) w4 (fun t5 w5 =>
 Br t5
(R (.returned (Value.tuple #[(Value.slice none 0 0), (I 0), t4])) w5)
(JoinE [8, 9, 27] (fun K6 =>
 B Builtin.len #[86] 3 #[false] #[t2] w5 (fun t7 w7 =>
 LoopE [8, 9, 27] [(Value.slice none 0 0), (I 0), (I 0)] w7 (fun h8 w8 K8 =>
 D (binS BinOp.lss 3 (T 27) (T 26) (h8 27) t7) w8 (fun t9 w9 =>
 Br t9
(D (Instr.indexAt 86 t2 (h8 27)) w9 (fun t10 w10 =>
 D (Instr.loadAt 91 t10) w10 (fun t11 w11 =>
 Q 94 #[t11] w11 (fun t12 w12 =>
 D (E t12 0) w12 (fun t13 w13 =>
 D (E t12 1) w13 (fun t14 w14 =>
 D (Instr.alloc 64 true (.tuple #[])) w14 (fun t15 w15 =>
 DoU Tryz.prog (Instr.storeAt 64 t15 t13) w15 (fun _ w16 =>
 D (Op.unary UnOp.not t14) w16 (fun t17 w17 =>
 Br t17
(K6 [(h8 8), (h8 9), (h8 27)] w17)
(Q 75 #[t11] w17 (fun t18 w18 =>
 D (E t18 0) w18 (fun t19 w19 =>
 D (E t18 1) w19 (fun _ w20 =>
 D (Instr.loadAt 64 t15) w20 (fun t21 w21 =>
 D (Instr.buildSlice 68 1 #[(0, t21)]) w21 (fun t22 w22 =>
 B Builtin.append #[68, 68] 68 #[false, false] #[(h8 8), t22] w22 (fun t23 w23 =>
 B Builtin.len #[26] 3 #[false] #[t19] w23 (fun t24 w24 =>
 D (binS BinOp.add 3 (T 47) (T 49) (h8 9) t24) w24 (fun t25 w25 =>
 D (binS BinOp.add 3 (T 27) (Operand.const (I 1)) (h8 27) (I 1)) w25 (fun t26 w26 =>
 K8 [t23, t25, t26] w26) X) X) X) X) X) X) X) X) X)) X) X) X) X) X) X) X) X)
(K6 [(h8 8), (h8 9), (h8 27)] w9)) X)) X)
(fun h27 w27 =>
 R (.returned (Value.tuple #[(h27 8), (h27 9), (I 0)])) w27))) X) X) X) X) X)
theorem sh_journal_Load_ok (v0 : Value) (h : sh_journal_Load v0 R w) : Calls Tryz.prog 71 #[v0] w R :=
  calls_of_vc (c := Tryz.f71.body.getD .skip) (args := [v0]) [] [8, 9, 27] follows_mixed Tryz.func71 rfl (of_decide_eq_true (by kernel_rfl)) (by kernel_rfl) (Eq.mp (by kernel_rfl) h)
def sh_journal_isRecord (v0 : Value) (R : Ending → World → Prop) (w : World) : Prop := 
 letI X := Pan R
 letI D := DoV Tryz.prog
 letI I := Value.int IntKind.i64
 letI T := Operand.tmp
 letI C := Operand.const
 letI L := Instr.loadAt
 letI F := Instr.fieldAt
 letI V := Value.bool
 letI J := BinOp.eql
(D (Instr.box 64 v0) w (fun t1 w1 =>
 D (F 64 t1 0) w1 (fun t2 w2 =>
 D (L 3 t2) w2 (fun t3 w3 =>
 D (binS J 3 (T 4) (C (I 1)) t3 (I 1)) w3 (fun t4 w4 =>
 Br t4
(D (F 64 t1 1) w4 (fun t5 w5 =>
 D (F 38 t5 0) w5 (fun t6 w6 =>
 D (L 3 t6) w6 (fun t7 w7 =>
 D (binS BinOp.leq 3 (C (I 1)) (T 9) (I 1) t7) w7 (fun t8 w8 =>
 Gd t8 true (D (F 64 t1 1) w8 (fun t9 w9 =>
 D (F 38 t9 0) w9 (fun t10 w10 =>
 D (L 3 t10) w10 (fun t11 w11 =>
 D (binS BinOp.leq 3 (T 14) (C (I 2000)) t11 (I 2000)) w11 (fun t12 w12 =>
 Gd t12 true (D (F 64 t1 2) w12 (fun t13 w13 =>
 D (L 3 t13) w13 (fun t14 w14 =>
 D (binS J 3 (T 19) (C (I 0)) t14 (I 0)) w14 (fun t15 w15 =>
 Gd t15 true (D (F 64 t1 3) w15 (fun t16 w16 =>
 D (L 61 t16) w16 (fun t17 w17 =>
 D (binS J 61 (T 24) (C (Value.int IntKind.u64 0)) t17 (Value.int IntKind.u64 0)) w17 (fun t18 w18 =>
 R (.returned t18) w18) X) X) X)
(R (.returned (V false)) w15)) X) X) X)
(R (.returned (V false)) w12)) X) X) X) X)
(R (.returned (V false)) w8)) X) X) X) X)
(D (binS J 3 (T 4) (C (I 2)) t3 (I 2)) w4 (fun t19 w19 =>
 Br t19
(D (F 64 t1 2) w19 (fun t20 w20 =>
 D (L 3 t20) w20 (fun t21 w21 =>
 D (binS BinOp.leq 3 (C (I 0)) (T 30) (I 0) t21) w21 (fun t22 w22 =>
 Gd t22 true (D (F 64 t1 2) w22 (fun t23 w23 =>
 D (L 3 t23) w23 (fun t24 w24 =>
 D (binS BinOp.leq 3 (T 34) (C (I 2000)) t24 (I 2000)) w24 (fun t25 w25 =>
 Gd t25 true (D (F 64 t1 1) w25 (fun t26 w26 =>
 D (L 38 t26) w26 (fun t27 w27 =>
 D (Instr.build 38 #[]) w27 (fun t28 w28 =>
 D (binS J 38 (T 39) (T 40) t27 t28) w28 (fun t29 w29 =>
 R (.returned t29) w29) X) X) X) X)
(R (.returned (V false)) w25)) X) X) X)
(R (.returned (V false)) w22)) X) X) X)
(R (.returned (V false)) w19)) X)) X) X) X) X)
theorem sh_journal_isRecord_ok (v0 : Value) (h : sh_journal_isRecord v0 R w) : Calls Tryz.prog 74 #[v0] w R :=
  calls_of_vc (c := Tryz.f74.body.getD .skip) (args := [v0]) [] [] follows_mixed Tryz.func74 rfl (of_decide_eq_true (by kernel_rfl)) (by kernel_rfl) (Eq.mp (by kernel_rfl) h)
def sh_codec_Frame (v0 : Value) (R : Ending → World → Prop) (w : World) : Prop := 
 letI X := Pan R
 letI D := DoV Tryz.prog
 letI Q := CallF Tryz.prog
 letI B := CallB Tryz.prog
 letI I := Value.int IntKind.i64
 letI T := Operand.tmp
 letI C := Operand.const
(Q 96 #[v0] w (fun t1 w1 =>
 D (Instr.extract t1 0) w1 (fun t2 w2 =>
 D (Instr.extract t1 1) w2 (fun t3 w3 =>
 D (binS BinOp.neq 32 (T 13) (C (I 0)) t3 (I 0)) w3 (fun t4 w4 =>
 Br t4
(R (.returned (Value.tuple #[(Value.slice none 0 0), t3])) w4)
(B Builtin.len #[26] 3 #[false] #[t2] w4 (fun t5 w5 =>
 D (binS BinOp.shr 3 (T 18) (C (Value.int IntKind.u64 16)) t5 (Value.int IntKind.u64 16)) w5 (fun t6 w6 =>
 D (convert 3 5 t6) w6 (fun t7 w7 =>
 D (binS BinOp.shr 3 (T 21) (C (Value.int IntKind.u64 8)) t5 (Value.int IntKind.u64 8)) w7 (fun t8 w8 =>
 D (convert 3 5 t8) w8 (fun t9 w9 =>
 D (convert 3 5 t5) w9 (fun t10 w10 =>
 D (Instr.buildSlice 26 3 #[(0, t7), (1, t9), (2, t10)]) w10 (fun t11 w11 =>
 B Builtin.append #[26, 26] 26 #[false, false] #[t11, t2] w11 (fun t12 w12 =>
 Q 97 #[t12] w12 (fun t13 w13 =>
 D (Instr.alloc 122 true (.tuple #[])) w13 (fun t14 w14 =>
 DoU Tryz.prog (Instr.storeAt 122 t14 t13) w14 (fun _ w15 =>
 D (Instr.sliceAt 122 t14 none none none) w15 (fun t16 w16 =>
 B Builtin.append #[26, 26] 26 #[false, false] #[t12, t16] w16 (fun t17 w17 =>
 R (.returned (Value.tuple #[t17, (I 0)])) w17) X) X) X) X) X) X) X) X) X) X) X) X) X)) X) X) X) X)
theorem sh_codec_Frame_ok (v0 : Value) (h : sh_codec_Frame v0 R w) : Calls Tryz.prog 75 #[v0] w R :=
  calls_of_vc (c := Tryz.f75.body.getD .skip) (args := [v0]) [] [] follows_mixed Tryz.func75 rfl (of_decide_eq_true (by kernel_rfl)) (by kernel_rfl) (Eq.mp (by kernel_rfl) h)
def sh_journal_ints (v0 : Value) (R : Ending → World → Prop) (w : World) : Prop := 
 letI X := Pan R
 letI D := DoV Tryz.prog
 letI Q := CallF Tryz.prog
 letI I := Value.int IntKind.i64
 letI T := Operand.tmp
 letI C := Operand.const
 letI L := Instr.loadAt
 letI F := Instr.fieldAt
(D (Instr.box 64 v0) w (fun t1 w1 =>
 D (F 64 t1 0) w1 (fun t2 w2 =>
 D (L 3 t2) w2 (fun t3 w3 =>
 D (binS BinOp.eql 3 (T 5) (C (I 2)) t3 (I 2)) w3 (fun t4 w4 =>
 Br t4
(D (F 64 t1 0) w4 (fun t5 w5 =>
 D (L 3 t5) w5 (fun t6 w6 =>
 D (F 64 t1 2) w6 (fun t7 w7 =>
 D (L 3 t7) w7 (fun t8 w8 =>
 D (F 64 t1 3) w8 (fun t9 w9 =>
 D (L 61 t9) w9 (fun t10 w10 =>
 D (binS BinOp.quo 61 (T 12) (C (Value.int IntKind.u64 4294967296)) t10 (Value.int IntKind.u64 4294967296)) w10 (fun t11 w11 =>
 D (convert 61 3 t11) w11 (fun t12 w12 =>
 D (F 64 t1 3) w12 (fun t13 w13 =>
 D (L 61 t13) w13 (fun t14 w14 =>
 D (binS BinOp.rem 61 (T 16) (C (Value.int IntKind.u64 4294967296)) t14 (Value.int IntKind.u64 4294967296)) w14 (fun t15 w15 =>
 D (convert 61 3 t15) w15 (fun t16 w16 =>
 D (Instr.buildSlice 91 4 #[(0, t6), (1, t8), (2, t12), (3, t16)]) w16 (fun t17 w17 =>
 Q 98 #[t17] w17 (fun t18 w18 =>
 R (.returned t18) w18) X) X) X) X) X) X) X) X) X) X) X) X) X) X)
(D (F 64 t1 1) w4 (fun t19 w19 =>
 D (L 38 t19) w19 (fun t20 w20 =>
 D (Instr.alloc 38 true (.tuple #[])) w20 (fun t21 w21 =>
 DoU Tryz.prog (Instr.storeAt 38 t21 t20) w21 (fun _ w22 =>
 D (F 64 t1 0) w22 (fun t23 w23 =>
 D (L 3 t23) w23 (fun t24 w24 =>
 D (F 38 t21 0) w24 (fun t25 w25 =>
 D (L 3 t25) w25 (fun t26 w26 =>
 D (F 38 t21 1) w26 (fun t27 w27 =>
 D (L 3 t27) w27 (fun t28 w28 =>
 D (F 38 t21 2) w28 (fun t29 w29 =>
 D (L 3 t29) w29 (fun t30 w30 =>
 D (F 38 t21 3) w30 (fun t31 w31 =>
 D (L 3 t31) w31 (fun t32 w32 =>
 D (F 38 t21 4) w32 (fun t33 w33 =>
 D (L 3 t33) w33 (fun t34 w34 =>
 D (F 38 t21 5) w34 (fun t35 w35 =>
 D (L 3 t35) w35 (fun t36 w36 =>
 D (F 38 t21 6) w36 (fun t37 w37 =>
 D (L 3 t37) w37 (fun t38 w38 =>
 D (F 38 t21 7) w38 (fun t39 w39 =>
 D (F 36 t39 0) w39 (fun t40 w40 =>
 D (L 3 t40) w40 (fun t41 w41 =>
 D (F 38 t21 7) w41 (fun t42 w42 =>
 D (F 36 t42 1) w42 (fun t43 w43 =>
 D (L 3 t43) w43 (fun t44 w44 =>
 D (F 38 t21 8) w44 (fun t45 w45 =>
 D (L 3 t45) w45 (fun t46 w46 =>
 D (F 38 t21 9) w46 (fun t47 w47 =>
 D (L 3 t47) w47 (fun t48 w48 =>
 D (F 38 t21 10) w48 (fun t49 w49 =>
 D (L 3 t49) w49 (fun t50 w50 =>
 D (Instr.buildSlice 91 13 #[(0, t24), (1, t26), (2, t28), (3, t30), (4, t32), (5, t34), (6, t36), (7, t38), (8, t41), (9, t44), (10, t46), (11, t48), (12, t50)]) w50 (fun t51 w51 =>
 Q 98 #[t51] w51 (fun t52 w52 =>
 R (.returned t52) w52) X) X) X) X) X) X) X) X) X) X) X) X) X) X) X) X) X) X) X) X) X) X) X) X) X) X) X) X) X) X) X) X) X) X)) X) X) X) X)
theorem sh_journal_ints_ok (v0 : Value) (h : sh_journal_ints v0 R w) : Calls Tryz.prog 76 #[v0] w R :=
  calls_of_vc (c := Tryz.f76.body.getD .skip) (args := [v0]) [] [] follows_mixed Tryz.func76 rfl (of_decide_eq_true (by kernel_rfl)) (by kernel_rfl) (Eq.mp (by kernel_rfl) h)
def sh_digest_Sum (v0 : Value) (R : Ending → World → Prop) (w : World) : Prop := 
(CallF Tryz.prog 99 #[(Value.int IntKind.u64 14695981039346656037), v0] w (fun t1 w1 =>
 R (.returned t1) w1) (Pan R))
theorem sh_digest_Sum_ok (v0 : Value) (h : sh_digest_Sum v0 R w) : Calls Tryz.prog 78 #[v0] w R :=
  calls_of_vc (c := Tryz.f78.body.getD .skip) (args := [v0]) [] [] follows_mixed Tryz.func78 rfl (of_decide_eq_true (by kernel_rfl)) (by kernel_rfl) (Eq.mp (by kernel_rfl) h)
def sh_landfallref08_whole (v0 : Value) (R : Ending → World → Prop) (w : World) : Prop := 
 letI X := Pan R
 letI D := DoV Tryz.prog
 letI Q := CallF Tryz.prog
 letI B := CallB Tryz.prog
 letI I := Value.int IntKind.i64
 letI T := Operand.tmp
 letI C := Operand.const
 letI L := Instr.loadAt
 letI A := Instr.indexAt
 letI O := BinOp.add
(B Builtin.len #[26] 3 #[false] #[v0] w (fun t1 w1 =>
 D (binS BinOp.lss 3 (T 8) (C (I 11)) t1 (I 11)) w1 (fun t2 w2 =>
 Br t2
(R (.returned (Value.tuple #[(Value.slice none 0 0), (I 0)])) w2)
(DrawE w2 (fun Rs3 Rb3 w3 =>
 DetOp Rb3 Rs3 w3 (fun w4 K4 => D (A 26 v0 (I 0)) w4 K4 X) (fun c11_4 ψ4 =>
 DetOp Rb3 Rs3 w3 (fun w5 K5 => D (L 5 c11_4) w5 K5 X) (fun c12_5 ψ5 =>
 DetOp Rb3 Rs3 w3 (fun w6 K6 => D (convert 5 3 c12_5) w6 K6 X) (fun c13_6 ψ6 =>
 DetOp Rb3 Rs3 w3 (fun w7 K7 => D (binS BinOp.mul 3 (T 13) (C (I 65536)) c13_6 (I 65536)) w7 K7 X) (fun c14_7 ψ7 =>
 DetOp Rb3 Rs3 w3 (fun w8 K8 => D (A 26 v0 (I 1)) w8 K8 X) (fun c16_8 ψ8 =>
 DetOp Rb3 Rs3 w3 (fun w9 K9 => D (L 5 c16_8) w9 K9 X) (fun c17_9 ψ9 =>
 DetOp Rb3 Rs3 w3 (fun w10 K10 => D (convert 5 3 c17_9) w10 K10 X) (fun c18_10 ψ10 =>
 DetOp Rb3 Rs3 w3 (fun w11 K11 => D (binS BinOp.mul 3 (T 18) (C (I 256)) c18_10 (I 256)) w11 K11 X) (fun c19_11 ψ11 =>
 DetOp Rb3 Rs3 w3 (fun w12 K12 => D (binS O 3 (T 14) (T 19) c14_7 c19_11) w12 K12 X) (fun c20_12 ψ12 =>
 DetOp Rb3 Rs3 w3 (fun w13 K13 => D (A 26 v0 (I 2)) w13 K13 X) (fun c22_13 ψ13 =>
 DetOp Rb3 Rs3 w3 (fun w14 K14 => D (L 5 c22_13) w14 K14 X) (fun c23_14 ψ14 =>
 DetOp Rb3 Rs3 w3 (fun w15 K15 => D (convert 5 3 c23_14) w15 K15 X) (fun c24_15 ψ15 =>
 ∀ w16, Rb3 w3 w16 → ((((((((((((True ∧ ψ4 w16) ∧ ψ5 w16) ∧ ψ6 w16) ∧ ψ7 w16) ∧ ψ8 w16) ∧ ψ9 w16) ∧ ψ10 w16) ∧ ψ11 w16) ∧ ψ12 w16) ∧ ψ13 w16) ∧ ψ14 w16) ∧ ψ15 w16) →
 D (binS O 3 (T 20) (T 24) c20_12 c24_15) w16 (fun t17 w17 =>
 B Builtin.len #[26] 3 #[false] #[v0] w17 (fun t18 w18 =>
 D (binS O 3 (T 28) (C (I 11)) t17 (I 11)) w18 (fun t19 w19 =>
 D (binS BinOp.lss 3 (T 27) (T 29) t18 t19) w19 (fun t20 w20 =>
 Br t20
(R (.returned (Value.tuple #[(Value.slice none 0 0), (I 0)])) w20)
(DrawE w20 (fun Rs21 Rb21 w21 =>
 DetOp Rb21 Rs21 w21 (fun w22 K22 => D (binS O 3 (C (I 3)) (T 32) (I 3) t17) w22 K22 X) (fun c33_22 ψ22 =>
 DetOp Rb21 Rs21 w21 (fun w23 K23 => D (binS O 3 (C (I 11)) (T 34) (I 11) t17) w23 K23 X) (fun c35_23 ψ23 =>
 DetOp Rb21 Rs21 w21 (fun w24 K24 => D (Instr.sliceAt 26 v0 (some c33_22) (some c35_23) none) w24 K24 X) (fun c36_24 ψ24 =>
 DetOp Rb21 Rs21 w21 (fun w25 K25 => D (binS O 3 (C (I 3)) (T 38) (I 3) t17) w25 K25 X) (fun c39_25 ψ25 =>
 DetOp Rb21 Rs21 w21 (fun w26 K26 => D (Instr.sliceAt 26 v0 none (some c39_25) none) w26 K26 X) (fun c40_26 ψ26 =>
 DetOp Rb21 Rs21 w21 (fun w27 K27 => D (convert 26 9 c40_26) w27 K27 X) (fun c41_27 ψ27 =>
 DetOp Rb21 Rs21 w21 (fun w28 K28 => Q 83 #[c41_27] w28 K28 X) (fun c42_28 ψ28 =>
 NdOp Rs21 Rb21 w21 (fun w29 K29 => Q 82 #[c42_28] w29 K29 X) (fun v43_29 φ29 =>
 ∀ w30, Rb21 w21 w30 → (((((((True ∧ ψ22 w30) ∧ ψ23 w30) ∧ ψ24 w30) ∧ ψ25 w30) ∧ ψ26 w30) ∧ ψ27 w30) ∧ ψ28 w30) ∧ φ29 w30 →
 Q 101 #[c36_24, v43_29] w30 (fun t31 w31 =>
 D (Op.unary UnOp.not t31) w31 (fun t32 w32 =>
 Br t32
(R (.returned (Value.tuple #[(Value.slice none 0 0), (I 0)])) w32)
(D (binS O 3 (C (I 3)) (T 48) (I 3) t17) w32 (fun t33 w33 =>
 D (Instr.sliceAt 26 v0 (some (I 3)) (some t33) none) w33 (fun t34 w34 =>
 Q 102 #[t34] w34 (fun t35 w35 =>
 D (Instr.extract t35 0) w35 (fun t36 w36 =>
 D (Instr.extract t35 1) w36 (fun t37 w37 =>
 D (binS BinOp.neq 32 (T 54) (C (I 0)) t37 (I 0)) w37 (fun t38 w38 =>
 Br t38
(R (.returned (Value.tuple #[(Value.slice none 0 0), (I 0)])) w38)
(D (binS O 3 (T 57) (C (I 11)) t17 (I 11)) w38 (fun t39 w39 =>
 R (.returned (Value.tuple #[t36, t39])) w39) X)) X) X) X) X) X) X)) X) X))))))))))) X) X) X) X))))))))))))))) X) X)
theorem sh_landfallref08_whole_ok (v0 : Value) (h : sh_landfallref08_whole v0 R w) : Calls Tryz.prog 79 #[v0] w R :=
  calls_of_vc (c := Tryz.f79.body.getD .skip) (args := [v0]) [(3, 15, false, 0), (6, 12, true, 13)] [] follows_mixed Tryz.func79 rfl (of_decide_eq_true (by kernel_rfl)) (by kernel_rfl) (Eq.mp (by kernel_rfl) h)
def sh_landfallref40_half (v0 : Value) (R : Ending → World → Prop) (w : World) : Prop := 
 letI I := Value.int IntKind.i64
(DoV Tryz.prog (binS BinOp.geq 3 (Operand.tmp 3) (Operand.const (I 0)) v0 (I 0)) w (fun t1 w1 =>
 Gd t1 true (DoV Tryz.prog (binS BinOp.lss 3 (Operand.tmp 6) (Operand.const (I 4294967296)) v0 (I 4294967296)) w1 (fun t2 w2 =>
 R (.returned t2) w2) (Pan R))
(R (.returned (Value.bool false)) w1)) (Pan R))
theorem sh_landfallref40_half_ok (v0 : Value) (h : sh_landfallref40_half v0 R w) : Calls Tryz.prog 80 #[v0] w R :=
  calls_of_vc (c := Tryz.f80.body.getD .skip) (args := [v0]) [] [] follows_mixed Tryz.func80 rfl (of_decide_eq_true (by kernel_rfl)) (by kernel_rfl) (Eq.mp (by kernel_rfl) h)
def sh_landfallref08_Put (v0 : Value) (R : Ending → World → Prop) (w : World) : Prop := 
 letI X := Pan R
 letI D := DoV Tryz.prog
 letI Q := CallF Tryz.prog
 letI B := CallB Tryz.prog
 letI I := Value.int IntKind.i64
 letI T := Operand.tmp
(B Builtin.len #[91] 3 #[false] #[v0] w (fun t1 w1 =>
 D (binS BinOp.gtr 3 (T 7) (Operand.const (I 4000)) t1 (I 4000)) w1 (fun t2 w2 =>
 Br t2
(R (.returned (Value.tuple #[(Value.slice none 0 0), (I 2)])) w2)
(B Builtin.len #[91] 3 #[false] #[v0] w2 (fun t3 w3 =>
 Q 103 #[t3] w3 (fun t4 w4 =>
 LoopE [4, 5] [t4, (I 0)] w4 (fun h5 w5 K5 =>
 B Builtin.len #[91] 3 #[false] #[v0] w5 (fun t6 w6 =>
 D (binS BinOp.lss 3 (T 12) (T 14) (h5 5) t6) w6 (fun t7 w7 =>
 Br t7
(D (Instr.indexAt 91 v0 (h5 5)) w7 (fun t8 w8 =>
 D (Instr.loadAt 3 t8) w8 (fun t9 w9 =>
 Q 103 #[t9] w9 (fun t10 w10 =>
 B Builtin.append #[26, 26] 26 #[false, false] #[(h5 4), t10] w10 (fun t11 w11 =>
 D (binS BinOp.add 3 (T 16) (Operand.const (I 1)) (h5 5) (I 1)) w11 (fun t12 w12 =>
 K5 [t11, t12] w12) X) X) X) X) X)
(R (.returned (Value.tuple #[(h5 4), (I 0)])) w7)) X) X)) X) X)) X) X)
theorem sh_landfallref08_Put_ok (v0 : Value) (h : sh_landfallref08_Put v0 R w) : Calls Tryz.prog 81 #[v0] w R :=
  calls_of_vc (c := Tryz.f81.body.getD .skip) (args := [v0]) [] [4, 5] follows_mixed Tryz.func81 rfl (of_decide_eq_true (by kernel_rfl)) (by kernel_rfl) (Eq.mp (by kernel_rfl) h)
def sh_landfallref08_bytes (v0 : Value) (R : Ending → World → Prop) (w : World) : Prop := 
 letI X := Pan R
 letI D := DoV Tryz.prog
 letI I := Value.int IntKind.i64
 letI T := Operand.tmp
 letI C := Operand.const
(LoopE [3, 4] [(Value.slice none 0 0), (I 0)] w (fun h1 w1 K1 =>
 D (binS BinOp.lss 3 (T 5) (C (I 8)) (h1 4) (I 8)) w1 (fun t2 w2 =>
 Br t2
(D (binS BinOp.mul 3 (C (I 8)) (T 11) (I 8) (h1 4)) w2 (fun t3 w3 =>
 D (binS BinOp.sub 3 (C (I 56)) (T 12) (I 56) t3) w3 (fun t4 w4 =>
 D (binS BinOp.shr 61 (T 10) (T 13) v0 t4) w4 (fun t5 w5 =>
 D (convert 61 5 t5) w5 (fun t6 w6 =>
 D (Instr.buildSlice 26 1 #[(0, t6)]) w6 (fun t7 w7 =>
 CallB Tryz.prog Builtin.append #[26, 26] 26 #[false, false] #[(h1 3), t7] w7 (fun t8 w8 =>
 D (binS BinOp.add 3 (T 7) (C (I 1)) (h1 4) (I 1)) w8 (fun t9 w9 =>
 K1 [t8, t9] w9) X) X) X) X) X) X) X)
(R (.returned (h1 3)) w2)) X))
theorem sh_landfallref08_bytes_ok (v0 : Value) (h : sh_landfallref08_bytes v0 R w) : Calls Tryz.prog 82 #[v0] w R :=
  calls_of_vc (c := Tryz.f82.body.getD .skip) (args := [v0]) [] [3, 4] follows_mixed Tryz.func82 rfl (of_decide_eq_true (by kernel_rfl)) (by kernel_rfl) (Eq.mp (by kernel_rfl) h)
def sh_landfallref05_Text (v0 : Value) (R : Ending → World → Prop) (w : World) : Prop := 
 letI X := Pan R
 letI D := DoV Tryz.prog
 letI I := Value.int IntKind.i64
 letI T := Operand.tmp
(LoopE [3, 4] [(Value.int IntKind.u64 14695981039346656037), (I 0)] w (fun h1 w1 K1 =>
 CallB Tryz.prog Builtin.len #[9] 3 #[false] #[v0] w1 (fun t2 w2 =>
 D (binS BinOp.lss 3 (T 5) (T 7) (h1 4) t2) w2 (fun t3 w3 =>
 Br t3
(D (Instr.index 9 v0 (h1 4)) w3 (fun t4 w4 =>
 D (convert 5 61 t4) w4 (fun t5 w5 =>
 D (binS BinOp.xor 61 (T 11) (T 15) (h1 3) t5) w5 (fun t6 w6 =>
 D (binS BinOp.mul 61 (T 16) (Operand.const (Value.int IntKind.u64 1099511628211)) t6 (Value.int IntKind.u64 1099511628211)) w6 (fun t7 w7 =>
 D (binS BinOp.add 3 (T 9) (Operand.const (I 1)) (h1 4) (I 1)) w7 (fun t8 w8 =>
 K1 [t7, t8] w8) X) X) X) X) X)
(R (.returned (h1 3)) w3)) X) X))
theorem sh_landfallref05_Text_ok (v0 : Value) (h : sh_landfallref05_Text v0 R w) : Calls Tryz.prog 83 #[v0] w R :=
  calls_of_vc (c := Tryz.f83.body.getD .skip) (args := [v0]) [] [3, 4] follows_mixed Tryz.func83 rfl (of_decide_eq_true (by kernel_rfl)) (by kernel_rfl) (Eq.mp (by kernel_rfl) h)
def sh_sign_Verify (v0 v1 v2 : Value) (R : Ending → World → Prop) (w : World) : Prop := 
 letI X := Pan R
 letI D := DoV Tryz.prog
 letI Q := CallF Tryz.prog
 letI I := Value.int IntKind.i64
 letI T := Operand.tmp
 letI C := Operand.const
 letI L := Instr.loadAt
 letI F := Instr.fieldAt
 letI V := Value.bool
(D (Instr.box 95 v1) w (fun t1 w1 =>
 JoinE [] (fun K2 =>
 JoinE [23] (fun K3 =>
 Q 104 #[v0] w1 (fun t4 w4 =>
 D (Op.unary UnOp.not t4) w4 (fun t5 w5 =>
 Gd t5 false (D (F 95 t1 0) w5 (fun t6 w6 =>
 D (L 3 t6) w6 (fun t7 w7 =>
 Q 105 #[t7, (I 0)] w7 (fun t8 w8 =>
 D (Op.unary UnOp.not t8) w8 (fun t9 w9 =>
 Gd t9 false (D (F 95 t1 1) w9 (fun t10 w10 =>
 D (L 3 t10) w10 (fun t11 w11 =>
 Q 105 #[t11, (I 0)] w11 (fun t12 w12 =>
 D (Op.unary UnOp.not t12) w12 (fun t13 w13 =>
 K3 [t13] w13) X) X) X) X)
(K3 [(V true)] w9)) X) X) X) X)
(K3 [(V true)] w5)) X) X)
(fun h14 w14 =>
 Br (h14 23)
(R (.returned (Value.tuple #[(V false), (I 1)])) w14)
(K2 [] w14)))
(fun _ w15 =>
 DrawE w15 (fun Rs16 Rb16 w16 =>
 DetOp Rb16 Rs16 w16 (fun w17 K17 => D (F 95 t1 1) w17 K17 X) (fun c24_17 ψ17 =>
 DetOp Rb16 Rs16 w16 (fun w18 K18 => D (L 3 c24_17) w18 K18 X) (fun c25_18 ψ18 =>
 DetOp Rs16 Rb16 w16 (fun w19 K19 => Q 106 #[(I 4), c25_18] w19 K19 X) (fun c26_19 ψ19 =>
 DetOp Rb16 Rs16 w16 (fun w20 K20 => D (F 95 t1 0) w20 K20 X) (fun c28_20 ψ20 =>
 DetOp Rb16 Rs16 w16 (fun w21 K21 => D (L 3 c28_20) w21 K21 X) (fun c29_21 ψ21 =>
 DetOp Rb16 Rs16 w16 (fun w22 K22 => D (binS BinOp.sub 3 (C (I 1073741789)) (T 29) (I 1073741789) c29_21) w22 K22 X) (fun c30_22 ψ22 =>
 DetOp Rb16 Rs16 w16 (fun w23 K23 => D (binS BinOp.rem 3 (T 30) (C (I 1073741789)) c30_22 (I 1073741789)) w23 K23 X) (fun c31_23 ψ23 =>
 ∀ w24, Rb16 w16 w24 → (((((((True ∧ ψ17 w24) ∧ ψ18 w24) ∧ ψ19 w24) ∧ ψ20 w24) ∧ ψ21 w24) ∧ ψ22 w24) ∧ ψ23 w24) →
 Q 106 #[v0, c31_23] w24 (fun t25 w25 =>
 D (binS BinOp.mul 3 (T 26) (T 32) c26_19 t25) w25 (fun t26 w26 =>
 D (binS BinOp.rem 3 (T 33) (C (I 2147483579)) t26 (I 2147483579)) w26 (fun t27 w27 =>
 DrawE w27 (fun Rs28 Rb28 w28 =>
 DetOp Rb28 Rs28 w28 (fun w29 K29 => D (L 95 t1) w29 K29 X) (fun c35_29 ψ29 =>
 DetOp Rs28 Rb28 w28 (fun w30 K30 => Q 107 #[t27, v0, v2] w30 K30 X) (fun c39_30 ψ30 =>
 DetOp Rb28 Rs28 w28 (fun w31 K31 => D (F 95 t1 1) w31 K31 X) (fun c40_31 ψ31 =>
 DetOp Rb28 Rs28 w28 (fun w32 K32 => D (L 3 c40_31) w32 K32 X) (fun c41_32 ψ32 =>
 DetOp Rb28 Rs28 w28 (fun w33 K33 => D (Instr.build 95 #[(0, c39_30), (1, c41_32)]) w33 K33 X) (fun c42_33 ψ33 =>
 ∀ w34, Rb28 w28 w34 → (((((True ∧ ψ29 w34) ∧ ψ30 w34) ∧ ψ31 w34) ∧ ψ32 w34) ∧ ψ33 w34) →
 D (binS BinOp.eql 95 (T 35) (T 42) c35_29 c42_33) w34 (fun t35 w35 =>
 R (.returned (Value.tuple #[t35, (I 0)])) w35) X))))))) X) X) X)))))))))) X)
theorem sh_sign_Verify_ok (v0 v1 v2 : Value) (h : sh_sign_Verify v0 v1 v2 R w) : Calls Tryz.prog 84 #[v0, v1, v2] w R :=
  calls_of_vc (c := Tryz.f84.body.getD .skip) (args := [v0, v1, v2]) [(3, 8, false, 3), (4, 8, false, 5)] [] follows_mixed Tryz.func84 rfl (of_decide_eq_true (by kernel_rfl)) (by kernel_rfl) (Eq.mp (by kernel_rfl) h)
def sh_landfallref05_Bytes (v0 v1 : Value) (R : Ending → World → Prop) (w : World) : Prop := 
 letI X := Pan R
 letI D := DoV Tryz.prog
 letI B := CallB Tryz.prog
 letI I := Value.int IntKind.i64
 letI T := Operand.tmp
 letI C := Operand.const
(LoopE [5, 6] [(Value.slice none 0 0), (I 0)] w (fun h1 w1 K1 =>
 D (binS BinOp.lss 3 (T 8) (C (I 8)) (h1 6) (I 8)) w1 (fun t2 w2 =>
 Br t2
(D (binS BinOp.mul 3 (C (I 8)) (T 14) (I 8) (h1 6)) w2 (fun t3 w3 =>
 D (binS BinOp.sub 3 (C (I 56)) (T 15) (I 56) t3) w3 (fun t4 w4 =>
 D (binS BinOp.shr 61 (T 13) (T 16) v0 t4) w4 (fun t5 w5 =>
 D (convert 61 5 t5) w5 (fun t6 w6 =>
 D (Instr.buildSlice 26 1 #[(0, t6)]) w6 (fun t7 w7 =>
 B Builtin.append #[26, 26] 26 #[false, false] #[(h1 5), t7] w7 (fun t8 w8 =>
 D (binS BinOp.add 3 (T 10) (C (I 1)) (h1 6) (I 1)) w8 (fun t9 w9 =>
 K1 [t8, t9] w9) X) X) X) X) X) X) X)
(LoopE [5, 7] [(h1 5), (I 0)] w2 (fun h10 w10 K10 =>
 B Builtin.len #[91] 3 #[false] #[v1] w10 (fun t11 w11 =>
 D (binS BinOp.lss 3 (T 21) (T 23) (h10 7) t11) w11 (fun t12 w12 =>
 Br t12
(D (Instr.indexAt 91 v1 (h10 7)) w12 (fun t13 w13 =>
 D (Instr.loadAt 3 t13) w13 (fun t14 w14 =>
 CallF Tryz.prog 116 #[t14] w14 (fun t15 w15 =>
 B Builtin.append #[26, 9] 26 #[false, false] #[(h10 5), t15] w15 (fun t16 w16 =>
 D (Instr.buildSlice 26 1 #[(0, (Value.int IntKind.u8 32))]) w16 (fun t17 w17 =>
 B Builtin.append #[26, 26] 26 #[false, false] #[t16, t17] w17 (fun t18 w18 =>
 D (binS BinOp.add 3 (T 25) (C (I 1)) (h10 7) (I 1)) w18 (fun t19 w19 =>
 K10 [t18, t19] w19) X) X) X) X) X) X) X)
(R (.returned (h10 5)) w12)) X) X))) X))
theorem sh_landfallref05_Bytes_ok (v0 v1 : Value) (h : sh_landfallref05_Bytes v0 v1 R w) : Calls Tryz.prog 91 #[v0, v1] w R :=
  calls_of_vc (c := Tryz.f91.body.getD .skip) (args := [v0, v1]) [] [5, 6, 7] follows_mixed Tryz.func91 rfl (of_decide_eq_true (by kernel_rfl)) (by kernel_rfl) (Eq.mp (by kernel_rfl) h)
def sh_codec_Frames (v0 : Value) (R : Ending → World → Prop) (w : World) : Prop := 
 letI X := Pan R
 letI D := DoV Tryz.prog
 letI B := CallB Tryz.prog
 letI I := Value.int IntKind.i64
 letI T := Operand.tmp
(B Builtin.len #[26] 3 #[false] #[v0] w (fun t1 w1 =>
 D (binS BinOp.gtr 3 (T 10) (Operand.const (I 200000)) t1 (I 200000)) w1 (fun t2 w2 =>
 Br t2
(R (.returned (Value.tuple #[(Value.slice none 0 0), (I 0), (I 2)])) w2)
(LoopE [5, 6] [(Value.slice none 0 0), (I 0)] w2 (fun h3 w3 K3 =>
 D (Instr.sliceAt 26 v0 (some (h3 6)) none none) w3 (fun t4 w4 =>
 CallF Tryz.prog 118 #[t4] w4 (fun t5 w5 =>
 D (Instr.extract t5 0) w5 (fun t6 w6 =>
 D (Instr.extract t5 1) w6 (fun t7 w7 =>
 D (binS BinOp.eql 3 (T 19) (Operand.const (I 0)) t7 (I 0)) w7 (fun t8 w8 =>
 Br t8
(R (.returned (Value.tuple #[(h3 5), (h3 6), (I 0)])) w8)
(D (Instr.buildSlice 86 1 #[(0, t6)]) w8 (fun t9 w9 =>
 B Builtin.append #[86, 86] 86 #[false, false] #[(h3 5), t9] w9 (fun t10 w10 =>
 D (binS BinOp.add 3 (T 27) (T 28) (h3 6) t7) w10 (fun t11 w11 =>
 K3 [t10, t11] w11) X) X) X)) X) X) X) X) X))) X) X)
theorem sh_codec_Frames_ok (v0 : Value) (h : sh_codec_Frames v0 R w) : Calls Tryz.prog 93 #[v0] w R :=
  calls_of_vc (c := Tryz.f93.body.getD .skip) (args := [v0]) [] [5, 6] follows_mixed Tryz.func93 rfl (of_decide_eq_true (by kernel_rfl)) (by kernel_rfl) (Eq.mp (by kernel_rfl) h)
def sh_journal_record (v0 : Value) (R : Ending → World → Prop) (w : World) : Prop := 
 letI D := DoV Tryz.prog
 letI U := DoU Tryz.prog
 letI S := Instr.storeAt
 letI N := Instr.alloc
(D (N 64 true (.tuple #[])) w (fun t1 w1 =>
 D (N 4 true (.tuple #[])) w1 (fun t2 w2 =>
 D (Instr.makeFunc (Fn.func 119) #[] #[t1, t2]) w2 (fun t3 w3 =>
(match t3 with | .func fn4 fi4 ca4 => D (Instr.build 152 #[(0, v0)]) w3 (fun t5 w5 =>
 D (Instr.build 154 #[(1, t5)]) w5 (fun t6 w6 =>
 D (N 154 true (.tuple #[])) w6 (fun t7 w7 =>
 U (S 154 t7 t6) w7 (fun _ w8 =>
 CallF Tryz.prog 120 #[t7] w8 (fun _ w9 =>
 D (Instr.fieldAt 154 t7 0) w9 (fun t10 w10 =>
 D (Instr.loadAt 64 t10) w10 (fun t11 w11 =>
 U (S 64 t1 t11) w11 (fun _ w12 =>
 U (S 4 t2 (Value.bool true)) w12 (fun _ w13 =>
 LeavesE Tryz.prog Tryz.f94 [(2, t1), (3, t2)] R [{ target := .fn fn4 ca4, args := fi4 ++ #[] }] .returning w13) (PanD Tryz.prog Tryz.f94 [(2, t1), (3, t2)] R [{ target := .fn fn4 ca4, args := fi4 ++ #[] }])) (PanD Tryz.prog Tryz.f94 [(2, t1), (3, t2)] R [{ target := .fn fn4 ca4, args := fi4 ++ #[] }])) (PanD Tryz.prog Tryz.f94 [(2, t1), (3, t2)] R [{ target := .fn fn4 ca4, args := fi4 ++ #[] }])) (PanD Tryz.prog Tryz.f94 [(2, t1), (3, t2)] R [{ target := .fn fn4 ca4, args := fi4 ++ #[] }])) (PanD Tryz.prog Tryz.f94 [(2, t1), (3, t2)] R [{ target := .fn fn4 ca4, args := fi4 ++ #[] }])) (PanD Tryz.prog Tryz.f94 [(2, t1), (3, t2)] R [{ target := .fn fn4 ca4, args := fi4 ++ #[] }])) (PanD Tryz.prog Tryz.f94 [(2, t1), (3, t2)] R [{ target := .fn fn4 ca4, args := fi4 ++ #[] }])) (PanD Tryz.prog Tryz.f94 [(2, t1), (3, t2)] R [{ target := .fn fn4 ca4, args := fi4 ++ #[] }])) (PanD Tryz.prog Tryz.f94 [(2, t1), (3, t2)] R [{ target := .fn fn4 ca4, args := fi4 ++ #[] }]) | _ => False)) (PanD Tryz.prog Tryz.f94 [(2, t1), (3, t2)] R [])) (PanD Tryz.prog Tryz.f94 [(2, t1), (3, undef)] R [])) (PanD Tryz.prog Tryz.f94 [(2, undef), (3, undef)] R []))
theorem sh_journal_record_ok (v0 : Value) (h : sh_journal_record v0 R w) : Calls Tryz.prog 94 #[v0] w R :=
  calls_of_vcD (c := Tryz.f94.body.getD .skip) (args := [v0]) [] [] follows_mixed Tryz.func94 rfl (of_decide_eq_true (by kernel_rfl)) (by kernel_rfl) (Eq.mp (by kernel_rfl) h)
def sh_slices_IndexFunc___api_Record_api_Record_ (v0 v1 : Value) (R : Ending → World → Prop) (w : World) : Prop := 
 letI X := Pan R
 letI D := DoV Tryz.prog
 letI I := Value.int IntKind.i64
 letI T := Operand.tmp
(CallB Tryz.prog Builtin.len #[68] 3 #[false] #[v0] w (fun t1 w1 =>
 LoopE [8] [(I 0)] w1 (fun h2 w2 K2 =>
 D (binS BinOp.lss 3 (T 8) (T 7) (h2 8) t1) w2 (fun t3 w3 =>
 Br t3
(D (Instr.indexAt 68 v0 (h2 8)) w3 (fun t4 w4 =>
 D (Instr.loadAt 64 t4) w4 (fun t5 w5 =>
 CallV Tryz.prog v1 #[t5] w5 (fun t6 w6 =>
 Br t6
(R (.returned (h2 8)) w6)
(D (binS BinOp.add 3 (T 8) (Operand.const (I 1)) (h2 8) (I 1)) w6 (fun t7 w7 =>
 K2 [t7] w7) X)) X) X) X)
(R (.returned (I (-1))) w3)) X)) X)
theorem sh_slices_IndexFunc___api_Record_api_Record__ok (v0 v1 : Value) (h : sh_slices_IndexFunc___api_Record_api_Record_ v0 v1 R w) : Calls Tryz.prog 95 #[v0, v1] w R :=
  calls_of_vc (c := Tryz.f95.body.getD .skip) (args := [v0, v1]) [] [8] follows_mixed Tryz.func95 rfl (of_decide_eq_true (by kernel_rfl)) (by kernel_rfl) (Eq.mp (by kernel_rfl) h)
def sh_codec_Put (v0 : Value) (R : Ending → World → Prop) (w : World) : Prop := 
 letI X := Pan R
 letI D := DoV Tryz.prog
 letI Q := CallF Tryz.prog
 letI B := CallB Tryz.prog
 letI I := Value.int IntKind.i64
 letI T := Operand.tmp
(B Builtin.len #[91] 3 #[false] #[v0] w (fun t1 w1 =>
 D (binS BinOp.gtr 3 (T 8) (Operand.const (I 4000)) t1 (I 4000)) w1 (fun t2 w2 =>
 Br t2
(R (.returned (Value.tuple #[(Value.slice none 0 0), (I 2)])) w2)
(B Builtin.len #[91] 3 #[false] #[v0] w2 (fun t3 w3 =>
 Q 121 #[(Value.slice none 0 0), t3] w3 (fun t4 w4 =>
 B Builtin.len #[91] 3 #[false] #[v0] w4 (fun t5 w5 =>
 LoopE [4, 15] [t4, (I 0)] w5 (fun h6 w6 K6 =>
 D (binS BinOp.lss 3 (T 15) (T 14) (h6 15) t5) w6 (fun t7 w7 =>
 Br t7
(D (Instr.indexAt 91 v0 (h6 15)) w7 (fun t8 w8 =>
 D (Instr.loadAt 3 t8) w8 (fun t9 w9 =>
 Q 121 #[(h6 4), t9] w9 (fun t10 w10 =>
 D (binS BinOp.add 3 (T 15) (Operand.const (I 1)) (h6 15) (I 1)) w10 (fun t11 w11 =>
 K6 [t10, t11] w11) X) X) X) X)
(R (.returned (Value.tuple #[(h6 4), (I 0)])) w7)) X)) X) X) X)) X) X)
theorem sh_codec_Put_ok (v0 : Value) (h : sh_codec_Put v0 R w) : Calls Tryz.prog 96 #[v0] w R :=
  calls_of_vc (c := Tryz.f96.body.getD .skip) (args := [v0]) [] [4, 15] follows_mixed Tryz.func96 rfl (of_decide_eq_true (by kernel_rfl)) (by kernel_rfl) (Eq.mp (by kernel_rfl) h)
def sh_codec_sum (v0 : Value) (R : Ending → World → Prop) (w : World) : Prop := 
 letI X := Pan R
 letI D := DoV Tryz.prog
 letI I := Value.int IntKind.i64
 letI T := Operand.tmp
 letI C := Operand.const
(D (Instr.alloc 122 true (.tuple #[])) w (fun t1 w1 =>
 D (convert 26 9 v0) w1 (fun t2 w2 =>
 CallF Tryz.prog 122 #[t2] w2 (fun t3 w3 =>
 D (Instr.alloc 122 true (.tuple #[])) w3 (fun t4 w4 =>
 LoopE [9] [(I 0)] w4 (fun h5 w5 K5 =>
 D (binS BinOp.lss 3 (T 9) (C (I 8)) (h5 9) (I 8)) w5 (fun t6 w6 =>
 Br t6
(D (binS BinOp.sub 3 (C (I 7)) (T 14) (I 7) (h5 9)) w6 (fun t7 w7 =>
 D (binS BinOp.mul 3 (C (I 8)) (T 15) (I 8) t7) w7 (fun t8 w8 =>
 D (binS BinOp.shr 61 (T 13) (T 16) t3 t8) w8 (fun t9 w9 =>
 D (convert 61 5 t9) w9 (fun t10 w10 =>
 D (Instr.indexAt 122 t4 (h5 9)) w10 (fun t11 w11 =>
 DoU Tryz.prog (Instr.storeAt 5 t11 t10) w11 (fun _ w12 =>
 D (binS BinOp.add 3 (T 9) (C (I 1)) (h5 9) (I 1)) w12 (fun t13 w13 =>
 K5 [t13] w13) X) X) X) X) X) X) X)
(D (Instr.loadAt 122 t4) w6 (fun t14 w14 =>
 DoU Tryz.prog (Instr.storeAt 122 t1 t14) w14 (fun _ w15 =>
 Res Tryz.prog [.cell t1 122] w15 R) X) X)) X)) X) X) X) X)
theorem sh_codec_sum_ok (v0 : Value) (h : sh_codec_sum v0 R w) : Calls Tryz.prog 97 #[v0] w R :=
  calls_of_vc (c := Tryz.f97.body.getD .skip) (args := [v0]) [] [9] follows_mixed Tryz.func97 rfl (of_decide_eq_true (by kernel_rfl)) (by kernel_rfl) (Eq.mp (by kernel_rfl) h)
def sh_journal_list (v0 : Value) (R : Ending → World → Prop) (w : World) : Prop := 
(R (.returned v0) w)
theorem sh_journal_list_ok (v0 : Value) (h : sh_journal_list v0 R w) : Calls Tryz.prog 98 #[v0] w R :=
  calls_of_vc (c := Tryz.f98.body.getD .skip) (args := [v0]) [] [] follows_mixed Tryz.func98 rfl (of_decide_eq_true (by kernel_rfl)) (by kernel_rfl) (Eq.mp (by kernel_rfl) h)
def sh_digest_Next (v0 v1 : Value) (R : Ending → World → Prop) (w : World) : Prop := 
 letI X := Pan R
 letI D := DoV Tryz.prog
 letI Q := CallF Tryz.prog
 letI I := Value.int IntKind.i64
 letI T := Operand.tmp
 letI C := Operand.const
 letI E := Instr.extract
(Q 123 #[] w (fun t1 w1 =>
 D (E t1 0) w1 (fun t2 w2 =>
 D (E t1 1) w2 (fun t3 w3 =>
 LoopE [7] [(I 56)] w3 (fun h4 w4 K4 =>
 D (binS BinOp.geq 3 (T 16) (C (I 0)) (h4 7) (I 0)) w4 (fun t5 w5 =>
 Br t5
(D (binS BinOp.shr 61 (T 21) (T 22) v0 (h4 7)) w5 (fun t6 w6 =>
 D (convert 61 5 t6) w6 (fun t7 w7 =>
 D (Instr.buildSlice 26 1 #[(0, t7)]) w7 (fun t8 w8 =>
 CallV Tryz.prog t2 #[t8] w8 (fun _ w9 =>
 D (binS BinOp.sub 3 (T 18) (C (I 8)) (h4 7) (I 8)) w9 (fun t10 w10 =>
 K4 [t10] w10) X) X) X) X) X)
(CallB Tryz.prog Builtin.len #[91] 3 #[false] #[v1] w5 (fun t11 w11 =>
 LoopE [29] [(I 0)] w11 (fun h12 w12 K12 =>
 D (binS BinOp.lss 3 (T 29) (T 28) (h12 29) t11) w12 (fun t13 w13 =>
 Br t13
(D (Instr.indexAt 91 v1 (h12 29)) w13 (fun t14 w14 =>
 D (Instr.loadAt 3 t14) w14 (fun t15 w15 =>
 Q 124 #[t15] w15 (fun t16 w16 =>
 D (Instr.range 9 t16) w16 (fun t17 w17 =>
 LoopE [] [] w17 (fun h18 w18 K18 =>
 D (Instr.next t17 true 0) w18 (fun t19 w19 =>
 D (E t19 0) w19 (fun t20 w20 =>
 Br t20
(D (E t19 2) w20 (fun t21 w21 =>
 D (convert 21 5 t21) w21 (fun t22 w22 =>
 D (Instr.buildSlice 26 1 #[(0, t22)]) w22 (fun t23 w23 =>
 CallV Tryz.prog t2 #[t23] w23 (fun _ w24 =>
 K18 [] w24) X) X) X) X)
(D (Instr.buildSlice 26 1 #[(0, (Value.int IntKind.u8 32))]) w20 (fun t25 w25 =>
 CallV Tryz.prog t2 #[t25] w25 (fun _ w26 =>
 D (binS BinOp.add 3 (T 29) (C (I 1)) (h12 29) (I 1)) w26 (fun t27 w27 =>
 K12 [t27] w27) X) X) X)) X) X)) X) X) X) X)
(CallV Tryz.prog t3 #[] w13 (fun t28 w28 =>
 R (.returned t28) w28) X)) X)) X)) X)) X) X) X)
theorem sh_digest_Next_ok (v0 v1 : Value) (h : sh_digest_Next v0 v1 R w) : Calls Tryz.prog 99 #[v0, v1] w R :=
  calls_of_vc (c := Tryz.f99.body.getD .skip) (args := [v0, v1]) [] [7, 29] follows_mixed Tryz.func99 rfl (of_decide_eq_true (by kernel_rfl)) (by kernel_rfl) (Eq.mp (by kernel_rfl) h)
def sh_landfallref08_SameBytes (v0 v1 : Value) (R : Ending → World → Prop) (w : World) : Prop := 
 letI X := Pan R
 letI D := DoV Tryz.prog
(D (convert 26 9 v0) w (fun t1 w1 =>
 D (convert 26 9 v1) w1 (fun t2 w2 =>
 D (binS BinOp.eql 9 (Operand.tmp 6) (Operand.tmp 8) t1 t2) w2 (fun t3 w3 =>
 R (.returned t3) w3) X) X) X)
theorem sh_landfallref08_SameBytes_ok (v0 v1 : Value) (h : sh_landfallref08_SameBytes v0 v1 R w) : Calls Tryz.prog 101 #[v0, v1] w R :=
  calls_of_vc (c := Tryz.f101.body.getD .skip) (args := [v0, v1]) [] [] follows_mixed Tryz.func101 rfl (of_decide_eq_true (by kernel_rfl)) (by kernel_rfl) (Eq.mp (by kernel_rfl) h)
def sh_landfallref08_Get (v0 : Value) (R : Ending → World → Prop) (w : World) : Prop := 
 letI X := Pan R
 letI D := DoV Tryz.prog
 letI Q := CallF Tryz.prog
 letI B := CallB Tryz.prog
 letI I := Value.int IntKind.i64
 letI T := Operand.tmp
 letI C := Operand.const
 letI E := Instr.extract
(Q 125 #[v0] w (fun t1 w1 =>
 D (E t1 0) w1 (fun t2 w2 =>
 D (E t1 1) w2 (fun t3 w3 =>
 JoinE [] (fun K4 =>
 JoinE [24] (fun K5 =>
 D (binS BinOp.eql 3 (T 15) (C (I 0)) t3 (I 0)) w3 (fun t6 w6 =>
 Gd t6 false (D (binS BinOp.lss 3 (T 18) (C (I 0)) t2 (I 0)) w6 (fun t7 w7 =>
 Gd t7 false (D (binS BinOp.gtr 3 (T 22) (C (I 4000)) t2 (I 4000)) w7 (fun t8 w8 =>
 K5 [t8] w8) X)
(K5 [(Value.bool true)] w7)) X)
(K5 [(Value.bool true)] w6)) X)
(fun h9 w9 =>
 Br (h9 24)
(R (.returned (Value.tuple #[(Value.slice none 0 0), (I 7)])) w9)
(K4 [] w9)))
(fun _ w10 =>
 LoopE [5, 6, 7] [t3, (Value.slice none 0 0), (I 0)] w10 (fun h11 w11 K11 =>
 D (binS BinOp.lss 3 (T 25) (T 26) (h11 7) t2) w11 (fun t12 w12 =>
 Br t12
(D (Instr.sliceAt 26 v0 (some (h11 5)) none none) w12 (fun t13 w13 =>
 Q 125 #[t13] w13 (fun t14 w14 =>
 D (E t14 0) w14 (fun t15 w15 =>
 D (E t14 1) w15 (fun t16 w16 =>
 D (binS BinOp.eql 3 (T 37) (C (I 0)) t16 (I 0)) w16 (fun t17 w17 =>
 Br t17
(R (.returned (Value.tuple #[(Value.slice none 0 0), (I 7)])) w17)
(D (Instr.buildSlice 91 1 #[(0, t15)]) w17 (fun t18 w18 =>
 B Builtin.append #[91, 91] 91 #[false, false] #[(h11 6), t18] w18 (fun t19 w19 =>
 D (binS BinOp.add 3 (T 43) (T 44) (h11 5) t16) w19 (fun t20 w20 =>
 D (binS BinOp.add 3 (T 28) (C (I 1)) (h11 7) (I 1)) w20 (fun t21 w21 =>
 K11 [t20, t19, t21] w21) X) X) X) X)) X) X) X) X) X)
(B Builtin.len #[26] 3 #[false] #[v0] w12 (fun t22 w22 =>
 D (binS BinOp.neq 3 (T 46) (T 48) (h11 5) t22) w22 (fun t23 w23 =>
 Br t23
(R (.returned (Value.tuple #[(Value.slice none 0 0), (I 7)])) w23)
(R (.returned (Value.tuple #[(h11 6), (I 0)])) w23)) X) X)) X))) X) X) X)
theorem sh_landfallref08_Get_ok (v0 : Value) (h : sh_landfallref08_Get v0 R w) : Calls Tryz.prog 102 #[v0] w R :=
  calls_of_vc (c := Tryz.f102.body.getD .skip) (args := [v0]) [] [5, 6, 7] follows_mixed Tryz.func102 rfl (of_decide_eq_true (by kernel_rfl)) (by kernel_rfl) (Eq.mp (by kernel_rfl) h)
def sh_landfallref08_one (v0 : Value) (R : Ending → World → Prop) (w : World) : Prop := 
 letI X := Pan R
 letI D := DoV Tryz.prog
 letI B := CallB Tryz.prog
 letI I := Value.int IntKind.i64
 letI T := Operand.tmp
 letI C := Operand.const
 letI O := BinOp.add
(D (convert 3 61 v0) w (fun t1 w1 =>
 D (binS BinOp.mul 61 (C (Value.int IntKind.u64 2)) (T 6) (Value.int IntKind.u64 2) t1) w1 (fun t2 w2 =>
 JoinE [3] (fun K3 =>
 D (binS BinOp.lss 3 (T 8) (C (I 0)) v0 (I 0)) w2 (fun t4 w4 =>
 Br t4
(D (binS O 3 (T 10) (C (I 1)) v0 (I 1)) w4 (fun t5 w5 =>
 D (Op.unary UnOp.neg t5) w5 (fun t6 w6 =>
 D (convert 3 61 t6) w6 (fun t7 w7 =>
 D (binS BinOp.mul 61 (C (Value.int IntKind.u64 2)) (T 13) (Value.int IntKind.u64 2) t7) w7 (fun t8 w8 =>
 D (binS O 61 (T 14) (C (Value.int IntKind.u64 1)) t8 (Value.int IntKind.u64 1)) w8 (fun t9 w9 =>
 K3 [t9] w9) X) X) X) X) X)
(K3 [t2] w4)) X)
(fun h10 w10 =>
 LoopE [3, 4] [(h10 3), (Value.slice none 0 0)] w10 (fun h11 w11 K11 =>
 D (binS BinOp.geq 61 (T 16) (C (Value.int IntKind.u64 128)) (h11 3) (Value.int IntKind.u64 128)) w11 (fun t12 w12 =>
 Br t12
(D (binS BinOp.rem 61 (T 19) (C (Value.int IntKind.u64 128)) (h11 3) (Value.int IntKind.u64 128)) w12 (fun t13 w13 =>
 D (convert 61 5 t13) w13 (fun t14 w14 =>
 D (binS O 5 (T 21) (C (Value.int IntKind.u8 128)) t14 (Value.int IntKind.u8 128)) w14 (fun t15 w15 =>
 D (Instr.buildSlice 26 1 #[(0, t15)]) w15 (fun t16 w16 =>
 B Builtin.append #[26, 26] 26 #[false, false] #[(h11 4), t16] w16 (fun t17 w17 =>
 D (binS BinOp.quo 61 (T 25) (C (Value.int IntKind.u64 128)) (h11 3) (Value.int IntKind.u64 128)) w17 (fun t18 w18 =>
 K11 [t18, t17] w18) X) X) X) X) X) X)
(D (convert 61 5 (h11 3)) w12 (fun t19 w19 =>
 D (Instr.buildSlice 26 1 #[(0, t19)]) w19 (fun t20 w20 =>
 B Builtin.append #[26, 26] 26 #[false, false] #[(h11 4), t20] w20 (fun t21 w21 =>
 R (.returned t21) w21) X) X) X)) X))) X) X)
theorem sh_landfallref08_one_ok (v0 : Value) (h : sh_landfallref08_one v0 R w) : Calls Tryz.prog 103 #[v0] w R :=
  calls_of_vc (c := Tryz.f103.body.getD .skip) (args := [v0]) [] [3, 4] follows_mixed Tryz.func103 rfl (of_decide_eq_true (by kernel_rfl)) (by kernel_rfl) (Eq.mp (by kernel_rfl) h)
def sh_sign_Member (v0 : Value) (R : Ending → World → Prop) (w : World) : Prop := 
 letI X := Pan R
 letI D := DoV Tryz.prog
 letI I := Value.int IntKind.i64
 letI T := Operand.tmp
 letI C := Operand.const
(D (binS BinOp.geq 3 (T 3) (C (I 1)) v0 (I 1)) w (fun t1 w1 =>
 Gd t1 true (D (binS BinOp.lss 3 (T 6) (C (I 2147483579)) v0 (I 2147483579)) w1 (fun t2 w2 =>
 Gd t2 true (CallF Tryz.prog 106 #[v0, (I 1073741789)] w2 (fun t3 w3 =>
 D (binS BinOp.eql 3 (T 11) (C (I 1)) t3 (I 1)) w3 (fun t4 w4 =>
 R (.returned t4) w4) X) X)
(R (.returned (Value.bool false)) w2)) X)
(R (.returned (Value.bool false)) w1)) X)
theorem sh_sign_Member_ok (v0 : Value) (h : sh_sign_Member v0 R w) : Calls Tryz.prog 104 #[v0] w R :=
  calls_of_vc (c := Tryz.f104.body.getD .skip) (args := [v0]) [] [] follows_mixed Tryz.func104 rfl (of_decide_eq_true (by kernel_rfl)) (by kernel_rfl) (Eq.mp (by kernel_rfl) h)
def sh_sign_within (v0 v1 : Value) (R : Ending → World → Prop) (w : World) : Prop := 
 letI I := Value.int IntKind.i64
 letI T := Operand.tmp
(DoV Tryz.prog (binS BinOp.leq 3 (T 5) (T 6) v1 v0) w (fun t1 w1 =>
 Gd t1 true (DoV Tryz.prog (binS BinOp.lss 3 (T 9) (Operand.const (I 1073741789)) v0 (I 1073741789)) w1 (fun t2 w2 =>
 R (.returned t2) w2) (Pan R))
(R (.returned (Value.bool false)) w1)) (Pan R))
theorem sh_sign_within_ok (v0 v1 : Value) (h : sh_sign_within v0 v1 R w) : Calls Tryz.prog 105 #[v0, v1] w R :=
  calls_of_vc (c := Tryz.f105.body.getD .skip) (args := [v0, v1]) [] [] follows_mixed Tryz.func105 rfl (of_decide_eq_true (by kernel_rfl)) (by kernel_rfl) (Eq.mp (by kernel_rfl) h)
def sh_sign_power (v0 v1 : Value) (R : Ending → World → Prop) (w : World) : Prop := 
 letI X := Pan R
 letI D := DoV Tryz.prog
 letI I := Value.int IntKind.i64
 letI T := Operand.tmp
 letI C := Operand.const
 letI L := Instr.loadAt
(D (Instr.box 3 v0) w (fun t1 w1 =>
 D (Instr.alloc 3 true (.tuple #[])) w1 (fun t2 w2 =>
 DoU Tryz.prog (Instr.storeAt 3 t2 (I 1)) w2 (fun _ w3 =>
 LoopE [1] [v1] w3 (fun h4 w4 K4 =>
 D (binS BinOp.gtr 3 (T 7) (C (I 0)) (h4 1) (I 0)) w4 (fun t5 w5 =>
 Br t5
(JoinE [] (fun K6 =>
 JoinE [] (fun K7 =>
 D (binS BinOp.rem 3 (T 11) (C (I 2)) (h4 1) (I 2)) w5 (fun t8 w8 =>
 D (binS BinOp.eql 3 (T 12) (C (I 1)) t8 (I 1)) w8 (fun t9 w9 =>
 Br t9
(D (L 3 t1) w9 (fun t10 w10 =>
 CallV Tryz.prog (Value.func (Fn.func 126) #[] #[]) #[t2, t10] w10 (fun _ w11 =>
 K7 [] w11) X) X)
(K7 [] w9)) X) X)
(fun _ w12 =>
 D (L 3 t1) w12 (fun t13 w13 =>
 CallV Tryz.prog (Value.func (Fn.func 126) #[] #[]) #[t1, t13] w13 (fun _ w14 =>
 K6 [] w14) X) X))
(fun _ w15 =>
 D (binS BinOp.quo 3 (T 9) (C (I 2)) (h4 1) (I 2)) w15 (fun t16 w16 =>
 K4 [t16] w16) X))
(D (L 3 t2) w5 (fun t17 w17 =>
 R (.returned t17) w17) X)) X)) X) X) X)
theorem sh_sign_power_ok (v0 v1 : Value) (h : sh_sign_power v0 v1 R w) : Calls Tryz.prog 106 #[v0, v1] w R :=
  calls_of_vc (c := Tryz.f106.body.getD .skip) (args := [v0, v1]) [] [1] follows_mixed Tryz.func106 rfl (of_decide_eq_true (by kernel_rfl)) (by kernel_rfl) (Eq.mp (by kernel_rfl) h)
def sh_sign_challenge (v0 v1 v2 : Value) (R : Ending → World → Prop) (w : World) : Prop := 
 letI X := Pan R
 letI D := DoV Tryz.prog
(D (Instr.buildSlice 91 2 #[(0, v0), (1, v1)]) w (fun t1 w1 =>
 CallB Tryz.prog Builtin.append #[91, 91] 91 #[false, false] #[t1, v2] w1 (fun t2 w2 =>
 CallF Tryz.prog 78 #[t2] w2 (fun t3 w3 =>
 D (binS BinOp.rem 61 (Operand.tmp 12) (Operand.const (Value.int IntKind.u64 1073741789)) t3 (Value.int IntKind.u64 1073741789)) w3 (fun t4 w4 =>
 D (convert 61 3 t4) w4 (fun t5 w5 =>
 R (.returned t5) w5) X) X) X) X) X)
theorem sh_sign_challenge_ok (v0 v1 v2 : Value) (h : sh_sign_challenge v0 v1 v2 R w) : Calls Tryz.prog 107 #[v0, v1, v2] w R :=
  calls_of_vc (c := Tryz.f107.body.getD .skip) (args := [v0, v1, v2]) [] [] follows_mixed Tryz.func107 rfl (of_decide_eq_true (by kernel_rfl)) (by kernel_rfl) (Eq.mp (by kernel_rfl) h)
def sh_landfallref05_Decimal (v0 : Value) (R : Ending → World → Prop) (w : World) : Prop := 
 letI X := Pan R
 letI D := DoV Tryz.prog
 letI B := CallB Tryz.prog
 letI I := Value.int IntKind.i64
 letI T := Operand.tmp
 letI C := Operand.const
(D (binS BinOp.eql 3 (T 8) (C (I 0)) v0 (I 0)) w (fun t1 w1 =>
 Br t1
(R (.returned (Value.string { data := #[48] })) w1)
(LoopE [3, 4, 5] [(Value.slice none 0 0), v0, undef] w1 (fun h2 w2 K2 =>
 D (binS BinOp.neq 3 (T 11) (C (I 0)) (h2 4) (I 0)) w2 (fun t3 w3 =>
 Br t3
(JoinE [3, 5] (fun K4 =>
 D (binS BinOp.rem 3 (T 15) (C (I 10)) (h2 4) (I 10)) w3 (fun t5 w5 =>
 JoinE [5] (fun K6 =>
 D (binS BinOp.lss 3 (T 17) (C (I 0)) t5 (I 0)) w5 (fun t7 w7 =>
 Br t7
(D (Op.unary UnOp.neg t5) w7 (fun t8 w8 =>
 K6 [t8] w8) X)
(K6 [t5] w7)) X)
(fun h9 w9 =>
 D (binS BinOp.add 3 (C (I 48)) (T 22) (I 48) (h9 5)) w9 (fun t10 w10 =>
 D (convert 3 5 t10) w10 (fun t11 w11 =>
 D (Instr.buildSlice 26 1 #[(0, t11)]) w11 (fun t12 w12 =>
 B Builtin.append #[26, 26] 26 #[false, false] #[(h2 3), t12] w12 (fun t13 w13 =>
 K4 [t13, (h9 5)] w13) X) X) X) X)) X)
(fun h14 w14 =>
 D (binS BinOp.quo 3 (T 13) (C (I 10)) (h2 4) (I 10)) w14 (fun t15 w15 =>
 K2 [(h14 3), t15, (h14 5)] w15) X))
(JoinE [3] (fun K16 =>
 D (binS BinOp.lss 3 (T 27) (C (I 0)) v0 (I 0)) w3 (fun t17 w17 =>
 Br t17
(D (Instr.buildSlice 26 1 #[(0, (Value.int IntKind.u8 45))]) w17 (fun t18 w18 =>
 B Builtin.append #[26, 26] 26 #[false, false] #[(h2 3), t18] w18 (fun t19 w19 =>
 K16 [t19] w19) X) X)
(K16 [(h2 3)] w17)) X)
(fun h20 w20 =>
 B Builtin.len #[26] 3 #[false] #[(h20 3)] w20 (fun t21 w21 =>
 D (binS BinOp.sub 3 (T 33) (C (I 1)) t21 (I 1)) w21 (fun t22 w22 =>
 LoopE [6, 7] [(Value.slice none 0 0), t22] w22 (fun h23 w23 K23 =>
 D (binS BinOp.geq 3 (T 35) (C (I 0)) (h23 7) (I 0)) w23 (fun t24 w24 =>
 Br t24
(D (Instr.indexAt 26 (h20 3) (h23 7)) w24 (fun t25 w25 =>
 D (Instr.loadAt 5 t25) w25 (fun t26 w26 =>
 D (Instr.buildSlice 26 1 #[(0, t26)]) w26 (fun t27 w27 =>
 B Builtin.append #[26, 26] 26 #[false, false] #[(h23 6), t27] w27 (fun t28 w28 =>
 D (binS BinOp.sub 3 (T 37) (C (I 1)) (h23 7) (I 1)) w28 (fun t29 w29 =>
 K23 [t28, t29] w29) X) X) X) X) X)
(D (convert 26 9 (h23 6)) w24 (fun t30 w30 =>
 R (.returned t30) w30) X)) X)) X) X))) X))) X)
theorem sh_landfallref05_Decimal_ok (v0 : Value) (h : sh_landfallref05_Decimal v0 R w) : Calls Tryz.prog 116 #[v0] w R :=
  calls_of_vc (c := Tryz.f116.body.getD .skip) (args := [v0]) [] [3, 4, 5, 6, 7] follows_mixed Tryz.func116 rfl (of_decide_eq_true (by kernel_rfl)) (by kernel_rfl) (Eq.mp (by kernel_rfl) h)
def sh_codec_whole (v0 : Value) (R : Ending → World → Prop) (w : World) : Prop := 
 letI X := Pan R
 letI D := DoV Tryz.prog
 letI Q := CallF Tryz.prog
 letI B := CallB Tryz.prog
 letI I := Value.int IntKind.i64
 letI T := Operand.tmp
 letI C := Operand.const
 letI L := Instr.loadAt
 letI A := Instr.indexAt
 letI O := BinOp.add
(B Builtin.len #[26] 3 #[false] #[v0] w (fun t1 w1 =>
 D (binS BinOp.lss 3 (T 10) (C (I 11)) t1 (I 11)) w1 (fun t2 w2 =>
 Br t2
(R (.returned (Value.tuple #[(Value.slice none 0 0), (I 0)])) w2)
(DrawE w2 (fun Rs3 Rb3 w3 =>
 DetOp Rb3 Rs3 w3 (fun w4 K4 => D (A 26 v0 (I 0)) w4 K4 X) (fun c13_4 ψ4 =>
 DetOp Rb3 Rs3 w3 (fun w5 K5 => D (L 5 c13_4) w5 K5 X) (fun c14_5 ψ5 =>
 DetOp Rb3 Rs3 w3 (fun w6 K6 => D (convert 5 3 c14_5) w6 K6 X) (fun c15_6 ψ6 =>
 DetOp Rb3 Rs3 w3 (fun w7 K7 => D (binS BinOp.shl 3 (T 15) (C (Value.int IntKind.u64 16)) c15_6 (Value.int IntKind.u64 16)) w7 K7 X) (fun c16_7 ψ7 =>
 DetOp Rb3 Rs3 w3 (fun w8 K8 => D (A 26 v0 (I 1)) w8 K8 X) (fun c18_8 ψ8 =>
 DetOp Rb3 Rs3 w3 (fun w9 K9 => D (L 5 c18_8) w9 K9 X) (fun c19_9 ψ9 =>
 DetOp Rb3 Rs3 w3 (fun w10 K10 => D (convert 5 3 c19_9) w10 K10 X) (fun c20_10 ψ10 =>
 DetOp Rb3 Rs3 w3 (fun w11 K11 => D (binS BinOp.shl 3 (T 20) (C (Value.int IntKind.u64 8)) c20_10 (Value.int IntKind.u64 8)) w11 K11 X) (fun c21_11 ψ11 =>
 DetOp Rb3 Rs3 w3 (fun w12 K12 => D (binS O 3 (T 16) (T 21) c16_7 c21_11) w12 K12 X) (fun c22_12 ψ12 =>
 DetOp Rb3 Rs3 w3 (fun w13 K13 => D (A 26 v0 (I 2)) w13 K13 X) (fun c24_13 ψ13 =>
 DetOp Rb3 Rs3 w3 (fun w14 K14 => D (L 5 c24_13) w14 K14 X) (fun c25_14 ψ14 =>
 DetOp Rb3 Rs3 w3 (fun w15 K15 => D (convert 5 3 c25_14) w15 K15 X) (fun c26_15 ψ15 =>
 ∀ w16, Rb3 w3 w16 → ((((((((((((True ∧ ψ4 w16) ∧ ψ5 w16) ∧ ψ6 w16) ∧ ψ7 w16) ∧ ψ8 w16) ∧ ψ9 w16) ∧ ψ10 w16) ∧ ψ11 w16) ∧ ψ12 w16) ∧ ψ13 w16) ∧ ψ14 w16) ∧ ψ15 w16) →
 D (binS O 3 (T 22) (T 26) c22_12 c26_15) w16 (fun t17 w17 =>
 D (binS O 3 (C (I 3)) (T 28) (I 3) t17) w17 (fun t18 w18 =>
 B Builtin.len #[26] 3 #[false] #[v0] w18 (fun t19 w19 =>
 D (binS O 3 (T 32) (C (I 8)) t18 (I 8)) w19 (fun t20 w20 =>
 D (binS BinOp.lss 3 (T 31) (T 33) t19 t20) w20 (fun t21 w21 =>
 Br t21
(R (.returned (Value.tuple #[(Value.slice none 0 0), (I 0)])) w21)
(D (Instr.sliceAt 26 v0 none (some t18) (some t18)) w21 (fun t22 w22 =>
 DrawE w22 (fun Rs23 Rb23 w23 =>
 DetOp Rs23 Rb23 w23 (fun w24 K24 => Q 97 #[t22] w24 K24 X) (fun c40_24 ψ24 =>
 DetOp Rb23 Rs23 w23 (fun w25 K25 => D (binS O 3 (T 43) (C (I 8)) t18 (I 8)) w25 K25 X) (fun c44_25 ψ25 =>
 DetOp Rb23 Rs23 w23 (fun w26 K26 => D (Instr.sliceAt 26 v0 (some t18) (some c44_25) none) w26 K26 X) (fun c45_26 ψ26 =>
 DetOp Rb23 Rs23 w23 (fun w27 K27 => D (Instr.arrayAt 122 c45_26) w27 K27 X) (fun c46_27 ψ27 =>
 DetOp Rb23 Rs23 w23 (fun w28 K28 => D (L 122 c46_27) w28 K28 X) (fun c47_28 ψ28 =>
 ∀ w29, Rb23 w23 w29 → (((((True ∧ ψ24 w29) ∧ ψ25 w29) ∧ ψ26 w29) ∧ ψ27 w29) ∧ ψ28 w29) →
 D (binS BinOp.neq 122 (T 40) (T 47) c40_24 c47_28) w29 (fun t30 w30 =>
 Br t30
(R (.returned (Value.tuple #[(Value.slice none 0 0), (I 0)])) w30)
(D (Instr.sliceAt 26 t22 (some (I 3)) none none) w30 (fun t31 w31 =>
 Q 132 #[t31] w31 (fun t32 w32 =>
 D (Instr.extract t32 0) w32 (fun t33 w33 =>
 D (Instr.extract t32 1) w33 (fun t34 w34 =>
 D (binS BinOp.neq 32 (T 55) (C (I 0)) t34 (I 0)) w34 (fun t35 w35 =>
 Br t35
(R (.returned (Value.tuple #[(Value.slice none 0 0), (I 0)])) w35)
(D (binS O 3 (T 58) (C (I 8)) t18 (I 8)) w35 (fun t36 w36 =>
 R (.returned (Value.tuple #[t33, t36])) w36) X)) X) X) X) X) X)) X))))))) X)) X) X) X) X) X))))))))))))))) X) X)
theorem sh_codec_whole_ok (v0 : Value) (h : sh_codec_whole v0 R w) : Calls Tryz.prog 118 #[v0] w R :=
  calls_of_vc (c := Tryz.f118.body.getD .skip) (args := [v0]) [(3, 15, false, 0), (8, 9, false, 2)] [] follows_mixed Tryz.func118 rfl (of_decide_eq_true (by kernel_rfl)) (by kernel_rfl) (Eq.mp (by kernel_rfl) h)
def sh_journal_record_1 (v0 v1 : Value) (rv : Value) (R : Ending → World → Prop) (w : World) : Prop := 
 letI X := Pan R
 letI D := DoV Tryz.prog
 letI U := DoU Tryz.prog
 letI S := Instr.storeAt
(D (Instr.typeAssert rv 20 149 true) w (fun t1 w1 =>
 D (Instr.extract t1 0) w1 (fun t2 w2 =>
 D (Instr.extract t1 1) w2 (fun t3 w3 =>
 D (Instr.alloc 149 true (.tuple #[])) w3 (fun t4 w4 =>
 U (S 149 t4 t2) w4 (fun _ w5 =>
 Br t3
(D (Instr.build 64 #[]) w5 (fun t6 w6 =>
 U (S 64 v0 t6) w6 (fun _ w7 =>
 U (S 4 v1 (Value.bool false)) w7 (fun _ w8 =>
 R (.returned (Value.tuple #[])) w8) X) X) X)
(D (binS BinOp.neq 20 (Operand.tmp 13) (Operand.const Value.nilIface) rv Value.nilIface) w5 (fun t9 w9 =>
 Br t9
(D (Instr.panic rv) w9 (fun _ w10 =>
 R (.returned (Value.tuple #[])) w10) X)
(R (.returned (Value.tuple #[])) w9)) X)) X) X) X) X) X)
theorem sh_journal_record_1_eq (v0 v1 : Value) (rv : Value) (R : Ending → World → Prop) (w : World) : vc Tryz.prog [] [] (match Tryz.f119.body with | some (.seq _ c) => c | _ => .skip) (endR R) ((2, some rv) :: (5, some rv) :: argsE [v0, v1]) [] w = sh_journal_record_1 v0 v1 rv R w := by kernel_rfl
theorem sh_journal_record_1_ok (v0 v1 : Value) {R : Ending → World → Prop} {u : FrameMode} {w : World} (h : sh_journal_record_1 v0 v1 (recV u) R w) : CallsD Tryz.prog 119 #[v0, v1] u w fun e u' w' => u' = recM u ∧ R e w' :=
  callsD_of_rec2 (args := [v0, v1]) [] [] follows_mixed Tryz.func119 rfl rfl (fun _ _ => rfl) (fun _ _ => rfl) rfl rfl rfl rfl (of_decide_eq_true (by kernel_rfl)) (of_decide_eq_true (by kernel_rfl)) (of_decide_eq_true (by kernel_rfl)) (by kernel_rfl) ((sh_journal_record_1_eq v0 v1 (recV u) R w).symm ▸ h)
def sh_journal_reader_read (v0 : Value) (R : Ending → World → Prop) (w : World) : Prop := 
 letI X := Pan R
 letI D := DoV Tryz.prog
 letI U := DoU Tryz.prog
 letI Q := CallF Tryz.prog
 letI B := CallB Tryz.prog
 letI I := Value.int IntKind.i64
 letI T := Operand.tmp
 letI C := Operand.const
 letI L := Instr.loadAt
 letI F := Instr.fieldAt
 letI S := Instr.storeAt
(NilC Tryz.prog v0 w (fun t1 w1 =>
 D (F 154 t1 1) w1 (fun t2 w2 =>
 Q 133 #[t2] w2 (fun t3 w3 =>
 NilC Tryz.prog v0 w3 (fun t4 w4 =>
 D (F 154 t4 0) w4 (fun t5 w5 =>
 D (F 64 t5 0) w5 (fun t6 w6 =>
 U (S 3 t6 t3) w6 (fun _ w7 =>
 JoinE [87] (fun K8 =>
 NilC Tryz.prog v0 w7 (fun t9 w9 =>
 D (F 154 t9 0) w9 (fun t10 w10 =>
 D (F 64 t10 0) w10 (fun t11 w11 =>
 D (L 3 t11) w11 (fun t12 w12 =>
 D (binS BinOp.eql 3 (T 18) (C (I 2)) t12 (I 2)) w12 (fun t13 w13 =>
 Br t13
(NilC Tryz.prog v0 w13 (fun t14 w14 =>
 D (F 154 t14 1) w14 (fun t15 w15 =>
 Q 133 #[t15] w15 (fun t16 w16 =>
 NilC Tryz.prog v0 w16 (fun t17 w17 =>
 D (F 154 t17 0) w17 (fun t18 w18 =>
 D (F 64 t18 2) w18 (fun t19 w19 =>
 U (S 3 t19 t16) w19 (fun _ w20 =>
 NilC Tryz.prog v0 w20 (fun t21 w21 =>
 D (F 154 t21 1) w21 (fun t22 w22 =>
 Q 134 #[t22] w22 (fun t23 w23 =>
 D (binS BinOp.mul 61 (T 33) (C (Value.int IntKind.u64 4294967296)) t23 (Value.int IntKind.u64 4294967296)) w23 (fun t24 w24 =>
 NilC Tryz.prog v0 w24 (fun t25 w25 =>
 D (F 154 t25 1) w25 (fun t26 w26 =>
 Q 134 #[t26] w26 (fun t27 w27 =>
 D (binS BinOp.add 61 (T 34) (T 38) t24 t27) w27 (fun t28 w28 =>
 NilC Tryz.prog v0 w28 (fun t29 w29 =>
 D (F 154 t29 0) w29 (fun t30 w30 =>
 D (F 64 t30 3) w30 (fun t31 w31 =>
 U (S 61 t31 t28) w31 (fun _ w32 =>
 K8 [undef] w32) X) X) X) X) X) X) X) X) X) X) X) X) X) X) X) X) X) X) X)
(NilC Tryz.prog v0 w13 (fun t33 w33 =>
 D (F 154 t33 0) w33 (fun t34 w34 =>
 D (F 64 t34 1) w34 (fun t35 w35 =>
 DrawE w35 (fun Rs36 Rb36 w36 =>
 DetOp Rb36 Rs36 w36 (fun w37 K37 => NilC Tryz.prog t35 w37 K37 X) (fun c48_37 ψ37 =>
 DetOp Rb36 Rs36 w36 (fun w38 K38 => D (F 38 c48_37 0) w38 K38 X) (fun c49_38 ψ38 =>
 DetOp Rb36 Rs36 w36 (fun w39 K39 => NilC Tryz.prog t35 w39 K39 X) (fun c51_39 ψ39 =>
 DetOp Rb36 Rs36 w36 (fun w40 K40 => D (F 38 c51_39 1) w40 K40 X) (fun c52_40 ψ40 =>
 DetOp Rb36 Rs36 w36 (fun w41 K41 => NilC Tryz.prog t35 w41 K41 X) (fun c54_41 ψ41 =>
 DetOp Rb36 Rs36 w36 (fun w42 K42 => D (F 38 c54_41 2) w42 K42 X) (fun c55_42 ψ42 =>
 DetOp Rb36 Rs36 w36 (fun w43 K43 => NilC Tryz.prog t35 w43 K43 X) (fun c57_43 ψ43 =>
 DetOp Rb36 Rs36 w36 (fun w44 K44 => D (F 38 c57_43 3) w44 K44 X) (fun c58_44 ψ44 =>
 DetOp Rb36 Rs36 w36 (fun w45 K45 => NilC Tryz.prog t35 w45 K45 X) (fun c60_45 ψ45 =>
 DetOp Rb36 Rs36 w36 (fun w46 K46 => D (F 38 c60_45 4) w46 K46 X) (fun c61_46 ψ46 =>
 DetOp Rb36 Rs36 w36 (fun w47 K47 => NilC Tryz.prog t35 w47 K47 X) (fun c63_47 ψ47 =>
 DetOp Rb36 Rs36 w36 (fun w48 K48 => D (F 38 c63_47 5) w48 K48 X) (fun c64_48 ψ48 =>
 DetOp Rb36 Rs36 w36 (fun w49 K49 => NilC Tryz.prog t35 w49 K49 X) (fun c66_49 ψ49 =>
 DetOp Rb36 Rs36 w36 (fun w50 K50 => D (F 38 c66_49 6) w50 K50 X) (fun c67_50 ψ50 =>
 DetOp Rb36 Rs36 w36 (fun w51 K51 => NilC Tryz.prog t35 w51 K51 X) (fun c69_51 ψ51 =>
 DetOp Rb36 Rs36 w36 (fun w52 K52 => D (F 38 c69_51 7) w52 K52 X) (fun c70_52 ψ52 =>
 DetOp Rb36 Rs36 w36 (fun w53 K53 => D (F 36 c70_52 0) w53 K53 X) (fun c71_53 ψ53 =>
 DetOp Rb36 Rs36 w36 (fun w54 K54 => NilC Tryz.prog t35 w54 K54 X) (fun c73_54 ψ54 =>
 DetOp Rb36 Rs36 w36 (fun w55 K55 => D (F 38 c73_54 7) w55 K55 X) (fun c74_55 ψ55 =>
 DetOp Rb36 Rs36 w36 (fun w56 K56 => D (F 36 c74_55 1) w56 K56 X) (fun c75_56 ψ56 =>
 DetOp Rb36 Rs36 w36 (fun w57 K57 => NilC Tryz.prog t35 w57 K57 X) (fun c77_57 ψ57 =>
 DetOp Rb36 Rs36 w36 (fun w58 K58 => D (F 38 c77_57 8) w58 K58 X) (fun c78_58 ψ58 =>
 DetOp Rb36 Rs36 w36 (fun w59 K59 => NilC Tryz.prog t35 w59 K59 X) (fun c80_59 ψ59 =>
 DetOp Rb36 Rs36 w36 (fun w60 K60 => D (F 38 c80_59 9) w60 K60 X) (fun c81_60 ψ60 =>
 DetOp Rb36 Rs36 w36 (fun w61 K61 => NilC Tryz.prog t35 w61 K61 X) (fun c83_61 ψ61 =>
 DetOp Rb36 Rs36 w36 (fun w62 K62 => D (F 38 c83_61 10) w62 K62 X) (fun c84_62 ψ62 =>
 DetOp Rs36 Rb36 w36 (fun w63 K63 => D (Instr.buildSlice 169 12 #[(0, c49_38), (1, c52_40), (2, c55_42), (3, c58_44), (4, c61_46), (5, c64_48), (6, c67_50), (7, c71_53), (8, c75_56), (9, c78_58), (10, c81_60), (11, c84_62)]) w63 K63 X) (fun c85_63 ψ63 =>
 DetOp Rb36 Rs36 w36 (fun w64 K64 => B Builtin.len #[169] 3 #[false] #[c85_63] w64 K64 X) (fun c86_64 ψ64 =>
 ∀ w65, Rb36 w36 w65 → ((((((((((((((((((((((((((((True ∧ ψ37 w65) ∧ ψ38 w65) ∧ ψ39 w65) ∧ ψ40 w65) ∧ ψ41 w65) ∧ ψ42 w65) ∧ ψ43 w65) ∧ ψ44 w65) ∧ ψ45 w65) ∧ ψ46 w65) ∧ ψ47 w65) ∧ ψ48 w65) ∧ ψ49 w65) ∧ ψ50 w65) ∧ ψ51 w65) ∧ ψ52 w65) ∧ ψ53 w65) ∧ ψ54 w65) ∧ ψ55 w65) ∧ ψ56 w65) ∧ ψ57 w65) ∧ ψ58 w65) ∧ ψ59 w65) ∧ ψ60 w65) ∧ ψ61 w65) ∧ ψ62 w65) ∧ ψ63 w65) ∧ ψ64 w65) →
 LoopE [87] [(I 0)] w65 (fun h66 w66 K66 =>
 D (binS BinOp.lss 3 (T 87) (T 86) (h66 87) c86_64) w66 (fun t67 w67 =>
 Br t67
(D (Instr.indexAt 169 c85_63 (h66 87)) w67 (fun t68 w68 =>
 D (L 162 t68) w68 (fun t69 w69 =>
 NilC Tryz.prog v0 w69 (fun t70 w70 =>
 D (F 154 t70 1) w70 (fun t71 w71 =>
 Q 133 #[t71] w71 (fun t72 w72 =>
 NilC Tryz.prog t69 w72 (fun t73 w73 =>
 U (S 3 t73 t72) w73 (fun _ w74 =>
 D (binS BinOp.add 3 (T 87) (C (I 1)) (h66 87) (I 1)) w74 (fun t75 w75 =>
 K66 [t75] w75) X) X) X) X) X) X) X) X)
(K8 [(h66 87)] w67)) X))))))))))))))))))))))))))))))) X) X) X)) X) X) X) X) X)
(fun _ w76 =>
 JoinE [112] (fun K77 =>
 NilC Tryz.prog v0 w76 (fun t78 w78 =>
 D (F 154 t78 1) w78 (fun t79 w79 =>
 D (F 152 t79 0) w79 (fun t80 w80 =>
 D (L 91 t80) w80 (fun t81 w81 =>
 B Builtin.len #[91] 3 #[false] #[t81] w81 (fun t82 w82 =>
 D (binS BinOp.gtr 3 (T 103) (C (I 0)) t82 (I 0)) w82 (fun t83 w83 =>
 Gd t83 false (NilC Tryz.prog v0 w83 (fun t84 w84 =>
 D (F 154 t84 0) w84 (fun t85 w85 =>
 D (L 64 t85) w85 (fun t86 w86 =>
 Q 74 #[t86] w86 (fun t87 w87 =>
 D (Op.unary UnOp.not t87) w87 (fun t88 w88 =>
 K77 [t88] w88) X) X) X) X) X)
(K77 [(Value.bool true)] w83)) X) X) X) X) X) X)
(fun h89 w89 =>
 Br (h89 112)
(D (Instr.build 149 #[]) w89 (fun t90 w90 =>
 D (Instr.makeInterface 149 t90) w90 (fun t91 w91 =>
 D (Instr.panic t91) w91 (fun _ w92 =>
 R (.returned (Value.tuple #[])) w92) X) X) X)
(R (.returned (Value.tuple #[])) w89)))) X) X) X) X) X) X) X)
theorem sh_journal_reader_read_ok (v0 : Value) (h : sh_journal_reader_read v0 R w) : Calls Tryz.prog 120 #[v0] w R :=
  calls_of_vc (c := Tryz.f120.body.getD .skip) (args := [v0]) [(6, 41, false, 39)] [87] follows_mixed Tryz.func120 rfl (of_decide_eq_true (by kernel_rfl)) (by kernel_rfl) (Eq.mp (by kernel_rfl) h)
def sh_codec_put (v0 v1 : Value) (R : Ending → World → Prop) (w : World) : Prop := 
 letI X := Pan R
 letI D := DoV Tryz.prog
 letI B := CallB Tryz.prog
 letI T := Operand.tmp
 letI C := Operand.const
(CallF Tryz.prog 135 #[v1] w (fun t1 w1 =>
 LoopE [0, 5] [v0, t1] w1 (fun h2 w2 K2 =>
 D (binS BinOp.gtr 61 (T 8) (C (Value.int IntKind.u64 127)) (h2 5) (Value.int IntKind.u64 127)) w2 (fun t3 w3 =>
 Br t3
(D (convert 61 5 (h2 5)) w3 (fun t4 w4 =>
 D (binS BinOp.or 5 (T 14) (C (Value.int IntKind.u8 128)) t4 (Value.int IntKind.u8 128)) w4 (fun t5 w5 =>
 D (Instr.buildSlice 26 1 #[(0, t5)]) w5 (fun t6 w6 =>
 B Builtin.append #[26, 26] 26 #[false, false] #[(h2 0), t6] w6 (fun t7 w7 =>
 D (binS BinOp.shr 61 (T 10) (C (Value.int IntKind.u64 7)) (h2 5) (Value.int IntKind.u64 7)) w7 (fun t8 w8 =>
 K2 [t7, t8] w8) X) X) X) X) X)
(D (convert 61 5 (h2 5)) w3 (fun t9 w9 =>
 D (Instr.buildSlice 26 1 #[(0, t9)]) w9 (fun t10 w10 =>
 B Builtin.append #[26, 26] 26 #[false, false] #[(h2 0), t10] w10 (fun t11 w11 =>
 R (.returned t11) w11) X) X) X)) X)) X)
theorem sh_codec_put_ok (v0 v1 : Value) (h : sh_codec_put v0 v1 R w) : Calls Tryz.prog 121 #[v0, v1] w R :=
  calls_of_vc (c := Tryz.f121.body.getD .skip) (args := [v0, v1]) [] [0, 5] follows_mixed Tryz.func121 rfl (of_decide_eq_true (by kernel_rfl)) (by kernel_rfl) (Eq.mp (by kernel_rfl) h)
def sh_digest_Text (v0 : Value) (R : Ending → World → Prop) (w : World) : Prop := 
 letI X := Pan R
 letI D := DoV Tryz.prog
(CallF Tryz.prog 123 #[] w (fun t1 w1 =>
 D (Instr.extract t1 0) w1 (fun t2 w2 =>
 D (Instr.extract t1 1) w2 (fun t3 w3 =>
 D (convert 9 26 v0) w3 (fun t4 w4 =>
 CallV Tryz.prog t2 #[t4] w4 (fun _ w5 =>
 CallV Tryz.prog t3 #[] w5 (fun t6 w6 =>
 R (.returned t6) w6) X) X) X) X) X) X)
theorem sh_digest_Text_ok (v0 : Value) (h : sh_digest_Text v0 R w) : Calls Tryz.prog 122 #[v0] w R :=
  calls_of_vc (c := Tryz.f122.body.getD .skip) (args := [v0]) [] [] follows_mixed Tryz.func122 rfl (of_decide_eq_true (by kernel_rfl)) (by kernel_rfl) (Eq.mp (by kernel_rfl) h)
def sh_digest_run (R : Ending → World → Prop) (w : World) : Prop := 
 letI X := Pan R
 letI D := DoV Tryz.prog
(D (Instr.alloc 61 true (.tuple #[])) w (fun t1 w1 =>
 DoU Tryz.prog (Instr.storeAt 61 t1 (Value.int IntKind.u64 14695981039346656037)) w1 (fun _ w2 =>
 D (Instr.makeFunc (Fn.func 136) #[] #[t1]) w2 (fun t3 w3 =>
 D (Instr.makeFunc (Fn.func 137) #[] #[t1]) w3 (fun t4 w4 =>
 R (.returned (Value.tuple #[t3, t4])) w4) X) X) X) X)
theorem sh_digest_run_ok (h : sh_digest_run  R w) : Calls Tryz.prog 123 #[] w R :=
  calls_of_vc (c := Tryz.f123.body.getD .skip) (args := []) [] [] follows_mixed Tryz.func123 rfl (of_decide_eq_true (by kernel_rfl)) (by kernel_rfl) (Eq.mp (by kernel_rfl) h)
def sh_landfallref08_read (v0 : Value) (R : Ending → World → Prop) (w : World) : Prop := 
 letI X := Pan R
 letI D := DoV Tryz.prog
 letI I := Value.int IntKind.i64
 letI T := Operand.tmp
 letI C := Operand.const
 letI L := Instr.loadAt
 letI A := Instr.indexAt
 letI J := BinOp.eql
 letI O := BinOp.add
(LoopE [4, 5] [(Value.int IntKind.u64 0), (I 0)] w (fun h1 w1 K1 =>
 JoinE [] (fun K2 =>
 CallB Tryz.prog Builtin.len #[26] 3 #[false] #[v0] w1 (fun t3 w3 =>
 D (binS BinOp.lss 3 (T 6) (T 8) (h1 5) t3) w3 (fun t4 w4 =>
 Gd t4 true (D (binS BinOp.lss 3 (T 11) (C (I 10)) (h1 5) (I 10)) w4 (fun t5 w5 =>
 Br t5
(K2 [] w5)
(R (.returned (Value.tuple #[(I 0), (I 0)])) w5)) X)
(R (.returned (Value.tuple #[(I 0), (I 0)])) w4)) X) X)
(fun _ w6 =>
 JoinE [] (fun K7 =>
 JoinE [24] (fun K8 =>
 D (binS J 3 (T 16) (C (I 9)) (h1 5) (I 9)) w6 (fun t9 w9 =>
 Gd t9 true (D (A 26 v0 (h1 5)) w9 (fun t10 w10 =>
 D (L 5 t10) w10 (fun t11 w11 =>
 D (binS BinOp.gtr 5 (T 22) (C (Value.int IntKind.u8 1)) t11 (Value.int IntKind.u8 1)) w11 (fun t12 w12 =>
 K8 [t12] w12) X) X) X)
(K8 [(Value.bool false)] w9)) X)
(fun h13 w13 =>
 Br (h13 24)
(R (.returned (Value.tuple #[(I 0), (I 0)])) w13)
(K7 [] w13)))
(fun _ w14 =>
 D (A 26 v0 (h1 5)) w14 (fun t15 w15 =>
 D (L 5 t15) w15 (fun t16 w16 =>
 D (binS BinOp.rem 5 (T 29) (C (Value.int IntKind.u8 128)) t16 (Value.int IntKind.u8 128)) w16 (fun t17 w17 =>
 D (convert 5 61 t17) w17 (fun t18 w18 =>
 D (convert 3 121 (h1 5)) w18 (fun t19 w19 =>
 D (binS BinOp.mul 121 (C (Value.int IntKind.u64 7)) (T 33) (Value.int IntKind.u64 7) t19) w19 (fun t20 w20 =>
 D (binS BinOp.shl 61 (T 31) (T 34) t18 t20) w20 (fun t21 w21 =>
 D (binS BinOp.or 61 (T 25) (T 35) (h1 4) t21) w21 (fun t22 w22 =>
 D (A 26 v0 (h1 5)) w22 (fun t23 w23 =>
 D (L 5 t23) w23 (fun t24 w24 =>
 D (binS BinOp.geq 5 (T 40) (C (Value.int IntKind.u8 128)) t24 (Value.int IntKind.u8 128)) w24 (fun t25 w25 =>
 Br t25
(D (binS O 3 (T 14) (C (I 1)) (h1 5) (I 1)) w25 (fun t26 w26 =>
 K1 [t22, t26] w26) X)
(JoinE [] (fun K27 =>
 JoinE [50] (fun K28 =>
 D (binS BinOp.gtr 3 (T 42) (C (I 0)) (h1 5) (I 0)) w25 (fun t29 w29 =>
 Gd t29 true (D (A 26 v0 (h1 5)) w29 (fun t30 w30 =>
 D (L 5 t30) w30 (fun t31 w31 =>
 D (binS J 5 (T 48) (C (Value.int IntKind.u8 0)) t31 (Value.int IntKind.u8 0)) w31 (fun t32 w32 =>
 K28 [t32] w32) X) X) X)
(K28 [(Value.bool false)] w29)) X)
(fun h33 w33 =>
 Br (h33 50)
(R (.returned (Value.tuple #[(I 0), (I 0)])) w33)
(K27 [] w33)))
(fun _ w34 =>
 D (binS BinOp.rem 61 (T 51) (C (Value.int IntKind.u64 2)) t22 (Value.int IntKind.u64 2)) w34 (fun t35 w35 =>
 D (binS J 61 (T 52) (C (Value.int IntKind.u64 1)) t35 (Value.int IntKind.u64 1)) w35 (fun t36 w36 =>
 Br t36
(D (binS BinOp.quo 61 (T 54) (C (Value.int IntKind.u64 2)) t22 (Value.int IntKind.u64 2)) w36 (fun t37 w37 =>
 D (convert 61 3 t37) w37 (fun t38 w38 =>
 D (Op.unary UnOp.neg t38) w38 (fun t39 w39 =>
 D (binS BinOp.sub 3 (T 57) (C (I 1)) t39 (I 1)) w39 (fun t40 w40 =>
 D (binS O 3 (T 59) (C (I 1)) (h1 5) (I 1)) w40 (fun t41 w41 =>
 R (.returned (Value.tuple #[t40, t41])) w41) X) X) X) X) X)
(D (binS BinOp.quo 61 (T 61) (C (Value.int IntKind.u64 2)) t22 (Value.int IntKind.u64 2)) w36 (fun t42 w42 =>
 D (convert 61 3 t42) w42 (fun t43 w43 =>
 D (binS O 3 (T 64) (C (I 1)) (h1 5) (I 1)) w43 (fun t44 w44 =>
 R (.returned (Value.tuple #[t43, t44])) w44) X) X) X)) X) X))) X) X) X) X) X) X) X) X) X) X) X))))
theorem sh_landfallref08_read_ok (v0 : Value) (h : sh_landfallref08_read v0 R w) : Calls Tryz.prog 125 #[v0] w R :=
  calls_of_vc (c := Tryz.f125.body.getD .skip) (args := [v0]) [] [4, 5] follows_mixed Tryz.func125 rfl (of_decide_eq_true (by kernel_rfl)) (by kernel_rfl) (Eq.mp (by kernel_rfl) h)
def sh_sign_power_1 (v0 v1 : Value) (R : Ending → World → Prop) (w : World) : Prop := 
 letI X := Pan R
 letI D := DoV Tryz.prog
 letI I := Value.int IntKind.i64
 letI T := Operand.tmp
(NilC Tryz.prog v0 w (fun t1 w1 =>
 D (Instr.loadAt 3 t1) w1 (fun t2 w2 =>
 D (binS BinOp.mul 3 (T 7) (T 8) t2 v1) w2 (fun t3 w3 =>
 D (binS BinOp.rem 3 (T 9) (Operand.const (I 2147483579)) t3 (I 2147483579)) w3 (fun t4 w4 =>
 NilC Tryz.prog v0 w4 (fun t5 w5 =>
 DoU Tryz.prog (Instr.storeAt 3 t5 t4) w5 (fun _ w6 =>
 R (.returned (Value.tuple #[])) w6) X) X) X) X) X) X)
theorem sh_sign_power_1_ok (v0 v1 : Value) (h : sh_sign_power_1 v0 v1 R w) : Calls Tryz.prog 126 #[v0, v1] w R :=
  calls_of_vc (c := Tryz.f126.body.getD .skip) (args := [v0, v1]) [] [] follows_mixed Tryz.func126 rfl (of_decide_eq_true (by kernel_rfl)) (by kernel_rfl) (Eq.mp (by kernel_rfl) h)
def sh_codec_Get (v0 : Value) (R : Ending → World → Prop) (w : World) : Prop := 
 letI D := DoV Tryz.prog
 letI U := DoU Tryz.prog
 letI Q := CallF Tryz.prog
 letI B := CallB Tryz.prog
 letI I := Value.int IntKind.i64
 letI T := Operand.tmp
 letI C := Operand.const
 letI L := Instr.loadAt
 letI S := Instr.storeAt
 letI N := Instr.alloc
(D (N 91 true (.tuple #[])) w (fun t1 w1 =>
 D (N 32 true (.tuple #[])) w1 (fun t2 w2 =>
 D (Instr.build 174 #[(0, v0)]) w2 (fun t3 w3 =>
 D (N 174 true (.tuple #[])) w3 (fun t4 w4 =>
 U (S 174 t4 t3) w4 (fun _ w5 =>
 Q 141 #[t4] w5 (fun t6 w6 =>
 JoinE [] (fun K7 =>
 JoinE [14] (fun K8 =>
 D (binS BinOp.lss 3 (T 9) (C (I 0)) t6 (I 0)) w6 (fun t9 w9 =>
 Gd t9 false (D (binS BinOp.gtr 3 (T 12) (C (I 4000)) t6 (I 4000)) w9 (fun t10 w10 =>
 K8 [t10] w10) (PanD Tryz.prog Tryz.f132 [(2, t1), (3, t2)] R [{ target := .fn (.func 140) #[], args := #[t1, t2] }]))
(K8 [(Value.bool true)] w9)) (PanD Tryz.prog Tryz.f132 [(2, t1), (3, t2)] R [{ target := .fn (.func 140) #[], args := #[t1, t2] }]))
(fun h11 w11 =>
 Br (h11 14)
(U (S 91 t1 (Value.slice none 0 0)) w11 (fun _ w12 =>
 U (S 32 t2 (I 7)) w12 (fun _ w13 =>
 LeavesE Tryz.prog Tryz.f132 [(2, t1), (3, t2)] R [{ target := .fn (.func 140) #[], args := #[t1, t2] }] .returning w13) (PanD Tryz.prog Tryz.f132 [(2, t1), (3, t2)] R [{ target := .fn (.func 140) #[], args := #[t1, t2] }])) (PanD Tryz.prog Tryz.f132 [(2, t1), (3, t2)] R [{ target := .fn (.func 140) #[], args := #[t1, t2] }]))
(K7 [] w11)))
(fun _ w14 =>
 LoopE [16] [(I 0)] w14 (fun h15 w15 K15 =>
 D (binS BinOp.lss 3 (T 16) (T 15) (h15 16) t6) w15 (fun t16 w16 =>
 Br t16
(DrawE w16 (fun Rs17 Rb17 w17 =>
 DetOp Rb17 Rs17 w17 (fun w18 K18 => D (L 91 t1) w18 K18 (PanD Tryz.prog Tryz.f132 [(2, t1), (3, t2)] R [{ target := .fn (.func 140) #[], args := #[t1, t2] }])) (fun c18_18 ψ18 =>
 DetOp Rs17 Rb17 w17 (fun w19 K19 => Q 141 #[t4] w19 K19 (PanD Tryz.prog Tryz.f132 [(2, t1), (3, t2)] R [{ target := .fn (.func 140) #[], args := #[t1, t2] }])) (fun c19_19 ψ19 =>
 NdOp Rb17 Rs17 w17 (fun w20 K20 => D (Instr.buildSlice 91 1 #[(0, c19_19)]) w20 K20 (PanD Tryz.prog Tryz.f132 [(2, t1), (3, t2)] R [{ target := .fn (.func 140) #[], args := #[t1, t2] }])) (fun v20_20 φ20 =>
 ∀ w21, Rb17 w17 w21 → ((True ∧ ψ18 w21) ∧ ψ19 w21) ∧ φ20 w21 →
 B Builtin.append #[91, 91] 91 #[false, false] #[c18_18, v20_20] w21 (fun t22 w22 =>
 U (S 91 t1 t22) w22 (fun _ w23 =>
 D (binS BinOp.add 3 (T 16) (C (I 1)) (h15 16) (I 1)) w23 (fun t24 w24 =>
 K15 [t24] w24) (PanD Tryz.prog Tryz.f132 [(2, t1), (3, t2)] R [{ target := .fn (.func 140) #[], args := #[t1, t2] }])) (PanD Tryz.prog Tryz.f132 [(2, t1), (3, t2)] R [{ target := .fn (.func 140) #[], args := #[t1, t2] }])) (PanD Tryz.prog Tryz.f132 [(2, t1), (3, t2)] R [{ target := .fn (.func 140) #[], args := #[t1, t2] }]))))))
(D (Instr.fieldAt 174 t4 0) w16 (fun t25 w25 =>
 D (L 26 t25) w25 (fun t26 w26 =>
 B Builtin.len #[26] 3 #[false] #[t26] w26 (fun t27 w27 =>
 D (binS BinOp.gtr 3 (T 25) (C (I 0)) t27 (I 0)) w27 (fun t28 w28 =>
 Br t28
(U (S 91 t1 (Value.slice none 0 0)) w28 (fun _ w29 =>
 U (S 32 t2 (I 7)) w29 (fun _ w30 =>
 LeavesE Tryz.prog Tryz.f132 [(2, t1), (3, t2)] R [{ target := .fn (.func 140) #[], args := #[t1, t2] }] .returning w30) (PanD Tryz.prog Tryz.f132 [(2, t1), (3, t2)] R [{ target := .fn (.func 140) #[], args := #[t1, t2] }])) (PanD Tryz.prog Tryz.f132 [(2, t1), (3, t2)] R [{ target := .fn (.func 140) #[], args := #[t1, t2] }]))
(D (L 91 t1) w28 (fun t31 w31 =>
 U (S 91 t1 t31) w31 (fun _ w32 =>
 U (S 32 t2 (I 0)) w32 (fun _ w33 =>
 LeavesE Tryz.prog Tryz.f132 [(2, t1), (3, t2)] R [{ target := .fn (.func 140) #[], args := #[t1, t2] }] .returning w33) (PanD Tryz.prog Tryz.f132 [(2, t1), (3, t2)] R [{ target := .fn (.func 140) #[], args := #[t1, t2] }])) (PanD Tryz.prog Tryz.f132 [(2, t1), (3, t2)] R [{ target := .fn (.func 140) #[], args := #[t1, t2] }])) (PanD Tryz.prog Tryz.f132 [(2, t1), (3, t2)] R [{ target := .fn (.func 140) #[], args := #[t1, t2] }]))) (PanD Tryz.prog Tryz.f132 [(2, t1), (3, t2)] R [{ target := .fn (.func 140) #[], args := #[t1, t2] }])) (PanD Tryz.prog Tryz.f132 [(2, t1), (3, t2)] R [{ target := .fn (.func 140) #[], args := #[t1, t2] }])) (PanD Tryz.prog Tryz.f132 [(2, t1), (3, t2)] R [{ target := .fn (.func 140) #[], args := #[t1, t2] }])) (PanD Tryz.prog Tryz.f132 [(2, t1), (3, t2)] R [{ target := .fn (.func 140) #[], args := #[t1, t2] }]))) (PanD Tryz.prog Tryz.f132 [(2, t1), (3, t2)] R [{ target := .fn (.func 140) #[], args := #[t1, t2] }])))) (PanD Tryz.prog Tryz.f132 [(2, t1), (3, t2)] R [{ target := .fn (.func 140) #[], args := #[t1, t2] }])) (PanD Tryz.prog Tryz.f132 [(2, t1), (3, t2)] R [{ target := .fn (.func 140) #[], args := #[t1, t2] }])) (PanD Tryz.prog Tryz.f132 [(2, t1), (3, t2)] R [{ target := .fn (.func 140) #[], args := #[t1, t2] }])) (PanD Tryz.prog Tryz.f132 [(2, t1), (3, t2)] R [{ target := .fn (.func 140) #[], args := #[t1, t2] }])) (PanD Tryz.prog Tryz.f132 [(2, t1), (3, undef)] R [])) (PanD Tryz.prog Tryz.f132 [(2, undef), (3, undef)] R []))
theorem sh_codec_Get_ok (v0 : Value) (h : sh_codec_Get v0 R w) : Calls Tryz.prog 132 #[v0] w R :=
  calls_of_vcD (c := Tryz.f132.body.getD .skip) (args := [v0]) [(8, 2, true, 2)] [16] follows_mixed Tryz.func132 rfl (of_decide_eq_true (by kernel_rfl)) (by kernel_rfl) (Eq.mp (by kernel_rfl) h)
def sh_journal_source_take (v0 : Value) (R : Ending → World → Prop) (w : World) : Prop := 
 letI X := Pan R
 letI D := DoV Tryz.prog
 letI I := Value.int IntKind.i64
 letI L := Instr.loadAt
 letI F := Instr.fieldAt
(JoinE [] (fun K1 =>
 NilC Tryz.prog v0 w (fun t2 w2 =>
 D (F 152 t2 0) w2 (fun t3 w3 =>
 D (L 91 t3) w3 (fun t4 w4 =>
 CallB Tryz.prog Builtin.len #[91] 3 #[false] #[t4] w4 (fun t5 w5 =>
 D (binS BinOp.eql 3 (Operand.tmp 8) (Operand.const (I 0)) t5 (I 0)) w5 (fun t6 w6 =>
 Br t6
(D (Instr.build 149 #[]) w6 (fun t7 w7 =>
 D (Instr.makeInterface 149 t7) w7 (fun t8 w8 =>
 D (Instr.panic t8) w8 (fun _ w9 =>
 K1 [] w9) X) X) X)
(K1 [] w6)) X) X) X) X) X)
(fun _ w10 =>
 NilC Tryz.prog v0 w10 (fun t11 w11 =>
 D (F 152 t11 0) w11 (fun t12 w12 =>
 D (L 91 t12) w12 (fun t13 w13 =>
 D (Instr.indexAt 91 t13 (I 0)) w13 (fun t14 w14 =>
 D (L 3 t14) w14 (fun t15 w15 =>
 NilC Tryz.prog v0 w15 (fun t16 w16 =>
 D (F 152 t16 0) w16 (fun t17 w17 =>
 D (L 91 t17) w17 (fun t18 w18 =>
 D (Instr.sliceAt 91 t18 (some (I 1)) none none) w18 (fun t19 w19 =>
 NilC Tryz.prog v0 w19 (fun t20 w20 =>
 D (F 152 t20 0) w20 (fun t21 w21 =>
 DoU Tryz.prog (Instr.storeAt 91 t21 t19) w21 (fun _ w22 =>
 R (.returned t15) w22) X) X) X) X) X) X) X) X) X) X) X) X))
theorem sh_journal_source_take_ok (v0 : Value) (h : sh_journal_source_take v0 R w) : Calls Tryz.prog 133 #[v0] w R :=
  calls_of_vc (c := Tryz.f133.body.getD .skip) (args := [v0]) [] [] follows_mixed Tryz.func133 rfl (of_decide_eq_true (by kernel_rfl)) (by kernel_rfl) (Eq.mp (by kernel_rfl) h)
def sh_journal_source_part (v0 : Value) (R : Ending → World → Prop) (w : World) : Prop := 
 letI X := Pan R
 letI D := DoV Tryz.prog
 letI I := Value.int IntKind.i64
(CallF Tryz.prog 133 #[v0] w (fun t1 w1 =>
 JoinE [] (fun K2 =>
 JoinE [11] (fun K3 =>
 D (binS BinOp.lss 3 (Operand.tmp 6) (Operand.const (I 0)) t1 (I 0)) w1 (fun t4 w4 =>
 Gd t4 false (D (binS BinOp.geq 3 (Operand.tmp 9) (Operand.const (I 4294967296)) t1 (I 4294967296)) w4 (fun t5 w5 =>
 K3 [t5] w5) X)
(K3 [(Value.bool true)] w4)) X)
(fun h6 w6 =>
 Br (h6 11)
(D (Instr.build 149 #[]) w6 (fun t7 w7 =>
 D (Instr.makeInterface 149 t7) w7 (fun t8 w8 =>
 D (Instr.panic t8) w8 (fun _ w9 =>
 K2 [] w9) X) X) X)
(K2 [] w6)))
(fun _ w10 =>
 D (convert 3 61 t1) w10 (fun t11 w11 =>
 R (.returned t11) w11) X)) X)
theorem sh_journal_source_part_ok (v0 : Value) (h : sh_journal_source_part v0 R w) : Calls Tryz.prog 134 #[v0] w R :=
  calls_of_vc (c := Tryz.f134.body.getD .skip) (args := [v0]) [] [] follows_mixed Tryz.func134 rfl (of_decide_eq_true (by kernel_rfl)) (by kernel_rfl) (Eq.mp (by kernel_rfl) h)
def sh_codec_number (v0 : Value) (R : Ending → World → Prop) (w : World) : Prop := 
 letI X := Pan R
 letI D := DoV Tryz.prog
 letI T := Operand.tmp
(D (convert 3 61 v0) w (fun t1 w1 =>
 D (binS BinOp.shl 61 (T 4) (Operand.const (Value.int IntKind.u64 1)) t1 (Value.int IntKind.u64 1)) w1 (fun t2 w2 =>
 D (binS BinOp.shr 3 (T 6) (Operand.const (Value.int IntKind.u64 63)) v0 (Value.int IntKind.u64 63)) w2 (fun t3 w3 =>
 D (convert 3 61 t3) w3 (fun t4 w4 =>
 D (binS BinOp.xor 61 (T 5) (T 8) t2 t4) w4 (fun t5 w5 =>
 R (.returned t5) w5) X) X) X) X) X)
theorem sh_codec_number_ok (v0 : Value) (h : sh_codec_number v0 R w) : Calls Tryz.prog 135 #[v0] w R :=
  calls_of_vc (c := Tryz.f135.body.getD .skip) (args := [v0]) [] [] follows_mixed Tryz.func135 rfl (of_decide_eq_true (by kernel_rfl)) (by kernel_rfl) (Eq.mp (by kernel_rfl) h)
def sh_digest_run_1 (v0 v1 : Value) (R : Ending → World → Prop) (w : World) : Prop := 
 letI X := Pan R
 letI D := DoV Tryz.prog
 letI I := Value.int IntKind.i64
 letI T := Operand.tmp
(CallB Tryz.prog Builtin.len #[26] 3 #[false] #[v0] w (fun t1 w1 =>
 LoopE [7] [(I 0)] w1 (fun h2 w2 K2 =>
 D (binS BinOp.lss 3 (T 7) (T 6) (h2 7) t1) w2 (fun t3 w3 =>
 Br t3
(D (Instr.indexAt 26 v0 (h2 7)) w3 (fun t4 w4 =>
 D (Instr.loadAt 5 t4) w4 (fun t5 w5 =>
 D (Instr.loadAt 61 v1) w5 (fun t6 w6 =>
 D (convert 5 61 t5) w6 (fun t7 w7 =>
 D (binS BinOp.xor 61 (T 11) (T 13) t6 t7) w7 (fun t8 w8 =>
 D (binS BinOp.mul 61 (T 14) (Operand.const (Value.int IntKind.u64 1099511628211)) t8 (Value.int IntKind.u64 1099511628211)) w8 (fun t9 w9 =>
 DoU Tryz.prog (Instr.storeAt 61 v1 t9) w9 (fun _ w10 =>
 D (binS BinOp.add 3 (T 7) (Operand.const (I 1)) (h2 7) (I 1)) w10 (fun t11 w11 =>
 K2 [t11] w11) X) X) X) X) X) X) X) X)
(R (.returned (Value.tuple #[])) w3)) X)) X)
theorem sh_digest_run_1_ok (v0 v1 : Value) (h : sh_digest_run_1 v0 v1 R w) : Calls Tryz.prog 136 #[v0, v1] w R :=
  calls_of_vc (c := Tryz.f136.body.getD .skip) (args := [v0, v1]) [] [7] follows_mixed Tryz.func136 rfl (of_decide_eq_true (by kernel_rfl)) (by kernel_rfl) (Eq.mp (by kernel_rfl) h)
def sh_digest_run_2 (v0 : Value) (R : Ending → World → Prop) (w : World) : Prop := 
(DoV Tryz.prog (Instr.loadAt 61 v0) w (fun t1 w1 =>
 R (.returned t1) w1) (Pan R))
theorem sh_digest_run_2_ok (v0 : Value) (h : sh_digest_run_2 v0 R w) : Calls Tryz.prog 137 #[v0] w R :=
  calls_of_vc (c := Tryz.f137.body.getD .skip) (args := [v0]) [] [] follows_mixed Tryz.func137 rfl (of_decide_eq_true (by kernel_rfl)) (by kernel_rfl) (Eq.mp (by kernel_rfl) h)
def sh_codec_caught (v0 v1 : Value) (rv : Value) (R : Ending → World → Prop) (w : World) : Prop := 
 letI X := Pan R
 letI D := DoV Tryz.prog
 letI U := DoU Tryz.prog
 letI S := Instr.storeAt
(D (binS BinOp.eql 20 (Operand.tmp 7) (Operand.const Value.nilIface) rv Value.nilIface) w (fun t1 w1 =>
 Br t1
(R (.returned (Value.tuple #[])) w1)
(D (Instr.typeAssert rv 20 177 true) w1 (fun t2 w2 =>
 D (Instr.extract t2 1) w2 (fun t3 w3 =>
 D (Instr.extract t2 0) w3 (fun t4 w4 =>
 Br t3
(D (Instr.alloc 177 true (.tuple #[])) w4 (fun t5 w5 =>
 U (S 177 t5 t4) w5 (fun _ w6 =>
 NilC Tryz.prog v0 w6 (fun t7 w7 =>
 U (S 91 t7 (Value.slice none 0 0)) w7 (fun _ w8 =>
 NilC Tryz.prog v1 w8 (fun t9 w9 =>
 U (S 32 t9 (Value.int IntKind.i64 7)) w9 (fun _ w10 =>
 R (.returned (Value.tuple #[])) w10) X) X) X) X) X) X)
(D (Instr.panic rv) w4 (fun _ w11 =>
 R (.returned (Value.tuple #[])) w11) X)) X) X) X)) X)
theorem sh_codec_caught_eq (v0 v1 : Value) (rv : Value) (R : Ending → World → Prop) (w : World) : vc Tryz.prog [] [] (match Tryz.f140.body with | some (.seq _ c) => c | _ => .skip) (endR R) ((7, some rv) :: argsE [v0, v1]) [] w = sh_codec_caught v0 v1 rv R w := by kernel_rfl
theorem sh_codec_caught_ok (v0 v1 : Value) {R : Ending → World → Prop} {u : FrameMode} {w : World} (h : sh_codec_caught v0 v1 (recV u) R w) : CallsD Tryz.prog 140 #[v0, v1] u w fun e u' w' => u' = recM u ∧ R e w' :=
  callsD_of_rec (args := [v0, v1]) [] [] follows_mixed Tryz.func140 rfl rfl (fun _ _ => rfl) rfl rfl (of_decide_eq_true (by kernel_rfl)) (of_decide_eq_true (by kernel_rfl)) (by kernel_rfl) ((sh_codec_caught_eq v0 v1 (recV u) R w).symm ▸ h)
def sh_codec_reader_next (v0 : Value) (R : Ending → World → Prop) (w : World) : Prop := 
 letI X := Pan R
 letI D := DoV Tryz.prog
 letI I := Value.int IntKind.i64
 letI T := Operand.tmp
 letI C := Operand.const
 letI L := Instr.loadAt
 letI F := Instr.fieldAt
(NilC Tryz.prog v0 w (fun t1 w1 =>
 D (F 174 t1 0) w1 (fun t2 w2 =>
 D (L 26 t2) w2 (fun t3 w3 =>
 CallB Tryz.prog Builtin.len #[26] 3 #[false] #[t3] w3 (fun t4 w4 =>
 LoopE [2, 3, 11] [(I 0), (Value.int IntKind.u64 0), (I 0)] w4 (fun h5 w5 K5 =>
 D (binS BinOp.lss 3 (T 11) (T 10) (h5 11) t4) w5 (fun t6 w6 =>
 Br t6
(D (Instr.indexAt 26 t3 (h5 11)) w6 (fun t7 w7 =>
 D (L 5 t7) w7 (fun t8 w8 =>
 JoinE [] (fun K9 =>
 JoinE [25] (fun K10 =>
 D (binS BinOp.eql 3 (T 16) (C (I 9)) (h5 11) (I 9)) w8 (fun t11 w11 =>
 Gd t11 true (D (binS BinOp.gtr 5 (T 19) (C (Value.int IntKind.u8 1)) t8 (Value.int IntKind.u8 1)) w11 (fun t12 w12 =>
 Gd t12 false (D (binS BinOp.gtr 3 (T 23) (C (I 9)) (h5 11) (I 9)) w12 (fun t13 w13 =>
 K10 [t13] w13) X)
(K10 [(Value.bool true)] w12)) X)
(D (binS BinOp.gtr 3 (T 23) (C (I 9)) (h5 11) (I 9)) w11 (fun t14 w14 =>
 K10 [t14] w14) X)) X)
(fun h15 w15 =>
 Br (h15 25)
(D (Instr.build 177 #[]) w15 (fun t16 w16 =>
 D (Instr.makeInterface 177 t16) w16 (fun t17 w17 =>
 D (Instr.panic t17) w17 (fun _ w18 =>
 K9 [] w18) X) X) X)
(K9 [] w15)))
(fun _ w19 =>
 D (binS BinOp.and 5 (T 29) (C (Value.int IntKind.u8 127)) t8 (Value.int IntKind.u8 127)) w19 (fun t20 w20 =>
 D (convert 5 61 t20) w20 (fun t21 w21 =>
 D (binS BinOp.mul 3 (C (I 7)) (T 32) (I 7) (h5 11)) w21 (fun t22 w22 =>
 D (binS BinOp.shl 61 (T 31) (T 33) t21 t22) w22 (fun t23 w23 =>
 D (binS BinOp.or 61 (T 28) (T 34) (h5 3) t23) w23 (fun t24 w24 =>
 D (binS BinOp.gtr 5 (T 36) (C (Value.int IntKind.u8 127)) t8 (Value.int IntKind.u8 127)) w24 (fun t25 w25 =>
 Br t25
(D (binS BinOp.add 3 (T 11) (C (I 1)) (h5 11) (I 1)) w25 (fun t26 w26 =>
 K5 [(h5 2), t24, t26] w26) X)
(JoinE [] (fun K27 =>
 JoinE [43] (fun K28 =>
 D (binS BinOp.eql 5 (T 38) (C (Value.int IntKind.u8 0)) t8 (Value.int IntKind.u8 0)) w25 (fun t29 w29 =>
 Gd t29 true (D (binS BinOp.gtr 3 (T 41) (C (I 0)) (h5 11) (I 0)) w29 (fun t30 w30 =>
 K28 [t30] w30) X)
(K28 [(Value.bool false)] w29)) X)
(fun h31 w31 =>
 Br (h31 43)
(D (Instr.build 177 #[]) w31 (fun t32 w32 =>
 D (Instr.makeInterface 177 t32) w32 (fun t33 w33 =>
 D (Instr.panic t33) w33 (fun _ w34 =>
 K27 [] w34) X) X) X)
(K27 [] w31)))
(fun _ w35 =>
 NilC Tryz.prog v0 w35 (fun t36 w36 =>
 D (F 174 t36 0) w36 (fun t37 w37 =>
 D (L 26 t37) w37 (fun t38 w38 =>
 D (binS BinOp.add 3 (T 51) (C (I 1)) (h5 11) (I 1)) w38 (fun t39 w39 =>
 D (Instr.sliceAt 26 t38 (some t39) none none) w39 (fun t40 w40 =>
 NilC Tryz.prog v0 w40 (fun t41 w41 =>
 D (F 174 t41 0) w41 (fun t42 w42 =>
 DoU Tryz.prog (Instr.storeAt 26 t42 t40) w42 (fun _ w43 =>
 D (binS BinOp.shr 61 (T 56) (C (Value.int IntKind.u64 1)) t24 (Value.int IntKind.u64 1)) w43 (fun t44 w44 =>
 D (convert 61 3 t44) w44 (fun t45 w45 =>
 D (binS BinOp.and 61 (T 59) (C (Value.int IntKind.u64 1)) t24 (Value.int IntKind.u64 1)) w45 (fun t46 w46 =>
 D (convert 61 3 t46) w46 (fun t47 w47 =>
 D (Op.unary UnOp.neg t47) w47 (fun t48 w48 =>
 D (binS BinOp.xor 3 (T 58) (T 62) t45 t48) w48 (fun t49 w49 =>
 R (.returned t49) w49) X) X) X) X) X) X) X) X) X) X) X) X) X) X))) X) X) X) X) X) X)) X) X)
(D (Instr.build 177 #[]) w6 (fun t50 w50 =>
 D (Instr.makeInterface 177 t50) w50 (fun t51 w51 =>
 D (Instr.panic t51) w51 (fun _ w52 =>
 R (.returned (h5 2)) w52) X) X) X)) X)) X) X) X) X)
theorem sh_codec_reader_next_ok (v0 : Value) (h : sh_codec_reader_next v0 R w) : Calls Tryz.prog 141 #[v0] w R :=
  calls_of_vc (c := Tryz.f141.body.getD .skip) (args := [v0]) [] [2, 3, 11] follows_mixed Tryz.func141 rfl (of_decide_eq_true (by kernel_rfl)) (by kernel_rfl) (Eq.mp (by kernel_rfl) h)
end Go.Proofs.YtoeblipchoglaaaGreatDoor
